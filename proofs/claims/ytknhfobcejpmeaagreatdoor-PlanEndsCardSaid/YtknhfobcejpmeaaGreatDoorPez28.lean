/-
  PlanEnds: for every input the law returns true, and each argument reads behind the call as it read before. Condition: the listed variables hold what the program's text lays in them (the card ties that to the text).
-/
import Derived.Test.YtknhfobcejpmeaaGreatDoorPez27
import Derived.Test.YtknhfobcejpmeaaGreatDoorPez01
import Derived.Deep.Slices
import Derived.Deep.Fields
import Derived.Test.YtknhfobcejpmeaaGreatDoorPez14
import Derived.LaidHandle
import Derived.Test.YtknhfobcejpmeaaGreatDoorCards
import Derived.Test.YtknhfobcejpmeaaGreatDoorTie
import Derived.Stop.Joined
import Derived.LaidSub

/- OpenOps -/
/- Records that came in, opened to cells; ops that came in. -/
namespace Go.Proofs.YtknhfobcejpmeaaGreatDoor
open Go.ChangeShapes Go.WideShapes Go.ChangeAt Go.RowKit Go.Deep
set_option linter.unusedVariables false

/-- a record's field, read from the one cell it has -/
theorem field_read {H : Type} {enc : TypeId × Value → H} {P : Program} {W : World} {te : TypeId} {fs : Array Field} {fuel base : Nat} {spare : Nat → Bool} {held : Bool} {cs : List Value} {x : DataW H × List MemPlace}
    (he : P.underlying te = some (.struct fs)) (hone : oneCellFields P fs = true) (hC : P.cellsOf te = fs.size) (h : DataW.trod enc P W base spare held fuel te cs = some x) (j : Nat) (f : Field) (hj : fs[j]? = some f) :
    ∃ v y n, cs[j]? = some v ∧ DataW.trod enc P W base spare held n f.type [v] = some y := by
  obtain ⟨xs, n, _, _, hlen, hxl, hg⟩ := DataW.trod_struct he h
  obtain ⟨ho, hk⟩ := hone_of hone j f hj
  have hjl : j < fs.size := (Array.getElem?_eq_some_iff.1 hj).1
  have hjc : j < cs.length := by omega
  have h1 := hg j f hj
  rw [ho, hk, List.drop_eq_getElem_cons hjc, List.getElem?_eq_getElem (by omega)] at h1
  exact ⟨cs[j], _, n, List.getElem?_eq_getElem hjc, h1⟩

theorem open_recs {H : Type} {enc : TypeId × Value → H} {P : Program} {W : World} {base : Nat} {ts te : TypeId} {fs : Array Field} {v : Value} {d : DataW H} {ps : List MemPlace} (ht : P.underlying ts = some (.slice te)) (he : P.underlying te = some (.struct fs))
    (hone : oneCellFields P fs = true) (hC : P.cellsOf te = fs.size) (h0 : 0 < fs.size) (hval : Value.okWide P W .any base ts v) (h : DataW.Trod enc P W 0 (fun _ => true) true ts v d ps) :
    ∃ (A : Option Addr) (len cap : Nat), v = .slice A len cap ∧ len ≤ cap ∧ cap ≤ maxLen ∧ (cap = 0 ∨ ∃ b o, A = some ⟨b, o, none⟩ ∧ b < W.heap.size ∧
      ∀ i, i < len → ∀ j f, fs[j]? = some f → ∃ v y n, W.cell? ⟨b, o + i * fs.size + j, none⟩ = some v ∧ DataW.trod enc P W 0 (fun _ => true) true n f.type [v] = some y) := by
  obtain ⟨a0, len, cap, rfl⟩ := okWide_slice ht hval
  obtain ⟨fuel, hf⟩ := h
  rcases open_slice ht hf with ⟨hcs, _⟩ | ⟨a, len', cap', m, n, D, Pl, hcs, hb, hl, hm, hmm, hx, hi⟩
  · simp [Value.cells] at hcs
    obtain ⟨rfl, rfl, rfl⟩ := hcs
    exact ⟨none, 0, 0, rfl, Nat.le_refl _, Nat.zero_le _, .inl rfl⟩
  · simp [Value.cells] at hcs
    obtain ⟨rfl, rfl, rfl⟩ := hcs
    simp only [if_true] at hmm
    subst hmm
    refine ⟨some a, len, m, rfl, hl, hm, ?_⟩
    by_cases hc0 : m = 0
    · exact .inl hc0
    · right
      obtain ⟨b, off, spot⟩ := a
      have hfl : ∀ i, i < m → ∀ j f, fs[j]? = some f → ∃ v y n, W.cell? (((⟨b, off, spot⟩ : Addr).add (i * fs.size)).add j) = some v ∧ DataW.trod enc P W 0 (fun _ => true) true n f.type [v] = some y := by
        intro i him j f hj
        obtain ⟨cs', hc, ht'⟩ := hi i him
        rw [hC] at hc
        obtain ⟨_, hcl, hat⟩ := World.cells?_some hc
        obtain ⟨v, y, n', hv, hy⟩ := field_read he hone hC ht' j f hj
        exact ⟨v, y, n', (hat j (Array.getElem?_eq_some_iff.1 hj).1).trans hv, hy⟩
      obtain ⟨f0, hf0⟩ : ∃ f, fs[0]? = some f := ⟨fs[0], Array.getElem?_eq_getElem h0⟩
      obtain ⟨v0, _, _, hc00, _⟩ := hfl 0 (by omega) 0 f0 hf0
      have hspot : spot = none := by simpa [Addr.add] using World.cell?_spot hc00
      subst hspot
      refine ⟨b, off, rfl, by simpa [Addr.add] using World.block_lt_of_cell? W _ hc00, fun i hil j f hj => ?_⟩
      obtain ⟨v, y, n', h1, h2⟩ := hfl i (by omega) j f hj
      rw [Addr.add_lit, Addr.add_lit] at h1
      exact ⟨v, y, n', h1, h2⟩

/-- the types of a struct's fields, each of one cell -/
def structTypes (P : Program) (t : TypeId) : Option (List TypeId) :=
  match P.underlying t with
  | some (.struct fs) => if oneCellFields P fs = true ∧ P.cellsOf t = fs.size then some (fs.toList.map (·.type)) else none
  | _ => none
theorem structTypes_some {P : Program} {t : TypeId} {ts : List TypeId} (h : structTypes P t = some ts) : ∃ fs : Array Field, P.underlying t = some (.struct fs) ∧ oneCellFields P fs = true ∧ P.cellsOf t = fs.size ∧ fs.size = ts.length ∧ ∀ (j : Nat) (ty : TypeId), ts[j]? = some ty → ∃ f : Field, fs[j]? = some f ∧ f.type = ty := by
  unfold structTypes at h
  split at h
  · rename_i fs hu
    split at h
    · rename_i hc
      injection h with h
      subst h
      refine ⟨fs, hu, hc.1, hc.2, by rw [List.length_map, Array.length_toList], fun j ty hj => ?_⟩
      rw [List.getElem?_map, Array.getElem?_toList] at hj
      obtain ⟨f, h1, h2⟩ := Option.map_eq_some_iff.1 hj
      exact ⟨f, h1, h2⟩
    · cases h
  · cases h
theorem open_recs' {H : Type} {enc : TypeId × Value → H} {P : Program} {W : World} {base : Nat} {ts te : TypeId} {tys : List TypeId} {v : Value} {d : DataW H} {ps : List MemPlace} (ht : P.underlying ts = some (.slice te)) (he : structTypes P te = some tys)
    (h0 : 0 < tys.length) (hval : Value.okWide P W .any base ts v) (h : DataW.Trod enc P W 0 (fun _ => true) true ts v d ps) :
    ∃ (A : Option Addr) (len cap : Nat), v = .slice A len cap ∧ len ≤ cap ∧ cap ≤ maxLen ∧ (cap = 0 ∨ ∃ b o, A = some ⟨b, o, none⟩ ∧ b < W.heap.size ∧
      ∀ i, i < len → ∀ j ty, tys[j]? = some ty → ∃ v y n, W.cell? ⟨b, o + i * tys.length + j, none⟩ = some v ∧ DataW.trod enc P W 0 (fun _ => true) true n ty [v] = some y) := by
  obtain ⟨fs, h1, h2, h3, h4, h5⟩ := structTypes_some he
  obtain ⟨A, len, cap, hv, hl, hm, hc⟩ := open_recs ht h1 h2 h3 (by omega) hval h
  refine ⟨A, len, cap, hv, hl, hm, ?_⟩
  rcases hc with hc | ⟨b, o, hA, hb, hc⟩
  · exact .inl hc
  · refine .inr ⟨b, o, hA, hb, fun i hi j ty hj => ?_⟩
    obtain ⟨f, hf, rfl⟩ := h5 j ty hj
    have := hc i hi j f hf
    rwa [h4] at this

theorem types_op : structTypes Tryz.prog 100 = some [9, 3, 3, 3, 22, 3] := by kernel_rfl

/-- an int field, a bool field -/
def gInt (w : World) (b o : Nat) : Int := match w.cell? ⟨b, o, none⟩ with
  | some (.int _ n) => n
  | _ => 0
def gBool (w : World) (b o : Nat) : Bool := match w.cell? ⟨b, o, none⟩ with
  | some (.bool n) => n
  | _ => false
theorem fld_int {H : Type} {enc : TypeId × Value → H} {P : Program} {W : World} {b o n : Nat} {ty : TypeId} {k : IntKind} {v : Value} {y : DataW H × List MemPlace} (ht : P.underlying ty = some (.int k)) (hc : W.cell? ⟨b, o, none⟩ = some v)
    (h : DataW.trod enc P W 0 (fun _ => true) true n ty [v] = some y) : W.cell? ⟨b, o, none⟩ = some (.int k (gInt W b o)) ∧ (Lit.int k (gInt W b o)).wf = true := by
  obtain ⟨z, hz, _, hw⟩ := DataW.trod_int ht h
  injection hz with hz
  subst hz
  have : gInt W b o = z := by rw [gInt, hc]
  rw [this]
  exact ⟨hc, hw⟩
theorem fld_bool {H : Type} {enc : TypeId × Value → H} {P : Program} {W : World} {b o n : Nat} {ty : TypeId} {v : Value} {y : DataW H × List MemPlace} (ht : P.underlying ty = some .bool) (hc : W.cell? ⟨b, o, none⟩ = some v)
    (h : DataW.trod enc P W 0 (fun _ => true) true n ty [v] = some y) : W.cell? ⟨b, o, none⟩ = some (.bool (gBool W b o)) := by
  obtain ⟨z, hz, _⟩ := DataW.trod_bool ht h
  injection hz with hz
  subst hz
  rw [gBool, hc]

def gStr (w : World) (b o : Nat) : ByteArray := match w.cell? ⟨b, o, none⟩ with
  | some (.string n) => n
  | _ => ByteArray.empty
theorem fld_str {H : Type} {enc : TypeId × Value → H} {P : Program} {W : World} {b o n : Nat} {ty : TypeId} {v : Value} {y : DataW H × List MemPlace} (ht : P.underlying ty = some .string) (hc : W.cell? ⟨b, o, none⟩ = some v)
    (h : DataW.trod enc P W 0 (fun _ => true) true n ty [v] = some y) : W.cell? ⟨b, o, none⟩ = some (.string (gStr W b o)) := by
  obtain ⟨z, hz, _⟩ := DataW.trod_string ht h
  injection hz with hz
  subst hz
  rw [gStr, hc]
theorem rng_int {a : Int} (h : (Lit.int .i64 a).wf = true) : i64R a := by
  have h1 := h
  simp [Lit.wf] at h1
  exact h1
/-- an op that lies there -/
def gOp (w : World) (b o : Nat) : Ir.Op := ⟨gStr w b o, gInt w b (o + 1), gInt w b (o + 2), gInt w b (o + 3), gInt w b (o + 4), gInt w b (o + 5)⟩
def gOps (w : World) (b o n : Nat) : List Ir.Op := (List.range n).map fun i => gOp w b (o + i * 6)
theorem gOps_get (w : World) (b o n i : Nat) (h : i < n) : (gOps w b o n).getD i Ir.nop = gOp w b (o + i * 6) := by
  unfold gOps
  rw [List.getD_eq_getElem?_getD, List.getElem?_map, List.getElem?_range h]
  rfl
theorem gOps_len (w : World) (b o n : Nat) : (gOps w b o n).length = n := by simp [gOps]

set_option maxRecDepth 100000 in
/-- what a slice's cells of type Op give -/
theorem ops_of_cells {H : Type} {enc : TypeId × Value → H} {W : World} {b o len cap : Nat} (hl : len ≤ cap) (hb : b < W.heap.size)
    (hc : ∀ i, i < len → ∀ j ty, [9, 3, 3, 3, 22, 3][j]? = some ty → ∃ v y n, W.cell? ⟨b, o + i * 6 + j, none⟩ = some v ∧ DataW.trod enc Tryz.prog W 0 (fun _ => true) true n ty [v] = some y) :
    OpsAt W (some ⟨b, o, none⟩) len cap (gOps W b o len) ∧ ∀ x ∈ gOps W b o len, OpOk x := by
  have f0 : ∀ i, i < len → W.cell? ⟨b, o + i * 6 + 0, none⟩ = some (.string (gStr W b (o + i * 6 + 0))) := fun i hi => by
    obtain ⟨v, y, n, h1, h2⟩ := hc i hi 0 _ rfl
    exact fld_str Tryz.underlying9 h1 h2
  have f1 : ∀ i, i < len → W.cell? ⟨b, o + i * 6 + 1, none⟩ = some (.int .i64 (gInt W b (o + i * 6 + 1))) ∧ _ := fun i hi => by
    obtain ⟨v, y, n, h1, h2⟩ := hc i hi 1 _ rfl
    exact fld_int Tryz.underlying3 h1 h2
  have f2 : ∀ i, i < len → W.cell? ⟨b, o + i * 6 + 2, none⟩ = some (.int .i64 (gInt W b (o + i * 6 + 2))) ∧ _ := fun i hi => by
    obtain ⟨v, y, n, h1, h2⟩ := hc i hi 2 _ rfl
    exact fld_int Tryz.underlying3 h1 h2
  have f3 : ∀ i, i < len → W.cell? ⟨b, o + i * 6 + 3, none⟩ = some (.int .i64 (gInt W b (o + i * 6 + 3))) ∧ _ := fun i hi => by
    obtain ⟨v, y, n, h1, h2⟩ := hc i hi 3 _ rfl
    exact fld_int Tryz.underlying3 h1 h2
  have f4 : ∀ i, i < len → W.cell? ⟨b, o + i * 6 + 4, none⟩ = some (.int .u32 (gInt W b (o + i * 6 + 4))) ∧ _ := fun i hi => by
    obtain ⟨v, y, n, h1, h2⟩ := hc i hi 4 _ rfl
    exact fld_int Tryz.underlying22 h1 h2
  have f5 : ∀ i, i < len → W.cell? ⟨b, o + i * 6 + 5, none⟩ = some (.int .i64 (gInt W b (o + i * 6 + 5))) ∧ _ := fun i hi => by
    obtain ⟨v, y, n, h1, h2⟩ := hc i hi 5 _ rfl
    exact fld_int Tryz.underlying3 h1 h2
  refine ⟨⟨gOps_len _ _ _ _, hl, .inr ⟨b, o, rfl, hb, fun i hi => ?_⟩⟩, fun x hx => ?_⟩
  · rw [gOps_get W b o len i hi]
    exact ⟨f0 i hi, (f1 i hi).1, (f2 i hi).1, (f3 i hi).1, (f4 i hi).1, (f5 i hi).1⟩
  · unfold gOps at hx
    obtain ⟨i, hi, rfl⟩ := List.mem_map.1 hx
    have hi := List.mem_range.1 hi
    have h4 := rng_u32 (f4 i hi).2
    exact ⟨rng_int (f1 i hi).2, rng_int (f2 i hi).2, rng_int (f3 i hi).2, ⟨h4.1, Int.le_of_lt_add_one h4.2⟩, rng_int (f5 i hi).2⟩
set_option maxRecDepth 100000 in
/-- OPS THAT CAME IN, to be read -/
theorem open_ops {H : Type} {enc : TypeId × Value → H} {W : World} {base : Nat} {v : Value} {d : DataW H} {ps : List MemPlace}
    (hval : Value.okWide Tryz.prog W .any base 23 v) (h : DataW.Trod enc Tryz.prog W 0 (fun _ => true) true 23 v d ps) :
    ∃ (A : Option Addr) (len cap : Nat) (l : List Ir.Op), v = .slice A len cap ∧ OpsAt W A len cap l ∧ cap ≤ 9223372036854775807 ∧ ∀ x ∈ l, OpOk x := by
  obtain ⟨A, len, cap, rfl, hl, hm, hc⟩ := open_recs' Tryz.underlying23 types_op (Nat.succ_pos _) hval h
  have hcap : cap ≤ 9223372036854775807 := by unfold maxLen at hm; omega
  rcases hc with hc | ⟨b, o, rfl, hb, hc⟩
  · refine ⟨A, len, cap, [], rfl, ⟨?_, hl, .inl hc⟩, hcap, fun x hx => by cases hx⟩
    simp
    omega
  · have := ops_of_cells (enc := enc) hl hb hc
    exact ⟨_, len, cap, _, rfl, this.1, hcap, this.2⟩
end Go.Proofs.YtknhfobcejpmeaaGreatDoor

/- SentAll -/
/- What the row's list of the ten errors and of errors.errorType gives the walks. -/
namespace Go.Proofs.YtknhfobcejpmeaaGreatDoor
open Go.ChangeShapes Go.WideShapes Go.RowKit
set_option linter.unusedVariables false

/-- one listed error: its variable, its text, its block -/
theorem laid_errP {P : Program} {n nm : String} {text : List UInt8} {r : List (String × DataW Unit)} {W : World} {g : Nat} {ti tp te ts : TypeId} {ms : Array (String × TypeId)} {f : Field}
    (h : laidMet P ((n, .iface nm (.ptr (.agg [.lit (.string text)]))) :: r) W)
    (hg : P.globalNamed n = some g) (ht : (P.globals[g]?).map (·.type) = some ti) (hi : P.underlying ti = some (.interface ms)) (hrow : ∀ u, P.typeName? 3 u = some nm → u = tp)
    (hp : P.underlying tp = some (.pointer te)) (he : P.underlying te = some (.struct #[f])) (hft : f.type = ts) (hfo : f.offset = 0) (hs : P.underlying ts = some .string) (hc : P.cellsOf te = 1) (hcs : P.cellsOf ts = 1) :
    ∃ (a : Addr) (s : ByteArray), W.cell? ⟨g, 0, none⟩ = some (.iface tp (.pointer (some a))) ∧ W.cell? a = some (.string s) ∧ s.data.toList = text ∧ ∃ c t, W.heap[a.block]? = some (.cells c t (0, 0)) := by
  obtain ⟨ps, ⟨g0, t0, cs0, f0, p0, q0, hg0, ht0, hv0, hd0, _, e0⟩, _, hrows⟩ := h
  obtain rfl := Option.some.inj (hg.symm.trans hg0)
  obtain rfl := Option.some.inj (ht.symm.trans ht0)
  subst e0
  obtain ⟨l0⟩ := cs0
  have ok0 : ∀ u v, l0 = [.iface u v] → Value.okWide P W .any 0 u v := fun u v e => by
    subst e
    exact (hrows g 0 (by simp [MemPlace.row])).2 u v (by simpa using World.var?_cell hg0 hv0 0)
  obtain ⟨a0, s0, rfl, hc0, hs0, hz0, rfl⟩ := errorString_of_trod hi hrow hp he hft hfo hs hc hcs hd0 ok0
  exact ⟨a0, s0, by simpa using World.var?_cell hg0 hv0 0, hc0, hs0, (hrows a0.block a0.off (by simp [MemPlace.row])).1⟩
theorem laid_err {n : String} {text : List UInt8} {r : List (String × DataW Unit)} {W : World} {g : Nat}
    (h : laidMet Tryz.prog ((n, .iface "*errors.errorString" (.ptr (.agg [.lit (.string text)]))) :: r) W) (hg : Tryz.prog.globalNamed n = some g) (ht : (Tryz.prog.globals[g]?).map (·.type) = some 37) :
    ∃ (a : Addr) (s : ByteArray), W.cell? ⟨g, 0, none⟩ = some (.iface 275 (.pointer (some a))) ∧ W.cell? a = some (.string s) ∧ s.data.toList = text ∧ ∃ c t, W.heap[a.block]? = some (.cells c t (0, 0)) :=
  laid_errP h hg ht Tryz.underlying37 Tryz.rowES Tryz.underlying275 Tryz.underlying296 rfl rfl Tryz.underlying9 Tryz.cells_es Tryz.cells_str
theorem Tryz.g_Text : Tryz.prog.globalNamed "changeling/api.ErrText" = some 4 := by kernel_rfl
theorem Tryz.t_Text : (Tryz.prog.globals[4]?).map (·.type) = some 37 := by kernel_rfl
theorem Tryz.g_Bound : Tryz.prog.globalNamed "changeling/api.ErrBound" = some 2 := by kernel_rfl
theorem Tryz.t_Bound : (Tryz.prog.globals[2]?).map (·.type) = some 37 := by kernel_rfl
theorem Tryz.g_Shape : Tryz.prog.globalNamed "changeling/api.ErrShape" = some 0 := by kernel_rfl
theorem Tryz.t_Shape : (Tryz.prog.globals[0]?).map (·.type) = some 37 := by kernel_rfl
theorem Tryz.g_Kind : Tryz.prog.globalNamed "changeling/api.ErrKind" = some 5 := by kernel_rfl
theorem Tryz.t_Kind : (Tryz.prog.globals[5]?).map (·.type) = some 37 := by kernel_rfl
theorem Tryz.g_Name : Tryz.prog.globalNamed "changeling/api.ErrName" = some 6 := by kernel_rfl
theorem Tryz.t_Name : (Tryz.prog.globals[6]?).map (·.type) = some 37 := by kernel_rfl
theorem Tryz.g_None : Tryz.prog.globalNamed "changeling/api.ErrNone" = some 7 := by kernel_rfl
theorem Tryz.t_None : (Tryz.prog.globals[7]?).map (·.type) = some 37 := by kernel_rfl
theorem Tryz.g_Exist : Tryz.prog.globalNamed "changeling/api.ErrExist" = some 8 := by kernel_rfl
theorem Tryz.t_Exist : (Tryz.prog.globals[8]?).map (·.type) = some 37 := by kernel_rfl
theorem Tryz.g_Full : Tryz.prog.globalNamed "changeling/api.ErrFull" = some 3 := by kernel_rfl
theorem Tryz.t_Full : (Tryz.prog.globals[3]?).map (·.type) = some 37 := by kernel_rfl
theorem Tryz.g_Align : Tryz.prog.globalNamed "changeling/api.ErrAlign" = some 1 := by kernel_rfl
theorem Tryz.t_Align : (Tryz.prog.globals[1]?).map (·.type) = some 37 := by kernel_rfl
theorem Tryz.g_Far : Tryz.prog.globalNamed "changeling/api.ErrFar" = some 9 := by kernel_rfl
theorem Tryz.t_Far : (Tryz.prog.globals[9]?).map (·.type) = some 37 := by kernel_rfl
theorem Tryz.et : Tryz.prog.globalNamed "errors.errorType" = some 10 := by kernel_rfl
theorem Tryz.rt : (Tryz.prog.cutTypes.find? (·.1 == "internal/reflectlite.rtype")).map (·.2) = some 245 := by kernel_rfl
theorem Tryz.oneRow : ((List.range Tryz.prog.types.size).filter fun t => Tryz.prog.rowNamed t [101, 114, 114, 111, 114]) = [37] := by kernel_rfl
theorem handle_of {W : World} (h : handlesMet Tryz.prog [("errors.errorType", Rows.laid_errors_errorType)] W) : W.cell? ⟨10, 0, none⟩ = some (.iface 245 (.agg #[.pointer (some ⟨12, 37, none⟩)])) := by
  obtain ⟨name, u, ty, e1, e2, e3, e4, e5⟩ := h _ (List.mem_singleton.2 rfl)
  have en : name = [101, 114, 114, 111, 114] := (Option.some.inj e1).symm
  subst en
  obtain rfl := Option.some.inj (Tryz.rt.symm.trans e2)
  have hm : ty ∈ (List.range Tryz.prog.types.size).filter fun t => Tryz.prog.rowNamed t [101, 114, 114, 111, 114] := List.mem_filter.2 ⟨List.mem_range.2 e3, e4⟩
  rw [Tryz.oneRow] at hm
  obtain rfl := List.mem_singleton.1 hm
  have hh : typeHandle Tryz.prog 37 = .pointer (some ⟨12, 37, none⟩) := by kernel_rfl
  rw [hh] at e5
  simpa using World.var?_cell Tryz.et e5 0

/-- the ten addresses by their numbers -/
def eaOf (a1 a2 a3 a4 a5 a6 a7 a8 a9 a10 : Addr) : Nat → Addr
  | 1 => a1
  | 2 => a2
  | 3 => a3
  | 4 => a4
  | 5 => a5
  | 6 => a6
  | 7 => a7
  | 8 => a8
  | 9 => a9
  | _ => a10
/-- their texts -/
def textOf : Nat → List UInt8
  | 1 => [99, 104, 97, 110, 103, 101, 108, 105, 110, 103, 58, 32, 116, 101, 120, 116]
  | 2 => [99, 104, 97, 110, 103, 101, 108, 105, 110, 103, 58, 32, 98, 111, 117, 110, 100]
  | 3 => [99, 104, 97, 110, 103, 101, 108, 105, 110, 103, 58, 32, 115, 104, 97, 112, 101]
  | 4 => [99, 104, 97, 110, 103, 101, 108, 105, 110, 103, 58, 32, 107, 105, 110, 100]
  | 5 => [99, 104, 97, 110, 103, 101, 108, 105, 110, 103, 58, 32, 110, 97, 109, 101]
  | 6 => [99, 104, 97, 110, 103, 101, 108, 105, 110, 103, 58, 32, 110, 111, 110, 101]
  | 7 => [99, 104, 97, 110, 103, 101, 108, 105, 110, 103, 58, 32, 101, 120, 105, 115, 116]
  | 8 => [99, 104, 97, 110, 103, 101, 108, 105, 110, 103, 58, 32, 102, 117, 108, 108]
  | 9 => [99, 104, 97, 110, 103, 101, 108, 105, 110, 103, 58, 32, 97, 108, 105, 103, 110]
  | _ => [99, 104, 97, 110, 103, 101, 108, 105, 110, 103, 58, 32, 102, 97, 114]
set_option maxRecDepth 100000 in
theorem textOf_ne (c d : Nat) (h1 : 1 ≤ c) (h2 : c ≤ 10) (h3 : 1 ≤ d) (h4 : d ≤ 10) (h : c ≠ d) : textOf c ≠ textOf d := by
  have key : ∀ c d : Fin 11, 1 ≤ c.val → 1 ≤ d.val → c.val ≠ d.val → textOf c.val ≠ textOf d.val := by decide
  exact key ⟨c, by omega⟩ ⟨d, by omega⟩ h1 h3 h
set_option maxRecDepth 100000 in
set_option maxHeartbeats 2000000 in
theorem errsAll {W : World} (h : laidMet Tryz.prog [("changeling/api.ErrText", Rows.laid_changeling_api_ErrText), ("changeling/api.ErrBound", Rows.laid_changeling_api_ErrBound), ("changeling/api.ErrShape", Rows.laid_changeling_api_ErrShape), ("changeling/api.ErrKind", Rows.laid_changeling_api_ErrKind), ("changeling/api.ErrName", Rows.laid_changeling_api_ErrName), ("changeling/api.ErrNone", Rows.laid_changeling_api_ErrNone), ("changeling/api.ErrExist", Rows.laid_changeling_api_ErrExist), ("changeling/api.ErrFull", Rows.laid_changeling_api_ErrFull), ("changeling/api.ErrAlign", Rows.laid_changeling_api_ErrAlign), ("changeling/api.ErrFar", Rows.laid_changeling_api_ErrFar)] W) (hh : handlesMet Tryz.prog [("errors.errorType", Rows.laid_errors_errorType)] W) : ∃ ea, ErrsAll W ea := by
  obtain ⟨a1, s1, c1, k1, x1, b1⟩ := laid_err h Tryz.g_Text Tryz.t_Text
  obtain ⟨a2, s2, c2, k2, x2, b2⟩ := laid_err h.tail Tryz.g_Bound Tryz.t_Bound
  obtain ⟨a3, s3, c3, k3, x3, b3⟩ := laid_err h.tail.tail Tryz.g_Shape Tryz.t_Shape
  obtain ⟨a4, s4, c4, k4, x4, b4⟩ := laid_err h.tail.tail.tail Tryz.g_Kind Tryz.t_Kind
  obtain ⟨a5, s5, c5, k5, x5, b5⟩ := laid_err h.tail.tail.tail.tail Tryz.g_Name Tryz.t_Name
  obtain ⟨a6, s6, c6, k6, x6, b6⟩ := laid_err h.tail.tail.tail.tail.tail Tryz.g_None Tryz.t_None
  obtain ⟨a7, s7, c7, k7, x7, b7⟩ := laid_err h.tail.tail.tail.tail.tail.tail Tryz.g_Exist Tryz.t_Exist
  obtain ⟨a8, s8, c8, k8, x8, b8⟩ := laid_err h.tail.tail.tail.tail.tail.tail.tail Tryz.g_Full Tryz.t_Full
  obtain ⟨a9, s9, c9, k9, x9, b9⟩ := laid_err h.tail.tail.tail.tail.tail.tail.tail.tail Tryz.g_Align Tryz.t_Align
  obtain ⟨a10, s10, c10, k10, x10, b10⟩ := laid_err h.tail.tail.tail.tail.tail.tail.tail.tail.tail Tryz.g_Far Tryz.t_Far
  have tx : ∀ c, 1 ≤ c → c ≤ 10 → ∃ s, W.cell? (eaOf a1 a2 a3 a4 a5 a6 a7 a8 a9 a10 c) = some (.string s) ∧ s.data.toList = textOf c := by
    intro c h1 h2
    have : c = 1 ∨ c = 2 ∨ c = 3 ∨ c = 4 ∨ c = 5 ∨ c = 6 ∨ c = 7 ∨ c = 8 ∨ c = 9 ∨ c = 10 := by omega
    rcases this with rfl | rfl | rfl | rfl | rfl | rfl | rfl | rfl | rfl | rfl
    · exact ⟨s1, k1, x1⟩
    · exact ⟨s2, k2, x2⟩
    · exact ⟨s3, k3, x3⟩
    · exact ⟨s4, k4, x4⟩
    · exact ⟨s5, k5, x5⟩
    · exact ⟨s6, k6, x6⟩
    · exact ⟨s7, k7, x7⟩
    · exact ⟨s8, k8, x8⟩
    · exact ⟨s9, k9, x9⟩
    · exact ⟨s10, k10, x10⟩
  refine ⟨eaOf a1 a2 a3 a4 a5 a6 a7 a8 a9 a10, ?_, ?_, ?_, handle_of hh⟩
  · intro c h1 h2
    have : c = 1 ∨ c = 2 ∨ c = 3 ∨ c = 4 ∨ c = 5 ∨ c = 6 ∨ c = 7 ∨ c = 8 ∨ c = 9 ∨ c = 10 := by omega
    rcases this with rfl | rfl | rfl | rfl | rfl | rfl | rfl | rfl | rfl | rfl
    · exact c1
    · exact c2
    · exact c3
    · exact c4
    · exact c5
    · exact c6
    · exact c7
    · exact c8
    · exact c9
    · exact c10
  · intro c h1 h2
    have : c = 1 ∨ c = 2 ∨ c = 3 ∨ c = 4 ∨ c = 5 ∨ c = 6 ∨ c = 7 ∨ c = 8 ∨ c = 9 ∨ c = 10 := by omega
    rcases this with rfl | rfl | rfl | rfl | rfl | rfl | rfl | rfl | rfl | rfl
    · exact b1
    · exact b2
    · exact b3
    · exact b4
    · exact b5
    · exact b6
    · exact b7
    · exact b8
    · exact b9
    · exact b10
  · have hx : ∀ {a b : Addr} {s t : ByteArray} {x y : List UInt8}, W.cell? a = some (.string s) → W.cell? b = some (.string t) → s.data.toList = x → t.data.toList = y → x ≠ y → a ≠ b := by
      rintro a b s t x y h1 h2 rfl rfl h3 rfl
      rw [h1] at h2
      injection h2 with h2
      injection h2 with h2
      exact h3 (by rw [h2])
    intro c d h1 h2 h3 h4 h5
    obtain ⟨s, q1, q2⟩ := tx c h1 h2
    obtain ⟨t, q3, q4⟩ := tx d h3 h4
    exact hx q1 q3 q2 q4 (textOf_ne c d h1 h2 h3 h4 h5)

/-- the five errors of package region -/
theorem errsOf5 {W : World} (h : laidMet Tryz.prog [("changeling/api.ErrBound", Rows.laid_changeling_api_ErrBound), ("changeling/api.ErrShape", Rows.laid_changeling_api_ErrShape), ("changeling/api.ErrNone", Rows.laid_changeling_api_ErrNone), ("changeling/api.ErrAlign", Rows.laid_changeling_api_ErrAlign), ("changeling/api.ErrFar", Rows.laid_changeling_api_ErrFar)] W) :
    ∃ ea : Nat → Addr, ∀ c, (c = 2 ∨ c = 3 ∨ c = 6 ∨ c = 9 ∨ c = 10) → W.cell? ⟨gOf c, 0, none⟩ = some (errV ea c) := by
  obtain ⟨a2, _, c2, _⟩ := laid_err h Tryz.g_Bound Tryz.t_Bound
  obtain ⟨a3, _, c3, _⟩ := laid_err h.tail Tryz.g_Shape Tryz.t_Shape
  obtain ⟨a6, _, c6, _⟩ := laid_err h.tail.tail Tryz.g_None Tryz.t_None
  obtain ⟨a9, _, c9, _⟩ := laid_err h.tail.tail.tail Tryz.g_Align Tryz.t_Align
  obtain ⟨a10, _, c10, _⟩ := laid_err h.tail.tail.tail.tail Tryz.g_Far Tryz.t_Far
  refine ⟨fun c => if c = 2 then a2 else if c = 3 then a3 else if c = 6 then a6 else if c = 9 then a9 else a10, fun c hc => ?_⟩
  rcases hc with rfl | rfl | rfl | rfl | rfl
  · exact c2
  · exact c3
  · exact c6
  · exact c9
  · exact c10
end Go.Proofs.YtknhfobcejpmeaaGreatDoor

/- PlanEndsLaw -/
/-
  PlanEnds: for every input the law returns true, and each argument reads behind the call as it read before. Condition: the listed variables hold what the program's text lays in them (the card ties that to the text).
-/
namespace Go.Proofs.YtknhfobcejpmeaaGreatDoor.planEnds
open Go.ChangeShapes Go.WideShapes Go.ChangeAt Go.RowKit
set_option linter.unusedVariables false

theorem door_met (os : Os) (args : Array Value) : laidMetH Tryz.prog Rows.planEndsRow.laid ((World.doorLaid Tryz.prog 400 os).forCall (fun _ _ => 0) ⟨#[], args, []⟩).memory :=
  laidMetH_of_parts3 (fuel := 8) (laidMet_of_run' 8 (by kernel_rfl) (by kernel_rfl)) (by kernel_rfl) (by kernel_rfl)

set_option maxRecDepth 100000 in
theorem lifted (os : Os) (started : os.Started) (H : Type) (enc : TypeId × Value → H) :
    ReturnsInHanded {} Tryz.checked os 3 .any (fun w args => (Rows.planEndsSpec.pre enc Tryz.prog Tryz.f3 [] false w args ∧ laidMetH Tryz.prog Rows.planEndsRow.laid w) ∧ sizedMet enc Tryz.prog Tryz.f3 (OpenSpec.ofChange Rows.planEndsSpec) false w args)
      (Rows.planEndsSpec.post enc Tryz.prog Tryz.f3 false true false false) := by
  refine returnsInHanded_of_change_and (C := Tryz.checked) (X := fun w _ => laidMetH Tryz.prog Rows.planEndsRow.laid w) (fun _ _ _ hh h => h.of_heap hh) Tryz.own started (by kernel_rfl) Tryz.func3
    (ChangeSpec.witness_shaped (enc := enc) (C := Tryz.checked) (os := os) (X := fun w _ => laidMetH Tryz.prog Rows.planEndsRow.laid w) false (World.doorLaid Tryz.prog 400 os) #[.int .u32 0, .int .i64 0, .slice none 0 0, .agg (placeL ⟨fun _ => 0, 0, 0, 0, 0, false, 0, 0, 0, 0, 0, 0⟩ none 0 0 0).toArray] 8 rfl (World.shaped_of_RefB (by kernel_rfl) (by kernel_rfl)) (by kernel_rfl) (by kernel_rfl) (by kernel_rfl) (door_met os _)) ?_
  intro W base args ds gs before hval0 hW _ _ hL _
  have hval : ∀ (j : Nat) t v, Tryz.f3.params[j]? = some t → args[j]? = some v → Value.okWide Tryz.prog W .any base t v := hval0
  have hW' := hW
  obtain ⟨p, q, hA0, hV, rfl, hfz, hnd⟩ := hW
  have hA : DataW.TrodAll enc Tryz.prog W 0 (fun _ => true) true Tryz.f3.params.toList args.toList ds p := hA0
  rw [Tryz.params3] at hA hval
  obtain ⟨v0, vs0, d0, ds0, p0, q0, hargs, rfl, rfl, h0, r0⟩ := trodAll_cons hA
  obtain ⟨v1, vs1, d1, ds1, p1, q1, rfl, rfl, rfl, h1, r1⟩ := trodAll_cons r0
  obtain ⟨v2, vs2, d2, ds2, p2, q2, rfl, rfl, rfl, h2, r2⟩ := trodAll_cons r1
  obtain ⟨v3, vs3, d3, ds3, p3, q3, rfl, rfl, rfl, h3, r3⟩ := trodAll_cons r2
  obtain ⟨rfl, rfl, rfl⟩ := trodAll_nil r3
  obtain rfl : args = #[v0, v1, v2, v3] := by cases args; simp_all
  obtain ⟨rfl, rfl⟩ := trodVars_none hV
  obtain ⟨a0, rfl, rfl, rfl, w0⟩ := open_int Tryz.underlying22 (hval 0 22 v0 rfl rfl) h0
  obtain ⟨a1, rfl, rfl, rfl, w1⟩ := open_int Tryz.underlying3 (hval 1 3 v1 rfl rfl) h1
  obtain ⟨A2, len2, cap2, l2, rfl, V2, hc2, hok2⟩ := open_ops (hval 2 23 v2 rfl rfl) h2
  have hlt3 : ∀ x ∈ p3, x.block < W.heap.size := fun x hx => hW'.lt x (by simp [hx])
  obtain ⟨s3, PA3, pn3, pcap3, page3, ws3, rfl, hR3, hpc3, hr3, hs3⟩ := open_place (hval 3 29 v3 rfl rfl) h3 hlt3
  obtain ⟨ea, E⟩ := errsAll (laidMetH_iff.1 hL).1 (laidMetH_iff.1 hL).2
  refine (planEnds_any a0 a1 A2 len2 cap2 l2 s3 PA3 pn3 pcap3 page3 ws3 W ea E V2 hc2 hok2 hR3 hpc3 hr3 hs3 (rng_u32 w0)).mono fun e W' ⟨he, hk⟩ => ?_
  subst he
  exact ⟨_, rfl, law_post Tryz.laidOut (fun t ht => by
      rw [Tryz.params3] at ht
      simp at ht
      rcases ht with rfl | rfl | rfl | rfl <;> exact ⟨by kernel_rfl, of_decide_eq_true (by kernel_rfl)⟩) (by kernel_rfl) Tryz.underlying4 rfl hW' rfl (hk.below (Nat.le_refl _) (fun _ _ h => h.elim))⟩

theorem said : Rows.PlanEndsSaid :=
  OpenClaim.holds_of_wide 3 Tryz.f3 rfl rfl rfl rfl rfl rfl rfl ⟨rfl, rfl, rfl, rfl, rfl⟩ rfl rfl rfl rfl rfl (by kernel_rfl) Tryz.func3 (by kernel_rfl)
    (of_decide_eq_true (by kernel_rfl)) (by unfold Func.isWrapper; rw [if_neg (of_decide_eq_false (by kernel_rfl))]; exact ⟨rfl, rfl⟩)
    (fun os started H enc _ => lifted os started H enc)

theorem plain (f : FuncId) (fn : Func) (hf : Tryz.pinned.checked.prog.funcNamed "changeling/changelinglaw3.PlanEnds" = some f) (hfn : Tryz.pinned.checked.prog.funcs[f]? = some fn) :
    Rows.planEndsCard.stood.looks = Tryz.pinned.checked.prog.looks [] ∧ ∀ (j : Nat) t, fn.params[j]? = some t → Tryz.pinned.checked.prog.wantsStandIn t = false := by
  obtain rfl : f = 3 := Option.some.inj ((show Tryz.prog.funcNamed "changeling/changelinglaw3.PlanEnds" = some 3 by kernel_rfl).symm.trans hf) |>.symm
  obtain rfl : fn = Tryz.f3 := (Option.some.inj (Tryz.func3.symm.trans hfn)).symm
  refine ⟨by kernel_rfl, fun j t ht => ?_⟩
  rw [Tryz.params3] at ht
  have hm := Array.mem_of_getElem? ht
  simp at hm
  rcases hm with rfl | rfl | rfl | rfl
  · exact (show Tryz.prog.wantsStandIn 22 = false by kernel_rfl)
  · exact (show Tryz.prog.wantsStandIn 3 = false by kernel_rfl)
  · exact (show Tryz.prog.wantsStandIn 23 = false by kernel_rfl)
  · exact (show Tryz.prog.wantsStandIn 29 = false by kernel_rfl)

theorem card : Rows.PlanEndsCardSaid :=
  Claim7.holds_tied_plain_at .later [] _ _ _ _ said (fun _ h => by cases h) (by kernel_rfl) (fun _ h => by cases h) planEnds_row_tie rfl ⟨rfl, rfl⟩ (by kernel_rfl) rfl plain (by kernel_rfl)
end Go.Proofs.YtknhfobcejpmeaaGreatDoor.planEnds
namespace Go.Proofs.YtknhfobcejpmeaaGreatDoor
theorem planEnds_card : Rows.PlanEndsCardSaid := planEnds.card
end Go.Proofs.YtknhfobcejpmeaaGreatDoor
