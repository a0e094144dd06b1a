/- Records that came in, opened to cells; ops that came in. -/
import Derived.Test.YtlmnmncdoiealaaDoorFrame
import Derived.Test.YtlmnmncdoiealaaDoorFacts
import Derived.Test.YtlmnmncdoiealaaDoorIrOps
import Derived.Deep.Slices
import Derived.Deep.Fields
namespace Go.Proofs.YtlmnmncdoiealaaDoor
open Go.ChangeShapes Go.WideShapes Go.ChangeAt Go.RowKit Go.Deep
set_option linter.unusedVariables false

/-- a record's field, read from the one cell it has -/
theorem field_read {H : Type} {enc : TypeId × Value → H} {P : Program} {W : World} {te : TypeId} {fs : Array Field} {fuel base : Nat} {spare : Nat → Bool} {held : Bool} {cs : List Value} {x : DataW H × List MemPlace}
    (he : P.underlying te = some (.struct fs)) (hone : oneCellFields P fs = true) (hC : P.cellsOf te = fs.size) (h : DataW.trod enc P W base spare held fuel te cs = some x) (j : Nat) (f : Field) (hj : fs[j]? = some f) :
    ∃ v y n, cs[j]? = some v ∧ DataW.trod enc P W base spare held n f.type [v] = some y := by
  obtain ⟨xs, n, _, _, hlen, hxl, hg⟩ := DataW.trod_struct he h
  obtain ⟨ho, hk⟩ := hone_of hone j f hj
  have hjl : j < fs.size := (Array.getElem?_eq_some_iff.1 hj).1
  have hjc : j < cs.length := by omega
  have h1 := hg j f hj
  rw [ho, hk, List.drop_eq_getElem_cons hjc, List.getElem?_eq_getElem (by omega)] at h1
  exact ⟨cs[j], _, n, List.getElem?_eq_getElem hjc, h1⟩

theorem open_recs {H : Type} {enc : TypeId × Value → H} {P : Program} {W : World} {base : Nat} {ts te : TypeId} {fs : Array Field} {v : Value} {d : DataW H} {ps : List MemPlace} (ht : P.underlying ts = some (.slice te)) (he : P.underlying te = some (.struct fs))
    (hone : oneCellFields P fs = true) (hC : P.cellsOf te = fs.size) (h0 : 0 < fs.size) (hval : Value.okWide P W .any base ts v) (h : DataW.Trod enc P W 0 (fun _ => true) true ts v d ps) :
    ∃ (A : Option Addr) (len cap : Nat), v = .slice A len cap ∧ len ≤ cap ∧ cap ≤ maxLen ∧ (cap = 0 ∨ ∃ b o, A = some ⟨b, o, none⟩ ∧ b < W.heap.size ∧
      ∀ i, i < len → ∀ j f, fs[j]? = some f → ∃ v y n, W.cell? ⟨b, o + i * fs.size + j, none⟩ = some v ∧ DataW.trod enc P W 0 (fun _ => true) true n f.type [v] = some y) := by
  obtain ⟨a0, len, cap, rfl⟩ := okWide_slice ht hval
  obtain ⟨fuel, hf⟩ := h
  rcases open_slice ht hf with ⟨hcs, _⟩ | ⟨a, len', cap', m, n, D, Pl, hcs, hb, hl, hm, hmm, hx, hi⟩
  · simp [Value.cells] at hcs
    obtain ⟨rfl, rfl, rfl⟩ := hcs
    exact ⟨none, 0, 0, rfl, Nat.le_refl _, Nat.zero_le _, .inl rfl⟩
  · simp [Value.cells] at hcs
    obtain ⟨rfl, rfl, rfl⟩ := hcs
    simp only [if_true] at hmm
    subst hmm
    refine ⟨some a, len, m, rfl, hl, hm, ?_⟩
    by_cases hc0 : m = 0
    · exact .inl hc0
    · right
      obtain ⟨b, off, spot⟩ := a
      have hfl : ∀ i, i < m → ∀ j f, fs[j]? = some f → ∃ v y n, W.cell? (((⟨b, off, spot⟩ : Addr).add (i * fs.size)).add j) = some v ∧ DataW.trod enc P W 0 (fun _ => true) true n f.type [v] = some y := by
        intro i him j f hj
        obtain ⟨cs', hc, ht'⟩ := hi i him
        rw [hC] at hc
        obtain ⟨_, hcl, hat⟩ := World.cells?_some hc
        obtain ⟨v, y, n', hv, hy⟩ := field_read he hone hC ht' j f hj
        exact ⟨v, y, n', (hat j (Array.getElem?_eq_some_iff.1 hj).1).trans hv, hy⟩
      obtain ⟨f0, hf0⟩ : ∃ f, fs[0]? = some f := ⟨fs[0], Array.getElem?_eq_getElem h0⟩
      obtain ⟨v0, _, _, hc00, _⟩ := hfl 0 (by omega) 0 f0 hf0
      have hspot : spot = none := by simpa [Addr.add] using World.cell?_spot hc00
      subst hspot
      refine ⟨b, off, rfl, by simpa [Addr.add] using World.block_lt_of_cell? W _ hc00, fun i hil j f hj => ?_⟩
      obtain ⟨v, y, n', h1, h2⟩ := hfl i (by omega) j f hj
      rw [Addr.add_lit, Addr.add_lit] at h1
      exact ⟨v, y, n', h1, h2⟩

/-- the types of a struct's fields, each of one cell -/
def structTypes (P : Program) (t : TypeId) : Option (List TypeId) :=
  match P.underlying t with
  | some (.struct fs) => if oneCellFields P fs = true ∧ P.cellsOf t = fs.size then some (fs.toList.map (·.type)) else none
  | _ => none
theorem structTypes_some {P : Program} {t : TypeId} {ts : List TypeId} (h : structTypes P t = some ts) : ∃ fs : Array Field, P.underlying t = some (.struct fs) ∧ oneCellFields P fs = true ∧ P.cellsOf t = fs.size ∧ fs.size = ts.length ∧ ∀ (j : Nat) (ty : TypeId), ts[j]? = some ty → ∃ f : Field, fs[j]? = some f ∧ f.type = ty := by
  unfold structTypes at h
  split at h
  · rename_i fs hu
    split at h
    · rename_i hc
      injection h with h
      subst h
      refine ⟨fs, hu, hc.1, hc.2, by rw [List.length_map, Array.length_toList], fun j ty hj => ?_⟩
      rw [List.getElem?_map, Array.getElem?_toList] at hj
      obtain ⟨f, h1, h2⟩ := Option.map_eq_some_iff.1 hj
      exact ⟨f, h1, h2⟩
    · cases h
  · cases h
theorem open_recs' {H : Type} {enc : TypeId × Value → H} {P : Program} {W : World} {base : Nat} {ts te : TypeId} {tys : List TypeId} {v : Value} {d : DataW H} {ps : List MemPlace} (ht : P.underlying ts = some (.slice te)) (he : structTypes P te = some tys)
    (h0 : 0 < tys.length) (hval : Value.okWide P W .any base ts v) (h : DataW.Trod enc P W 0 (fun _ => true) true ts v d ps) :
    ∃ (A : Option Addr) (len cap : Nat), v = .slice A len cap ∧ len ≤ cap ∧ cap ≤ maxLen ∧ (cap = 0 ∨ ∃ b o, A = some ⟨b, o, none⟩ ∧ b < W.heap.size ∧
      ∀ i, i < len → ∀ j ty, tys[j]? = some ty → ∃ v y n, W.cell? ⟨b, o + i * tys.length + j, none⟩ = some v ∧ DataW.trod enc P W 0 (fun _ => true) true n ty [v] = some y) := by
  obtain ⟨fs, h1, h2, h3, h4, h5⟩ := structTypes_some he
  obtain ⟨A, len, cap, hv, hl, hm, hc⟩ := open_recs ht h1 h2 h3 (by omega) hval h
  refine ⟨A, len, cap, hv, hl, hm, ?_⟩
  rcases hc with hc | ⟨b, o, hA, hb, hc⟩
  · exact .inl hc
  · refine .inr ⟨b, o, hA, hb, fun i hi j ty hj => ?_⟩
    obtain ⟨f, hf, rfl⟩ := h5 j ty hj
    have := hc i hi j f hf
    rwa [h4] at this

theorem types_op : structTypes Tryd.prog 35 = some [9, 3, 3, 3, 29, 3] := by kernel_rfl

/-- an int field, a bool field -/
def gInt (w : World) (b o : Nat) : Int := match w.cell? ⟨b, o, none⟩ with
  | some (.int _ n) => n
  | _ => 0
def gBool (w : World) (b o : Nat) : Bool := match w.cell? ⟨b, o, none⟩ with
  | some (.bool n) => n
  | _ => false
theorem fld_int {H : Type} {enc : TypeId × Value → H} {P : Program} {W : World} {b o n : Nat} {ty : TypeId} {k : IntKind} {v : Value} {y : DataW H × List MemPlace} (ht : P.underlying ty = some (.int k)) (hc : W.cell? ⟨b, o, none⟩ = some v)
    (h : DataW.trod enc P W 0 (fun _ => true) true n ty [v] = some y) : W.cell? ⟨b, o, none⟩ = some (.int k (gInt W b o)) ∧ (Lit.int k (gInt W b o)).wf = true := by
  obtain ⟨z, hz, _, hw⟩ := DataW.trod_int ht h
  injection hz with hz
  subst hz
  have : gInt W b o = z := by rw [gInt, hc]
  rw [this]
  exact ⟨hc, hw⟩
theorem fld_bool {H : Type} {enc : TypeId × Value → H} {P : Program} {W : World} {b o n : Nat} {ty : TypeId} {v : Value} {y : DataW H × List MemPlace} (ht : P.underlying ty = some .bool) (hc : W.cell? ⟨b, o, none⟩ = some v)
    (h : DataW.trod enc P W 0 (fun _ => true) true n ty [v] = some y) : W.cell? ⟨b, o, none⟩ = some (.bool (gBool W b o)) := by
  obtain ⟨z, hz, _⟩ := DataW.trod_bool ht h
  injection hz with hz
  subst hz
  rw [gBool, hc]

def gStr (w : World) (b o : Nat) : ByteArray := match w.cell? ⟨b, o, none⟩ with
  | some (.string n) => n
  | _ => ByteArray.empty
theorem fld_str {H : Type} {enc : TypeId × Value → H} {P : Program} {W : World} {b o n : Nat} {ty : TypeId} {v : Value} {y : DataW H × List MemPlace} (ht : P.underlying ty = some .string) (hc : W.cell? ⟨b, o, none⟩ = some v)
    (h : DataW.trod enc P W 0 (fun _ => true) true n ty [v] = some y) : W.cell? ⟨b, o, none⟩ = some (.string (gStr W b o)) := by
  obtain ⟨z, hz, _⟩ := DataW.trod_string ht h
  injection hz with hz
  subst hz
  rw [gStr, hc]
theorem rng_int {a : Int} (h : (Lit.int .i64 a).wf = true) : i64R a := by
  have h1 := h
  simp [Lit.wf] at h1
  exact h1
/-- an op that lies there -/
def gOp (w : World) (b o : Nat) : Ir.Op := ⟨gStr w b o, gInt w b (o + 1), gInt w b (o + 2), gInt w b (o + 3), gInt w b (o + 4), gInt w b (o + 5)⟩
def gOps (w : World) (b o n : Nat) : List Ir.Op := (List.range n).map fun i => gOp w b (o + i * 6)
theorem gOps_get (w : World) (b o n i : Nat) (h : i < n) : (gOps w b o n).getD i Ir.nop = gOp w b (o + i * 6) := by
  unfold gOps
  rw [List.getD_eq_getElem?_getD, List.getElem?_map, List.getElem?_range h]
  rfl
theorem gOps_len (w : World) (b o n : Nat) : (gOps w b o n).length = n := by simp [gOps]

set_option maxRecDepth 100000 in
/-- what a slice's cells of type Op give -/
theorem ops_of_cells {H : Type} {enc : TypeId × Value → H} {W : World} {b o len cap : Nat} (hl : len ≤ cap) (hb : b < W.heap.size)
    (hc : ∀ i, i < len → ∀ j ty, [9, 3, 3, 3, 29, 3][j]? = some ty → ∃ v y n, W.cell? ⟨b, o + i * 6 + j, none⟩ = some v ∧ DataW.trod enc Tryd.prog W 0 (fun _ => true) true n ty [v] = some y) :
    OpsAt W (some ⟨b, o, none⟩) len cap (gOps W b o len) ∧ ∀ x ∈ gOps W b o len, OpOk x := by
  have f0 : ∀ i, i < len → W.cell? ⟨b, o + i * 6 + 0, none⟩ = some (.string (gStr W b (o + i * 6 + 0))) := fun i hi => by
    obtain ⟨v, y, n, h1, h2⟩ := hc i hi 0 _ rfl
    exact fld_str Tryd.underlying9 h1 h2
  have f1 : ∀ i, i < len → W.cell? ⟨b, o + i * 6 + 1, none⟩ = some (.int .i64 (gInt W b (o + i * 6 + 1))) ∧ _ := fun i hi => by
    obtain ⟨v, y, n, h1, h2⟩ := hc i hi 1 _ rfl
    exact fld_int Tryd.underlying3 h1 h2
  have f2 : ∀ i, i < len → W.cell? ⟨b, o + i * 6 + 2, none⟩ = some (.int .i64 (gInt W b (o + i * 6 + 2))) ∧ _ := fun i hi => by
    obtain ⟨v, y, n, h1, h2⟩ := hc i hi 2 _ rfl
    exact fld_int Tryd.underlying3 h1 h2
  have f3 : ∀ i, i < len → W.cell? ⟨b, o + i * 6 + 3, none⟩ = some (.int .i64 (gInt W b (o + i * 6 + 3))) ∧ _ := fun i hi => by
    obtain ⟨v, y, n, h1, h2⟩ := hc i hi 3 _ rfl
    exact fld_int Tryd.underlying3 h1 h2
  have f4 : ∀ i, i < len → W.cell? ⟨b, o + i * 6 + 4, none⟩ = some (.int .u32 (gInt W b (o + i * 6 + 4))) ∧ _ := fun i hi => by
    obtain ⟨v, y, n, h1, h2⟩ := hc i hi 4 _ rfl
    exact fld_int Tryd.underlying29 h1 h2
  have f5 : ∀ i, i < len → W.cell? ⟨b, o + i * 6 + 5, none⟩ = some (.int .i64 (gInt W b (o + i * 6 + 5))) ∧ _ := fun i hi => by
    obtain ⟨v, y, n, h1, h2⟩ := hc i hi 5 _ rfl
    exact fld_int Tryd.underlying3 h1 h2
  refine ⟨⟨gOps_len _ _ _ _, hl, .inr ⟨b, o, rfl, hb, fun i hi => ?_⟩⟩, fun x hx => ?_⟩
  · rw [gOps_get W b o len i hi]
    exact ⟨f0 i hi, (f1 i hi).1, (f2 i hi).1, (f3 i hi).1, (f4 i hi).1, (f5 i hi).1⟩
  · unfold gOps at hx
    obtain ⟨i, hi, rfl⟩ := List.mem_map.1 hx
    have hi := List.mem_range.1 hi
    have h4 := rng_u32 (f4 i hi).2
    exact ⟨rng_int (f1 i hi).2, rng_int (f2 i hi).2, rng_int (f3 i hi).2, ⟨h4.1, Int.le_of_lt_add_one h4.2⟩, rng_int (f5 i hi).2⟩
set_option maxRecDepth 100000 in
/-- OPS THAT CAME IN, to be read -/
theorem open_ops {H : Type} {enc : TypeId × Value → H} {W : World} {base : Nat} {v : Value} {d : DataW H} {ps : List MemPlace}
    (hval : Value.okWide Tryd.prog W .any base 36 v) (h : DataW.Trod enc Tryd.prog W 0 (fun _ => true) true 36 v d ps) :
    ∃ (A : Option Addr) (len cap : Nat) (l : List Ir.Op), v = .slice A len cap ∧ OpsAt W A len cap l ∧ cap ≤ 9223372036854775807 ∧ ∀ x ∈ l, OpOk x := by
  obtain ⟨A, len, cap, rfl, hl, hm, hc⟩ := open_recs' Tryd.underlying36 types_op (Nat.succ_pos _) hval h
  have hcap : cap ≤ 9223372036854775807 := by unfold maxLen at hm; omega
  rcases hc with hc | ⟨b, o, rfl, hb, hc⟩
  · refine ⟨A, len, cap, [], rfl, ⟨?_, hl, .inl hc⟩, hcap, fun x hx => by cases hx⟩
    simp
    omega
  · have := ops_of_cells (enc := enc) hl hb hc
    exact ⟨_, len, cap, _, rfl, this.1, hcap, this.2⟩
end Go.Proofs.YtlmnmncdoiealaaDoor
