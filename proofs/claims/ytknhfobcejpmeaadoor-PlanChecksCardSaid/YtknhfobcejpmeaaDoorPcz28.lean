/-
  PlanChecks: for every input the law returns true, and each argument reads behind the call as it read before. Condition: the listed variables hold what the program's text lays in them (the card ties that to the text).
-/
import Derived.Test.YtknhfobcejpmeaaDoorPcz27
import Derived.Test.YtknhfobcejpmeaaDoorPcz06
import Derived.Test.YtknhfobcejpmeaaDoorErr
import Derived.LaidLaws
import Derived.MakeChecks
import Derived.Stop.LaidErr
import Derived.LaidMore
import Derived.Test.YtknhfobcejpmeaaDoorPcz25
import Derived.LaidHandle
import Derived.Test.YtknhfobcejpmeaaDoorCards
import Derived.Test.YtknhfobcejpmeaaDoorTie
import Derived.Stop.Joined
import Derived.LaidSub

/- OpenRows -/
/- Rows of ops that came in, opened to cells. -/
namespace Go.Proofs.YtknhfobcejpmeaaDoor
open Go.ChangeShapes Go.WideShapes Go.ChangeAt Go.RowKit Go.Deep
set_option linter.unusedVariables false

/-- a slice of one-cell elements that came in, its one cell as it was read -/
theorem open_ones {H : Type} {enc : TypeId × Value → H} {P : Program} {W : World} {ts te : TypeId} {fuel : Nat} {cs : List Value} {y : DataW H × List MemPlace} (ht : P.underlying ts = some (.slice te)) (hC : P.cellsOf te = 1)
    (h : DataW.trod enc P W 0 (fun _ => true) true fuel ts cs = some y) :
    ∃ (A : Option Addr) (len cap : Nat), cs = [.slice A len cap] ∧ len ≤ cap ∧ cap ≤ maxLen ∧ (cap = 0 ∨ ∃ b o, A = some ⟨b, o, none⟩ ∧ b < W.heap.size ∧
      ∀ i, i < len → ∃ v y n, W.cell? ⟨b, o + i, none⟩ = some v ∧ DataW.trod enc P W 0 (fun _ => true) true n te [v] = some y) := by
  rcases open_slice ht h with ⟨hcs, _⟩ | ⟨a, len', cap', m, n, D, Pl, hcs, hb, hl, hm, hmm, hx, hi⟩
  · subst hcs
    exact ⟨none, 0, 0, rfl, Nat.le_refl _, Nat.zero_le _, .inl rfl⟩
  · subst hcs
    simp only [if_true] at hmm
    subst hmm
    refine ⟨some a, len', m, rfl, hl, hm, ?_⟩
    by_cases hc0 : m = 0
    · exact .inl hc0
    · right
      obtain ⟨b, off, spot⟩ := a
      have hfl : ∀ i, i < m → ∃ v y n, W.cell? ((⟨b, off, spot⟩ : Addr).add i) = some v ∧ DataW.trod enc P W 0 (fun _ => true) true n te [v] = some y := by
        intro i him
        obtain ⟨cs', hc, ht'⟩ := hi i him
        rw [hC, Nat.mul_one] at hc
        obtain ⟨_, hcl, hat⟩ := World.cells?_some hc
        obtain ⟨v, hv⟩ : ∃ v, cs' = [v] := by
          match cs', hcl with
          | [v], _ => exact ⟨v, rfl⟩
        subst hv
        refine ⟨v, _, _, ?_, ht'⟩
        have := hat 0 (by omega)
        rw [Addr.add_add, Nat.add_zero] at this
        exact this
      obtain ⟨v0, _, _, hc00, _⟩ := hfl 0 (by omega)
      have hspot : spot = none := by simpa [Addr.add] using World.cell?_spot hc00
      subst hspot
      refine ⟨b, off, rfl, by simpa [Addr.add] using World.block_lt_of_cell? W _ hc00, fun i hil => ?_⟩
      obtain ⟨v, y, n', h1, h2⟩ := hfl i (by omega)
      rw [Addr.add_lit] at h1
      exact ⟨v, y, n', h1, h2⟩
/-- a slice of records, its one cell as it was read -/
theorem open_recs_c {H : Type} {enc : TypeId × Value → H} {P : Program} {W : World} {ts te : TypeId} {tys : List TypeId} {fuel : Nat} {cs : List Value} {y : DataW H × List MemPlace} (ht : P.underlying ts = some (.slice te)) (he' : structTypes P te = some tys)
    (h0' : 0 < tys.length) (h : DataW.trod enc P W 0 (fun _ => true) true fuel ts cs = some y) :
    ∃ (A : Option Addr) (len cap : Nat), cs = [.slice A len cap] ∧ len ≤ cap ∧ cap ≤ maxLen ∧ (cap = 0 ∨ ∃ b o, A = some ⟨b, o, none⟩ ∧ b < W.heap.size ∧
      ∀ i, i < len → ∀ j ty, tys[j]? = some ty → ∃ v y n, W.cell? ⟨b, o + i * tys.length + j, none⟩ = some v ∧ DataW.trod enc P W 0 (fun _ => true) true n ty [v] = some y) := by
  obtain ⟨fs, he, hone, hC, h4, h5⟩ := structTypes_some he'
  have h0 : 0 < fs.size := by omega
  rcases open_slice ht h with ⟨hcs, _⟩ | ⟨a, len', cap', m, n, D, Pl, hcs, hb, hl, hm, hmm, hx, hi⟩
  · subst hcs
    exact ⟨none, 0, 0, rfl, Nat.le_refl _, Nat.zero_le _, .inl rfl⟩
  · subst hcs
    simp only [if_true] at hmm
    subst hmm
    refine ⟨some a, len', m, rfl, hl, hm, ?_⟩
    by_cases hc0 : m = 0
    · exact .inl hc0
    · right
      obtain ⟨b, off, spot⟩ := a
      have hfl : ∀ i, i < m → ∀ j f, fs[j]? = some f → ∃ v y n, W.cell? (((⟨b, off, spot⟩ : Addr).add (i * fs.size)).add j) = some v ∧ DataW.trod enc P W 0 (fun _ => true) true n f.type [v] = some y := by
        intro i him j f hj
        obtain ⟨cs', hc, ht'⟩ := hi i him
        rw [hC] at hc
        obtain ⟨_, hcl, hat⟩ := World.cells?_some hc
        obtain ⟨v, y, n', hv, hy⟩ := field_read he hone hC ht' j f hj
        exact ⟨v, y, n', (hat j (Array.getElem?_eq_some_iff.1 hj).1).trans hv, hy⟩
      obtain ⟨f0, hf0⟩ : ∃ f, fs[0]? = some f := ⟨fs[0], Array.getElem?_eq_getElem h0⟩
      obtain ⟨v0, _, _, hc00, _⟩ := hfl 0 (by omega) 0 f0 hf0
      have hspot : spot = none := by simpa [Addr.add] using World.cell?_spot hc00
      subst hspot
      refine ⟨b, off, rfl, by simpa [Addr.add] using World.block_lt_of_cell? W _ hc00, fun i hil j ty hj => ?_⟩
      obtain ⟨f, hf, rfl⟩ := h5 j ty hj
      obtain ⟨v, y, n', h1, h2⟩ := hfl i (by omega) j f hf
      rw [Addr.add_lit, Addr.add_lit] at h1
      rw [← h4]
      exact ⟨v, y, n', h1, h2⟩
set_option maxRecDepth 100000 in
/-- ops in a cell that was read -/
theorem open_ops_c {H : Type} {enc : TypeId × Value → H} {W : World} {fuel : Nat} {v : Value} {y : DataW H × List MemPlace} (h : DataW.trod enc Tryd.prog W 0 (fun _ => true) true fuel 26 [v] = some y) :
    ∃ (A : Option Addr) (len cap : Nat) (l : List Ir.Op), v = .slice A len cap ∧ OpsAt W A len cap l ∧ cap ≤ 9223372036854775807 ∧ ∀ x ∈ l, OpOk x := by
  obtain ⟨A, len, cap, hv, hl, hm, hc⟩ := open_recs_c Tryd.underlying26 types_op (Nat.succ_pos _) h
  injection hv with hv
  subst hv
  have hcap : cap ≤ 9223372036854775807 := by unfold maxLen at hm; omega
  rcases hc with hc | ⟨b, o, rfl, hb, hc⟩
  · refine ⟨A, len, cap, [], rfl, ⟨?_, hl, .inl hc⟩, hcap, fun x hx => by cases hx⟩
    simp
    omega
  · have := ops_of_cells (enc := enc) hl hb hc
    exact ⟨_, len, cap, _, rfl, this.1, hcap, this.2⟩
theorem one_row : Tryd.prog.cellsOf 26 = 1 := by kernel_rfl
set_option maxRecDepth 100000 in
/-- rows of ops in a cell that was read -/
theorem open_rows_c {H : Type} {enc : TypeId × Value → H} {W : World} {fuel : Nat} {v : Value} {y : DataW H × List MemPlace} (h : DataW.trod enc Tryd.prog W 0 (fun _ => true) true fuel 23 [v] = some y) :
    ∃ (A : Option Addr) (len cap : Nat) (rows : List (List Ir.Op)), v = .slice A len cap ∧ RowsAt W A len cap rows ∧ cap ≤ 9223372036854775807 ∧ ∀ r ∈ rows, ∀ x ∈ r, OpOk x := by
  obtain ⟨A, len, cap, hv, hl, hm, hc⟩ := open_ones Tryd.underlying23 one_row h
  injection hv with hv
  subst hv
  have hcap : cap ≤ 9223372036854775807 := by unfold maxLen at hm; omega
  rcases hc with hc | ⟨b, o, rfl, hb, hc⟩
  · refine ⟨A, len, cap, [], rfl, ⟨?_, hl, .inl hc⟩, hcap, fun x hx => by cases hx⟩
    simp
    omega
  · have hx : ∀ i, i < len → ∃ l : List Ir.Op, (∃ Ai ci, W.cell? ⟨b, o + i, none⟩ = some (.slice Ai l.length ci) ∧ OpsAt W Ai l.length ci l ∧ ci ≤ 9223372036854775807) ∧ ∀ x ∈ l, OpOk x := fun i hi => by
      obtain ⟨v, y, n, h1, h2⟩ := hc i hi
      obtain ⟨A, len, cap, l, rfl, h3, h4, h5⟩ := open_ops_c h2
      have := h3.len
      subst this
      exact ⟨l, ⟨A, cap, h1, h3, h4⟩, h5⟩
    obtain ⟨f, hf⟩ := Classical.axiomOfChoice (fun i : { i : Nat // i < len } => hx i.1 i.2)
    refine ⟨_, len, cap, (List.range len).pmap (fun i hi => f ⟨i, hi⟩) (fun i hi => List.mem_range.1 hi), rfl, ⟨by simp, hl, .inr ⟨b, o, rfl, hb, fun i hi => ?_⟩⟩, hcap, fun r hr => ?_⟩
    · have e : ((List.range len).pmap (fun i hi => f ⟨i, hi⟩) (fun i hi => List.mem_range.1 hi)).getD i [] = f ⟨i, hi⟩ := by
        rw [List.getD_eq_getElem?_getD, List.getElem?_eq_getElem (by simpa using hi), Option.getD_some, List.getElem_pmap]
        simp
      rw [e]
      exact (hf ⟨i, hi⟩).1
    · obtain ⟨i, hi, rfl⟩ := List.mem_pmap.1 hr
      exact (hf ⟨i, _⟩).2
set_option maxRecDepth 100000 in
/-- ROWS OF OPS THAT CAME IN, to be read -/
theorem open_rows {H : Type} {enc : TypeId × Value → H} {W : World} {base : Nat} {v : Value} {d : DataW H} {ps : List MemPlace}
    (hval : Value.okWide Tryd.prog W .any base 23 v) (h : DataW.Trod enc Tryd.prog W 0 (fun _ => true) true 23 v d ps) :
    ∃ (A : Option Addr) (len cap : Nat) (rows : List (List Ir.Op)), v = .slice A len cap ∧ RowsAt W A len cap rows ∧ cap ≤ 9223372036854775807 ∧ ∀ r ∈ rows, ∀ x ∈ r, OpOk x := by
  obtain ⟨a0, len, cap, rfl⟩ := okWide_slice Tryd.underlying23 hval
  obtain ⟨fuel, hf⟩ := h
  exact open_rows_c (show DataW.trod enc Tryd.prog W 0 (fun _ => true) true fuel 23 [Value.slice a0 len cap] = some _ from hf)
end Go.Proofs.YtknhfobcejpmeaaDoor

/- Sent -/
/- What the row's list of errors gives the walks: each variable's cell. -/
namespace Go.Proofs.YtknhfobcejpmeaaDoor
open Go.ChangeShapes Go.WideShapes Go.RowKit
set_option linter.unusedVariables false

theorem Tryd.own : ownKnob Tryd.prog.godebug = none := by kernel_rfl
theorem Tryd.laidOut : laidOutB Tryd.prog = true := by kernel_rfl
theorem Tryd.cells_str : Tryd.prog.cellsOf 9 = 1 := by kernel_rfl
theorem Tryd.cells_es : Tryd.prog.cellsOf 234 = 1 := by kernel_rfl
theorem Tryd.cells_u32 : Tryd.prog.cellsOf 22 = 1 := by kernel_rfl
theorem Tryd.rowES (u : TypeId) (h : Tryd.prog.typeName? 3 u = some "*errors.errorString") : u = 213 :=
  typeName_ptr_named (nm := "errors.errorString") (by kernel_rfl) (by kernel_rfl) (by decide) u h
theorem Tryd.gShape : Tryd.prog.globalNamed "changeling/api.ErrShape" = some 2 := by kernel_rfl
theorem Tryd.gAlign : Tryd.prog.globalNamed "changeling/api.ErrAlign" = some 8 := by kernel_rfl
theorem Tryd.gFar : Tryd.prog.globalNamed "changeling/api.ErrFar" = some 9 := by kernel_rfl
theorem Tryd.tShape : (Tryd.prog.globals[2]?).map (·.type) = some 32 := by kernel_rfl
theorem Tryd.tAlign : (Tryd.prog.globals[8]?).map (·.type) = some 32 := by kernel_rfl
theorem Tryd.tFar : (Tryd.prog.globals[9]?).map (·.type) = some 32 := by kernel_rfl

/-- one listed error: its variable's cell -/
theorem sentinel_cell {n : String} {text : List UInt8} {r : List (String × DataW Unit)} {W : World} {g : Nat}
    (h : laidMet Tryd.prog ((n, .iface "*errors.errorString" (.ptr (.agg [.lit (.string text)]))) :: r) W) (hg : Tryd.prog.globalNamed n = some g) (ht : (Tryd.prog.globals[g]?).map (·.type) = some 32) :
    ∃ a : Addr, W.cell? ⟨g, 0, none⟩ = some (.iface 213 (.pointer (some a))) := by
  obtain ⟨a, s, hv, _⟩ := laid_sentinel h hg ht Tryd.underlying32 Tryd.rowES Tryd.underlying213 Tryd.underlying234 rfl rfl Tryd.underlying9 Tryd.cells_es Tryd.cells_str
  exact ⟨a, by simpa using World.var?_cell hg hv 0⟩

theorem errs3 {W : World} (h : laidMetH Tryd.prog [("changeling/api.ErrShape", Rows.laid_changeling_api_ErrShape), ("changeling/api.ErrAlign", Rows.laid_changeling_api_ErrAlign), ("changeling/api.ErrFar", Rows.laid_changeling_api_ErrFar)] W) : ∃ ea, Errs3 W ea := by
  rw [MakeChecks.laidMetH_plain _ _ _ (by kernel_rfl)] at h
  obtain ⟨a3, h3⟩ := sentinel_cell h Tryd.gShape Tryd.tShape
  obtain ⟨a9, h9⟩ := sentinel_cell h.tail Tryd.gAlign Tryd.tAlign
  obtain ⟨a10, h10⟩ := sentinel_cell h.tail.tail Tryd.gFar Tryd.tFar
  exact ⟨fun c => if c = 3 then a3 else if c = 9 then a9 else a10, h3, h9, h10⟩
end Go.Proofs.YtknhfobcejpmeaaDoor

/- SentAll -/
/- What the row's list of the ten errors and of errors.errorType gives the walks. -/
namespace Go.Proofs.YtknhfobcejpmeaaDoor
open Go.ChangeShapes Go.WideShapes Go.RowKit
set_option linter.unusedVariables false

/-- one listed error: its variable, its text, its block -/
theorem laid_errP {P : Program} {n nm : String} {text : List UInt8} {r : List (String × DataW Unit)} {W : World} {g : Nat} {ti tp te ts : TypeId} {ms : Array (String × TypeId)} {f : Field}
    (h : laidMet P ((n, .iface nm (.ptr (.agg [.lit (.string text)]))) :: r) W)
    (hg : P.globalNamed n = some g) (ht : (P.globals[g]?).map (·.type) = some ti) (hi : P.underlying ti = some (.interface ms)) (hrow : ∀ u, P.typeName? 3 u = some nm → u = tp)
    (hp : P.underlying tp = some (.pointer te)) (he : P.underlying te = some (.struct #[f])) (hft : f.type = ts) (hfo : f.offset = 0) (hs : P.underlying ts = some .string) (hc : P.cellsOf te = 1) (hcs : P.cellsOf ts = 1) :
    ∃ (a : Addr) (s : ByteArray), W.cell? ⟨g, 0, none⟩ = some (.iface tp (.pointer (some a))) ∧ W.cell? a = some (.string s) ∧ s.data.toList = text ∧ ∃ c t, W.heap[a.block]? = some (.cells c t (0, 0)) := by
  obtain ⟨ps, ⟨g0, t0, cs0, f0, p0, q0, hg0, ht0, hv0, hd0, _, e0⟩, _, hrows⟩ := h
  obtain rfl := Option.some.inj (hg.symm.trans hg0)
  obtain rfl := Option.some.inj (ht.symm.trans ht0)
  subst e0
  obtain ⟨l0⟩ := cs0
  have ok0 : ∀ u v, l0 = [.iface u v] → Value.okWide P W .any 0 u v := fun u v e => by
    subst e
    exact (hrows g 0 (by simp [MemPlace.row])).2 u v (by simpa using World.var?_cell hg0 hv0 0)
  obtain ⟨a0, s0, rfl, hc0, hs0, hz0, rfl⟩ := errorString_of_trod hi hrow hp he hft hfo hs hc hcs hd0 ok0
  exact ⟨a0, s0, by simpa using World.var?_cell hg0 hv0 0, hc0, hs0, (hrows a0.block a0.off (by simp [MemPlace.row])).1⟩
theorem laid_err {n : String} {text : List UInt8} {r : List (String × DataW Unit)} {W : World} {g : Nat}
    (h : laidMet Tryd.prog ((n, .iface "*errors.errorString" (.ptr (.agg [.lit (.string text)]))) :: r) W) (hg : Tryd.prog.globalNamed n = some g) (ht : (Tryd.prog.globals[g]?).map (·.type) = some 32) :
    ∃ (a : Addr) (s : ByteArray), W.cell? ⟨g, 0, none⟩ = some (.iface 213 (.pointer (some a))) ∧ W.cell? a = some (.string s) ∧ s.data.toList = text ∧ ∃ c t, W.heap[a.block]? = some (.cells c t (0, 0)) :=
  laid_errP h hg ht Tryd.underlying32 Tryd.rowES Tryd.underlying213 Tryd.underlying234 rfl rfl Tryd.underlying9 Tryd.cells_es Tryd.cells_str
theorem Tryd.g_Text : Tryd.prog.globalNamed "changeling/api.ErrText" = some 3 := by kernel_rfl
theorem Tryd.t_Text : (Tryd.prog.globals[3]?).map (·.type) = some 32 := by kernel_rfl
theorem Tryd.g_Bound : Tryd.prog.globalNamed "changeling/api.ErrBound" = some 0 := by kernel_rfl
theorem Tryd.t_Bound : (Tryd.prog.globals[0]?).map (·.type) = some 32 := by kernel_rfl
theorem Tryd.g_Shape : Tryd.prog.globalNamed "changeling/api.ErrShape" = some 2 := by kernel_rfl
theorem Tryd.t_Shape : (Tryd.prog.globals[2]?).map (·.type) = some 32 := by kernel_rfl
theorem Tryd.g_Kind : Tryd.prog.globalNamed "changeling/api.ErrKind" = some 4 := by kernel_rfl
theorem Tryd.t_Kind : (Tryd.prog.globals[4]?).map (·.type) = some 32 := by kernel_rfl
theorem Tryd.g_Name : Tryd.prog.globalNamed "changeling/api.ErrName" = some 5 := by kernel_rfl
theorem Tryd.t_Name : (Tryd.prog.globals[5]?).map (·.type) = some 32 := by kernel_rfl
theorem Tryd.g_None : Tryd.prog.globalNamed "changeling/api.ErrNone" = some 6 := by kernel_rfl
theorem Tryd.t_None : (Tryd.prog.globals[6]?).map (·.type) = some 32 := by kernel_rfl
theorem Tryd.g_Exist : Tryd.prog.globalNamed "changeling/api.ErrExist" = some 7 := by kernel_rfl
theorem Tryd.t_Exist : (Tryd.prog.globals[7]?).map (·.type) = some 32 := by kernel_rfl
theorem Tryd.g_Full : Tryd.prog.globalNamed "changeling/api.ErrFull" = some 1 := by kernel_rfl
theorem Tryd.t_Full : (Tryd.prog.globals[1]?).map (·.type) = some 32 := by kernel_rfl
theorem Tryd.g_Align : Tryd.prog.globalNamed "changeling/api.ErrAlign" = some 8 := by kernel_rfl
theorem Tryd.t_Align : (Tryd.prog.globals[8]?).map (·.type) = some 32 := by kernel_rfl
theorem Tryd.g_Far : Tryd.prog.globalNamed "changeling/api.ErrFar" = some 9 := by kernel_rfl
theorem Tryd.t_Far : (Tryd.prog.globals[9]?).map (·.type) = some 32 := by kernel_rfl
theorem Tryd.et : Tryd.prog.globalNamed "errors.errorType" = some 10 := by kernel_rfl
theorem Tryd.rt : (Tryd.prog.cutTypes.find? (·.1 == "internal/reflectlite.rtype")).map (·.2) = some 186 := by kernel_rfl
theorem Tryd.oneRow : ((List.range Tryd.prog.types.size).filter fun t => Tryd.prog.rowNamed t [101, 114, 114, 111, 114]) = [32] := by kernel_rfl
theorem handle_of {W : World} (h : handlesMet Tryd.prog [("errors.errorType", Rows.laid_errors_errorType)] W) : W.cell? ⟨10, 0, none⟩ = some (.iface 186 (.agg #[.pointer (some ⟨12, 32, none⟩)])) := by
  obtain ⟨name, u, ty, e1, e2, e3, e4, e5⟩ := h _ (List.mem_singleton.2 rfl)
  have en : name = [101, 114, 114, 111, 114] := (Option.some.inj e1).symm
  subst en
  obtain rfl := Option.some.inj (Tryd.rt.symm.trans e2)
  have hm : ty ∈ (List.range Tryd.prog.types.size).filter fun t => Tryd.prog.rowNamed t [101, 114, 114, 111, 114] := List.mem_filter.2 ⟨List.mem_range.2 e3, e4⟩
  rw [Tryd.oneRow] at hm
  obtain rfl := List.mem_singleton.1 hm
  have hh : typeHandle Tryd.prog 32 = .pointer (some ⟨12, 32, none⟩) := by kernel_rfl
  rw [hh] at e5
  simpa using World.var?_cell Tryd.et e5 0

/-- the ten addresses by their numbers -/
def eaOf (a1 a2 a3 a4 a5 a6 a7 a8 a9 a10 : Addr) : Nat → Addr
  | 1 => a1
  | 2 => a2
  | 3 => a3
  | 4 => a4
  | 5 => a5
  | 6 => a6
  | 7 => a7
  | 8 => a8
  | 9 => a9
  | _ => a10
/-- their texts -/
def textOf : Nat → List UInt8
  | 1 => [99, 104, 97, 110, 103, 101, 108, 105, 110, 103, 58, 32, 116, 101, 120, 116]
  | 2 => [99, 104, 97, 110, 103, 101, 108, 105, 110, 103, 58, 32, 98, 111, 117, 110, 100]
  | 3 => [99, 104, 97, 110, 103, 101, 108, 105, 110, 103, 58, 32, 115, 104, 97, 112, 101]
  | 4 => [99, 104, 97, 110, 103, 101, 108, 105, 110, 103, 58, 32, 107, 105, 110, 100]
  | 5 => [99, 104, 97, 110, 103, 101, 108, 105, 110, 103, 58, 32, 110, 97, 109, 101]
  | 6 => [99, 104, 97, 110, 103, 101, 108, 105, 110, 103, 58, 32, 110, 111, 110, 101]
  | 7 => [99, 104, 97, 110, 103, 101, 108, 105, 110, 103, 58, 32, 101, 120, 105, 115, 116]
  | 8 => [99, 104, 97, 110, 103, 101, 108, 105, 110, 103, 58, 32, 102, 117, 108, 108]
  | 9 => [99, 104, 97, 110, 103, 101, 108, 105, 110, 103, 58, 32, 97, 108, 105, 103, 110]
  | _ => [99, 104, 97, 110, 103, 101, 108, 105, 110, 103, 58, 32, 102, 97, 114]
set_option maxRecDepth 100000 in
theorem textOf_ne (c d : Nat) (h1 : 1 ≤ c) (h2 : c ≤ 10) (h3 : 1 ≤ d) (h4 : d ≤ 10) (h : c ≠ d) : textOf c ≠ textOf d := by
  have key : ∀ c d : Fin 11, 1 ≤ c.val → 1 ≤ d.val → c.val ≠ d.val → textOf c.val ≠ textOf d.val := by decide
  exact key ⟨c, by omega⟩ ⟨d, by omega⟩ h1 h3 h
set_option maxRecDepth 100000 in
set_option maxHeartbeats 2000000 in
theorem errsAll {W : World} (h : laidMet Tryd.prog [("changeling/api.ErrText", Rows.laid_changeling_api_ErrText), ("changeling/api.ErrBound", Rows.laid_changeling_api_ErrBound), ("changeling/api.ErrShape", Rows.laid_changeling_api_ErrShape), ("changeling/api.ErrKind", Rows.laid_changeling_api_ErrKind), ("changeling/api.ErrName", Rows.laid_changeling_api_ErrName), ("changeling/api.ErrNone", Rows.laid_changeling_api_ErrNone), ("changeling/api.ErrExist", Rows.laid_changeling_api_ErrExist), ("changeling/api.ErrFull", Rows.laid_changeling_api_ErrFull), ("changeling/api.ErrAlign", Rows.laid_changeling_api_ErrAlign), ("changeling/api.ErrFar", Rows.laid_changeling_api_ErrFar)] W) (hh : handlesMet Tryd.prog [("errors.errorType", Rows.laid_errors_errorType)] W) : ∃ ea, ErrsAll W ea := by
  obtain ⟨a1, s1, c1, k1, x1, b1⟩ := laid_err h Tryd.g_Text Tryd.t_Text
  obtain ⟨a2, s2, c2, k2, x2, b2⟩ := laid_err h.tail Tryd.g_Bound Tryd.t_Bound
  obtain ⟨a3, s3, c3, k3, x3, b3⟩ := laid_err h.tail.tail Tryd.g_Shape Tryd.t_Shape
  obtain ⟨a4, s4, c4, k4, x4, b4⟩ := laid_err h.tail.tail.tail Tryd.g_Kind Tryd.t_Kind
  obtain ⟨a5, s5, c5, k5, x5, b5⟩ := laid_err h.tail.tail.tail.tail Tryd.g_Name Tryd.t_Name
  obtain ⟨a6, s6, c6, k6, x6, b6⟩ := laid_err h.tail.tail.tail.tail.tail Tryd.g_None Tryd.t_None
  obtain ⟨a7, s7, c7, k7, x7, b7⟩ := laid_err h.tail.tail.tail.tail.tail.tail Tryd.g_Exist Tryd.t_Exist
  obtain ⟨a8, s8, c8, k8, x8, b8⟩ := laid_err h.tail.tail.tail.tail.tail.tail.tail Tryd.g_Full Tryd.t_Full
  obtain ⟨a9, s9, c9, k9, x9, b9⟩ := laid_err h.tail.tail.tail.tail.tail.tail.tail.tail Tryd.g_Align Tryd.t_Align
  obtain ⟨a10, s10, c10, k10, x10, b10⟩ := laid_err h.tail.tail.tail.tail.tail.tail.tail.tail.tail Tryd.g_Far Tryd.t_Far
  have tx : ∀ c, 1 ≤ c → c ≤ 10 → ∃ s, W.cell? (eaOf a1 a2 a3 a4 a5 a6 a7 a8 a9 a10 c) = some (.string s) ∧ s.data.toList = textOf c := by
    intro c h1 h2
    have : c = 1 ∨ c = 2 ∨ c = 3 ∨ c = 4 ∨ c = 5 ∨ c = 6 ∨ c = 7 ∨ c = 8 ∨ c = 9 ∨ c = 10 := by omega
    rcases this with rfl | rfl | rfl | rfl | rfl | rfl | rfl | rfl | rfl | rfl
    · exact ⟨s1, k1, x1⟩
    · exact ⟨s2, k2, x2⟩
    · exact ⟨s3, k3, x3⟩
    · exact ⟨s4, k4, x4⟩
    · exact ⟨s5, k5, x5⟩
    · exact ⟨s6, k6, x6⟩
    · exact ⟨s7, k7, x7⟩
    · exact ⟨s8, k8, x8⟩
    · exact ⟨s9, k9, x9⟩
    · exact ⟨s10, k10, x10⟩
  refine ⟨eaOf a1 a2 a3 a4 a5 a6 a7 a8 a9 a10, ?_, ?_, ?_, handle_of hh⟩
  · intro c h1 h2
    have : c = 1 ∨ c = 2 ∨ c = 3 ∨ c = 4 ∨ c = 5 ∨ c = 6 ∨ c = 7 ∨ c = 8 ∨ c = 9 ∨ c = 10 := by omega
    rcases this with rfl | rfl | rfl | rfl | rfl | rfl | rfl | rfl | rfl | rfl
    · exact c1
    · exact c2
    · exact c3
    · exact c4
    · exact c5
    · exact c6
    · exact c7
    · exact c8
    · exact c9
    · exact c10
  · intro c h1 h2
    have : c = 1 ∨ c = 2 ∨ c = 3 ∨ c = 4 ∨ c = 5 ∨ c = 6 ∨ c = 7 ∨ c = 8 ∨ c = 9 ∨ c = 10 := by omega
    rcases this with rfl | rfl | rfl | rfl | rfl | rfl | rfl | rfl | rfl | rfl
    · exact b1
    · exact b2
    · exact b3
    · exact b4
    · exact b5
    · exact b6
    · exact b7
    · exact b8
    · exact b9
    · exact b10
  · have hx : ∀ {a b : Addr} {s t : ByteArray} {x y : List UInt8}, W.cell? a = some (.string s) → W.cell? b = some (.string t) → s.data.toList = x → t.data.toList = y → x ≠ y → a ≠ b := by
      rintro a b s t x y h1 h2 rfl rfl h3 rfl
      rw [h1] at h2
      injection h2 with h2
      injection h2 with h2
      exact h3 (by rw [h2])
    intro c d h1 h2 h3 h4 h5
    obtain ⟨s, q1, q2⟩ := tx c h1 h2
    obtain ⟨t, q3, q4⟩ := tx d h3 h4
    exact hx q1 q3 q2 q4 (textOf_ne c d h1 h2 h3 h4 h5)

/-- the five errors of package region -/
theorem errsOf5 {W : World} (h : laidMet Tryd.prog [("changeling/api.ErrBound", Rows.laid_changeling_api_ErrBound), ("changeling/api.ErrShape", Rows.laid_changeling_api_ErrShape), ("changeling/api.ErrNone", Rows.laid_changeling_api_ErrNone), ("changeling/api.ErrAlign", Rows.laid_changeling_api_ErrAlign), ("changeling/api.ErrFar", Rows.laid_changeling_api_ErrFar)] W) :
    ∃ ea : Nat → Addr, ∀ c, (c = 2 ∨ c = 3 ∨ c = 6 ∨ c = 9 ∨ c = 10) → W.cell? ⟨gOf c, 0, none⟩ = some (errV ea c) := by
  obtain ⟨a2, _, c2, _⟩ := laid_err h Tryd.g_Bound Tryd.t_Bound
  obtain ⟨a3, _, c3, _⟩ := laid_err h.tail Tryd.g_Shape Tryd.t_Shape
  obtain ⟨a6, _, c6, _⟩ := laid_err h.tail.tail Tryd.g_None Tryd.t_None
  obtain ⟨a9, _, c9, _⟩ := laid_err h.tail.tail.tail Tryd.g_Align Tryd.t_Align
  obtain ⟨a10, _, c10, _⟩ := laid_err h.tail.tail.tail.tail Tryd.g_Far Tryd.t_Far
  refine ⟨fun c => if c = 2 then a2 else if c = 3 then a3 else if c = 6 then a6 else if c = 9 then a9 else a10, fun c hc => ?_⟩
  rcases hc with rfl | rfl | rfl | rfl | rfl
  · exact c2
  · exact c3
  · exact c6
  · exact c9
  · exact c10
end Go.Proofs.YtknhfobcejpmeaaDoor

/- PlanChecksLaw -/
/-
  PlanChecks: for every input the law returns true, and each argument reads behind the call as it read before. Condition: the listed variables hold what the program's text lays in them (the card ties that to the text).
-/
namespace Go.Proofs.YtknhfobcejpmeaaDoor.planChecks
open Go.ChangeShapes Go.WideShapes Go.ChangeAt Go.RowKit
set_option linter.unusedVariables false

theorem door_met (os : Os) (args : Array Value) : laidMetH Tryd.prog Rows.planChecksRow.laid ((World.doorLaid Tryd.prog 400 os).forCall (fun _ _ => 0) ⟨#[], args, []⟩).memory :=
  laidMetH_of_parts3 (fuel := 8) (laidMet_of_run' 8 (by kernel_rfl) (by kernel_rfl)) (by kernel_rfl) (by kernel_rfl)

set_option maxRecDepth 100000 in
theorem lifted (os : Os) (started : os.Started) (H : Type) (enc : TypeId × Value → H) :
    ReturnsInHanded {} Tryd.checked os 3 .any (fun w args => (Rows.planChecksSpec.pre enc Tryd.prog Tryd.f3 [] false w args ∧ laidMetH Tryd.prog Rows.planChecksRow.laid w) ∧ sizedMet enc Tryd.prog Tryd.f3 (OpenSpec.ofChange Rows.planChecksSpec) false w args)
      (Rows.planChecksSpec.post enc Tryd.prog Tryd.f3 false true false false) := by
  refine returnsInHanded_of_change_and (C := Tryd.checked) (X := fun w _ => laidMetH Tryd.prog Rows.planChecksRow.laid w) (fun _ _ _ hh h => h.of_heap hh) Tryd.own started (by kernel_rfl) Tryd.func3
    (ChangeSpec.witness_shaped (enc := enc) (C := Tryd.checked) (os := os) (X := fun w _ => laidMetH Tryd.prog Rows.planChecksRow.laid w) false (World.doorLaid Tryd.prog 400 os) #[.int .u32 0, .int .i64 0, .slice none 0 0] 8 rfl (World.shaped_of_RefB (by kernel_rfl) (by kernel_rfl)) (by kernel_rfl) (by kernel_rfl) (by kernel_rfl) (door_met os _)) ?_
  intro W base args ds gs before hval0 hW _ _ hL _
  have hval : ∀ (j : Nat) t v, Tryd.f3.params[j]? = some t → args[j]? = some v → Value.okWide Tryd.prog W .any base t v := hval0
  have hW' := hW
  obtain ⟨p, q, hA0, hV, rfl, hfz, hnd⟩ := hW
  have hA : DataW.TrodAll enc Tryd.prog W 0 (fun _ => true) true Tryd.f3.params.toList args.toList ds p := hA0
  rw [Tryd.params3] at hA hval
  obtain ⟨v0, vs0, d0, ds0, p0, q0, hargs, rfl, rfl, h0, r0⟩ := trodAll_cons hA
  obtain ⟨v1, vs1, d1, ds1, p1, q1, rfl, rfl, rfl, h1, r1⟩ := trodAll_cons r0
  obtain ⟨v2, vs2, d2, ds2, p2, q2, rfl, rfl, rfl, h2, r2⟩ := trodAll_cons r1
  obtain ⟨rfl, rfl, rfl⟩ := trodAll_nil r2
  obtain rfl : args = #[v0, v1, v2] := by cases args; simp_all
  obtain ⟨rfl, rfl⟩ := trodVars_none hV
  obtain ⟨a0, rfl, rfl, rfl, w0⟩ := open_int Tryd.underlying22 (hval 0 22 v0 rfl rfl) h0
  obtain ⟨a1, rfl, rfl, rfl, w1⟩ := open_int Tryd.underlying3 (hval 1 3 v1 rfl rfl) h1
  obtain ⟨A2, len2, cap2, l2, rfl, V2, hc2, hok2⟩ := open_rows (hval 2 23 v2 rfl rfl) h2
  obtain ⟨ea, E⟩ := errsAll (laidMetH_iff.1 hL).1 (laidMetH_iff.1 hL).2
  refine (planChecks_any a0 a1 A2 len2 cap2 l2 W ea E V2 hc2).mono fun e W' ⟨he, hk⟩ => ?_
  subst he
  exact ⟨_, rfl, law_post Tryd.laidOut (fun t ht => by
      rw [Tryd.params3] at ht
      simp at ht
      rcases ht with rfl | rfl | rfl <;> exact ⟨by kernel_rfl, of_decide_eq_true (by kernel_rfl)⟩) (by kernel_rfl) Tryd.underlying4 rfl hW' rfl (hk.below (Nat.le_refl _) (fun _ _ h => h.elim))⟩

theorem said : Rows.PlanChecksSaid :=
  OpenClaim.holds_of_wide 3 Tryd.f3 rfl rfl rfl rfl rfl rfl rfl ⟨rfl, rfl, rfl, rfl, rfl⟩ rfl rfl rfl rfl rfl (by kernel_rfl) Tryd.func3 (by kernel_rfl)
    (of_decide_eq_true (by kernel_rfl)) (by unfold Func.isWrapper; rw [if_neg (of_decide_eq_false (by kernel_rfl))]; exact ⟨rfl, rfl⟩)
    (fun os started H enc _ => lifted os started H enc)

theorem plain (f : FuncId) (fn : Func) (hf : Tryd.pinned.checked.prog.funcNamed "changeling/changelinglaw3.PlanChecks" = some f) (hfn : Tryd.pinned.checked.prog.funcs[f]? = some fn) :
    Rows.planChecksCard.stood.looks = Tryd.pinned.checked.prog.looks [] ∧ ∀ (j : Nat) t, fn.params[j]? = some t → Tryd.pinned.checked.prog.wantsStandIn t = false := by
  obtain rfl : f = 3 := Option.some.inj ((show Tryd.prog.funcNamed "changeling/changelinglaw3.PlanChecks" = some 3 by kernel_rfl).symm.trans hf) |>.symm
  obtain rfl : fn = Tryd.f3 := (Option.some.inj (Tryd.func3.symm.trans hfn)).symm
  refine ⟨by kernel_rfl, fun j t ht => ?_⟩
  rw [Tryd.params3] at ht
  have hm := Array.mem_of_getElem? ht
  simp at hm
  rcases hm with rfl | rfl | rfl
  · exact (show Tryd.prog.wantsStandIn 22 = false by kernel_rfl)
  · exact (show Tryd.prog.wantsStandIn 3 = false by kernel_rfl)
  · exact (show Tryd.prog.wantsStandIn 23 = false by kernel_rfl)

theorem card : Rows.PlanChecksCardSaid :=
  Claim7.holds_tied_plain_at .later [] _ _ _ _ said (fun _ h => by cases h) (by kernel_rfl) (fun _ h => by cases h) planChecks_row_tie rfl ⟨rfl, rfl⟩ (by kernel_rfl) rfl plain (by kernel_rfl)
end Go.Proofs.YtknhfobcejpmeaaDoor.planChecks
namespace Go.Proofs.YtknhfobcejpmeaaDoor
theorem planChecks_card : Rows.PlanChecksCardSaid := planChecks.card
end Go.Proofs.YtknhfobcejpmeaaDoor
