import Derived.Test.YtlmnmncdoiealaaGreatDoorKaz24
import Derived.Test.YtlmnmncdoiealaaGreatDoorKaz06
import Derived.Test.YtlmnmncdoiealaaGreatDoorKaz11
import Derived.Test.YtlmnmncdoiealaaGreatDoorKaz21
import Derived.Test.YtlmnmncdoiealaaGreatDoorKaz23
import Derived.Test.YtlmnmncdoiealaaGreatDoorIrOps
import Derived.LoopTactic

/- OpenRows -/
/- Rows of ops that came in, opened to cells. -/
namespace Go.Proofs.YtlmnmncdoiealaaGreatDoor
open Go.ChangeShapes Go.WideShapes Go.ChangeAt Go.RowKit Go.Deep
set_option linter.unusedVariables false

/-- a slice of one-cell elements that came in, its one cell as it was read -/
theorem open_ones {H : Type} {enc : TypeId × Value → H} {P : Program} {W : World} {ts te : TypeId} {fuel : Nat} {cs : List Value} {y : DataW H × List MemPlace} (ht : P.underlying ts = some (.slice te)) (hC : P.cellsOf te = 1)
    (h : DataW.trod enc P W 0 (fun _ => true) true fuel ts cs = some y) :
    ∃ (A : Option Addr) (len cap : Nat), cs = [.slice A len cap] ∧ len ≤ cap ∧ cap ≤ maxLen ∧ (cap = 0 ∨ ∃ b o, A = some ⟨b, o, none⟩ ∧ b < W.heap.size ∧
      ∀ i, i < len → ∃ v y n, W.cell? ⟨b, o + i, none⟩ = some v ∧ DataW.trod enc P W 0 (fun _ => true) true n te [v] = some y) := by
  rcases open_slice ht h with ⟨hcs, _⟩ | ⟨a, len', cap', m, n, D, Pl, hcs, hb, hl, hm, hmm, hx, hi⟩
  · subst hcs
    exact ⟨none, 0, 0, rfl, Nat.le_refl _, Nat.zero_le _, .inl rfl⟩
  · subst hcs
    simp only [if_true] at hmm
    subst hmm
    refine ⟨some a, len', m, rfl, hl, hm, ?_⟩
    by_cases hc0 : m = 0
    · exact .inl hc0
    · right
      obtain ⟨b, off, spot⟩ := a
      have hfl : ∀ i, i < m → ∃ v y n, W.cell? ((⟨b, off, spot⟩ : Addr).add i) = some v ∧ DataW.trod enc P W 0 (fun _ => true) true n te [v] = some y := by
        intro i him
        obtain ⟨cs', hc, ht'⟩ := hi i him
        rw [hC, Nat.mul_one] at hc
        obtain ⟨_, hcl, hat⟩ := World.cells?_some hc
        obtain ⟨v, hv⟩ : ∃ v, cs' = [v] := by
          match cs', hcl with
          | [v], _ => exact ⟨v, rfl⟩
        subst hv
        refine ⟨v, _, _, ?_, ht'⟩
        have := hat 0 (by omega)
        rw [Addr.add_add, Nat.add_zero] at this
        exact this
      obtain ⟨v0, _, _, hc00, _⟩ := hfl 0 (by omega)
      have hspot : spot = none := by simpa [Addr.add] using World.cell?_spot hc00
      subst hspot
      refine ⟨b, off, rfl, by simpa [Addr.add] using World.block_lt_of_cell? W _ hc00, fun i hil => ?_⟩
      obtain ⟨v, y, n', h1, h2⟩ := hfl i (by omega)
      rw [Addr.add_lit] at h1
      exact ⟨v, y, n', h1, h2⟩
/-- a slice of records, its one cell as it was read -/
theorem open_recs_c {H : Type} {enc : TypeId × Value → H} {P : Program} {W : World} {ts te : TypeId} {tys : List TypeId} {fuel : Nat} {cs : List Value} {y : DataW H × List MemPlace} (ht : P.underlying ts = some (.slice te)) (he' : structTypes P te = some tys)
    (h0' : 0 < tys.length) (h : DataW.trod enc P W 0 (fun _ => true) true fuel ts cs = some y) :
    ∃ (A : Option Addr) (len cap : Nat), cs = [.slice A len cap] ∧ len ≤ cap ∧ cap ≤ maxLen ∧ (cap = 0 ∨ ∃ b o, A = some ⟨b, o, none⟩ ∧ b < W.heap.size ∧
      ∀ i, i < len → ∀ j ty, tys[j]? = some ty → ∃ v y n, W.cell? ⟨b, o + i * tys.length + j, none⟩ = some v ∧ DataW.trod enc P W 0 (fun _ => true) true n ty [v] = some y) := by
  obtain ⟨fs, he, hone, hC, h4, h5⟩ := structTypes_some he'
  have h0 : 0 < fs.size := by omega
  rcases open_slice ht h with ⟨hcs, _⟩ | ⟨a, len', cap', m, n, D, Pl, hcs, hb, hl, hm, hmm, hx, hi⟩
  · subst hcs
    exact ⟨none, 0, 0, rfl, Nat.le_refl _, Nat.zero_le _, .inl rfl⟩
  · subst hcs
    simp only [if_true] at hmm
    subst hmm
    refine ⟨some a, len', m, rfl, hl, hm, ?_⟩
    by_cases hc0 : m = 0
    · exact .inl hc0
    · right
      obtain ⟨b, off, spot⟩ := a
      have hfl : ∀ i, i < m → ∀ j f, fs[j]? = some f → ∃ v y n, W.cell? (((⟨b, off, spot⟩ : Addr).add (i * fs.size)).add j) = some v ∧ DataW.trod enc P W 0 (fun _ => true) true n f.type [v] = some y := by
        intro i him j f hj
        obtain ⟨cs', hc, ht'⟩ := hi i him
        rw [hC] at hc
        obtain ⟨_, hcl, hat⟩ := World.cells?_some hc
        obtain ⟨v, y, n', hv, hy⟩ := field_read he hone hC ht' j f hj
        exact ⟨v, y, n', (hat j (Array.getElem?_eq_some_iff.1 hj).1).trans hv, hy⟩
      obtain ⟨f0, hf0⟩ : ∃ f, fs[0]? = some f := ⟨fs[0], Array.getElem?_eq_getElem h0⟩
      obtain ⟨v0, _, _, hc00, _⟩ := hfl 0 (by omega) 0 f0 hf0
      have hspot : spot = none := by simpa [Addr.add] using World.cell?_spot hc00
      subst hspot
      refine ⟨b, off, rfl, by simpa [Addr.add] using World.block_lt_of_cell? W _ hc00, fun i hil j ty hj => ?_⟩
      obtain ⟨f, hf, rfl⟩ := h5 j ty hj
      obtain ⟨v, y, n', h1, h2⟩ := hfl i (by omega) j f hf
      rw [Addr.add_lit, Addr.add_lit] at h1
      rw [← h4]
      exact ⟨v, y, n', h1, h2⟩
set_option maxRecDepth 100000 in
/-- ops in a cell that was read -/
theorem open_ops_c {H : Type} {enc : TypeId × Value → H} {W : World} {fuel : Nat} {v : Value} {y : DataW H × List MemPlace} (h : DataW.trod enc Tryz.prog W 0 (fun _ => true) true fuel 40 [v] = some y) :
    ∃ (A : Option Addr) (len cap : Nat) (l : List Ir.Op), v = .slice A len cap ∧ OpsAt W A len cap l ∧ cap ≤ 9223372036854775807 ∧ ∀ x ∈ l, OpOk x := by
  obtain ⟨A, len, cap, hv, hl, hm, hc⟩ := open_recs_c Tryz.underlying40 types_op (Nat.succ_pos _) h
  injection hv with hv
  subst hv
  have hcap : cap ≤ 9223372036854775807 := by unfold maxLen at hm; omega
  rcases hc with hc | ⟨b, o, rfl, hb, hc⟩
  · refine ⟨A, len, cap, [], rfl, ⟨?_, hl, .inl hc⟩, hcap, fun x hx => by cases hx⟩
    simp
    omega
  · have := ops_of_cells (enc := enc) hl hb hc
    exact ⟨_, len, cap, _, rfl, this.1, hcap, this.2⟩
theorem one_row : Tryz.prog.cellsOf 40 = 1 := by kernel_rfl
set_option maxRecDepth 100000 in
/-- rows of ops in a cell that was read -/
theorem open_rows_c {H : Type} {enc : TypeId × Value → H} {W : World} {fuel : Nat} {v : Value} {y : DataW H × List MemPlace} (h : DataW.trod enc Tryz.prog W 0 (fun _ => true) true fuel 35 [v] = some y) :
    ∃ (A : Option Addr) (len cap : Nat) (rows : List (List Ir.Op)), v = .slice A len cap ∧ RowsAt W A len cap rows ∧ cap ≤ 9223372036854775807 ∧ ∀ r ∈ rows, ∀ x ∈ r, OpOk x := by
  obtain ⟨A, len, cap, hv, hl, hm, hc⟩ := open_ones Tryz.underlying35 one_row h
  injection hv with hv
  subst hv
  have hcap : cap ≤ 9223372036854775807 := by unfold maxLen at hm; omega
  rcases hc with hc | ⟨b, o, rfl, hb, hc⟩
  · refine ⟨A, len, cap, [], rfl, ⟨?_, hl, .inl hc⟩, hcap, fun x hx => by cases hx⟩
    simp
    omega
  · have hx : ∀ i, i < len → ∃ l : List Ir.Op, (∃ Ai ci, W.cell? ⟨b, o + i, none⟩ = some (.slice Ai l.length ci) ∧ OpsAt W Ai l.length ci l ∧ ci ≤ 9223372036854775807) ∧ ∀ x ∈ l, OpOk x := fun i hi => by
      obtain ⟨v, y, n, h1, h2⟩ := hc i hi
      obtain ⟨A, len, cap, l, rfl, h3, h4, h5⟩ := open_ops_c h2
      have := h3.len
      subst this
      exact ⟨l, ⟨A, cap, h1, h3, h4⟩, h5⟩
    obtain ⟨f, hf⟩ := Classical.axiomOfChoice (fun i : { i : Nat // i < len } => hx i.1 i.2)
    refine ⟨_, len, cap, (List.range len).pmap (fun i hi => f ⟨i, hi⟩) (fun i hi => List.mem_range.1 hi), rfl, ⟨by simp, hl, .inr ⟨b, o, rfl, hb, fun i hi => ?_⟩⟩, hcap, fun r hr => ?_⟩
    · have e : ((List.range len).pmap (fun i hi => f ⟨i, hi⟩) (fun i hi => List.mem_range.1 hi)).getD i [] = f ⟨i, hi⟩ := by
        rw [List.getD_eq_getElem?_getD, List.getElem?_eq_getElem (by simpa using hi), Option.getD_some, List.getElem_pmap]
        simp
      rw [e]
      exact (hf ⟨i, hi⟩).1
    · obtain ⟨i, hi, rfl⟩ := List.mem_pmap.1 hr
      exact (hf ⟨i, _⟩).2
set_option maxRecDepth 100000 in
/-- ROWS OF OPS THAT CAME IN, to be read -/
theorem open_rows {H : Type} {enc : TypeId × Value → H} {W : World} {base : Nat} {v : Value} {d : DataW H} {ps : List MemPlace}
    (hval : Value.okWide Tryz.prog W .any base 35 v) (h : DataW.Trod enc Tryz.prog W 0 (fun _ => true) true 35 v d ps) :
    ∃ (A : Option Addr) (len cap : Nat) (rows : List (List Ir.Op)), v = .slice A len cap ∧ RowsAt W A len cap rows ∧ cap ≤ 9223372036854775807 ∧ ∀ r ∈ rows, ∀ x ∈ r, OpOk x := by
  obtain ⟨a0, len, cap, rfl⟩ := okWide_slice Tryz.underlying35 hval
  obtain ⟨fuel, hf⟩ := h
  exact open_rows_c (show DataW.trod enc Tryz.prog W 0 (fun _ => true) true fuel 35 [Value.slice a0 len cap] = some _ from hf)
end Go.Proofs.YtlmnmncdoiealaaGreatDoor

/- OpenAsks -/
/- Asks of a keep that came in, opened to cells. -/
namespace Go.Proofs.YtlmnmncdoiealaaGreatDoor
open Go.ChangeShapes Go.WideShapes Go.ChangeAt Go.RowKit Go.Deep
set_option linter.unusedVariables false

/-- an ask -/
structure AskV where
  kind : ByteArray
  pc : Int
  many : Int
  rows : List (List Ir.Op)
  pages : List Int
  page : Int
def ask0 : AskV := ⟨ByteArray.empty, 0, 0, [], [], 0⟩
/-- an ask as it lies -/
structure AskAt (w : World) (b o : Nat) (a : AskV) : Prop where
  kind : w.cell? ⟨b, o, none⟩ = some (.string a.kind)
  pc : w.cell? ⟨b, o + 1, none⟩ = some (.int .u32 a.pc)
  many : w.cell? ⟨b, o + 2, none⟩ = some (.int .i64 a.many)
  rows : ∃ A c, w.cell? ⟨b, o + 3, none⟩ = some (.slice A a.rows.length c) ∧ RowsAt w A a.rows.length c a.rows ∧ c ≤ 9223372036854775807
  pages : ∃ A c, w.cell? ⟨b, o + 4, none⟩ = some (.slice A a.pages.length c) ∧ Reads w A a.pages.length c (fun i => .int .i64 (a.pages.getD i 0)) ∧ c ≤ 9223372036854775807 ∧ (A = none → c = 0)
  page : w.cell? ⟨b, o + 5, none⟩ = some (.int .i64 a.page)
  ok : ∀ r ∈ a.rows, ∀ x ∈ r, OpOk x
theorem AskAt.quiet {w w' : World} {b o : Nat} {a : AskV} (h : AskAt w b o a) (k : Keeps (fun _ => False) w w') : AskAt w' b o a := by
  obtain ⟨h1, h2, h3, ⟨A, c, h4, h5, h6⟩, ⟨A2, c2, h7, h8, h9, h10⟩, h11, h12⟩ := h
  exact ⟨k.cell' h1 (fun h => h), k.cell' h2 (fun h => h), k.cell' h3 (fun h => h), ⟨A, c, k.cell' h4 (fun h => h), h5.quiet k, h6⟩, ⟨A2, c2, k.cell' h7 (fun h => h), h8.keep k (fun _ _ _ h => h), h9, h10⟩, k.cell' h11 (fun h => h), h12⟩
/-- asks as they lie -/
structure AsksAt (w : World) (A : Option Addr) (n cap : Nat) (l : List AskV) : Prop where
  len : l.length = n
  le : n ≤ cap
  lies : cap = 0 ∨ ∃ b o, A = some ⟨b, o, none⟩ ∧ b < w.heap.size ∧ ∀ i, i < n → AskAt w b (o + i * 6) (l.getD i ask0)
theorem AsksAt.quiet {w w' : World} {A : Option Addr} {n cap : Nat} {l : List AskV} (h : AsksAt w A n cap l) (k : Keeps (fun _ => False) w w') : AsksAt w' A n cap l := by
  obtain ⟨h1, h2, h3 | ⟨b, o, h4, h5, h6⟩⟩ := h
  · exact ⟨h1, h2, .inl h3⟩
  · exact ⟨h1, h2, .inr ⟨b, o, h4, Nat.lt_of_lt_of_le h5 k.size, fun i hi => (h6 i hi).quiet k⟩⟩
theorem AsksAt.get {w : World} {A : Option Addr} {n cap : Nat} {l : List AskV} (h : AsksAt w A n cap l) {i : Nat} (hi : i < n) :
    ∃ b o, A = some ⟨b, o, none⟩ ∧ AskAt w b (o + i * 6) (l.getD i ask0) := by
  obtain ⟨h1, h2, h3 | ⟨b, o, h4, h5, h6⟩⟩ := h
  · omega
  · exact ⟨b, o, h4, h6 i hi⟩
theorem one_int : Tryz.prog.cellsOf 3 = 1 := by kernel_rfl
theorem types_ask : structTypes Tryz.prog 38 = some [9, 34, 3, 35, 36, 3] := by kernel_rfl
set_option maxRecDepth 100000 in
/-- numbers in a cell that was read -/
theorem open_ints_c {H : Type} {enc : TypeId × Value → H} {W : World} {fuel : Nat} {v : Value} {y : DataW H × List MemPlace} (h : DataW.trod enc Tryz.prog W 0 (fun _ => true) true fuel 36 [v] = some y) :
    ∃ (A : Option Addr) (cap : Nat) (l : List Int), v = .slice A l.length cap ∧ Reads W A l.length cap (fun i => .int .i64 (l.getD i 0)) ∧ cap ≤ 9223372036854775807 ∧ (A = none → cap = 0) := by
  obtain ⟨A, len, cap, hv, hl, hm, hc⟩ := open_ones Tryz.underlying36 one_int h
  injection hv with hv
  subst hv
  have hcap : cap ≤ 9223372036854775807 := by unfold maxLen at hm; omega
  rcases hc with hc | ⟨b, o, rfl, hb, hc⟩
  · subst hc
    obtain rfl : len = 0 := by omega
    exact ⟨A, 0, [], rfl, ⟨Nat.le_refl _, .inl rfl⟩, hcap, fun _ => rfl⟩
  · have hlen : ((List.range len).map fun i => gInt W b (o + i)).length = len := by simp
    have hrd : Reads W (some ⟨b, o, none⟩) len cap (fun i => .int .i64 (((List.range len).map fun i => gInt W b (o + i)).getD i 0)) := ⟨hl, .inr ⟨b, o, rfl, hb, fun i hi => by
      have e : ((List.range len).map fun i => gInt W b (o + i)).getD i 0 = gInt W b (o + i) := by
        rw [List.getD_eq_getElem?_getD, List.getElem?_map, List.getElem?_range hi]
        rfl
      obtain ⟨v, y, n, h1, h2⟩ := hc i hi
      dsimp only
      rw [e]
      exact (fld_int Tryz.underlying3 h1 h2).1⟩⟩
    refine ⟨some ⟨b, o, none⟩, cap, (List.range len).map fun i => gInt W b (o + i), by rw [hlen], ?_, hcap, fun h => by cases h⟩
    rw [hlen]
    exact hrd
set_option maxRecDepth 100000 in
/-- ASKS THAT CAME IN, to be read -/
theorem open_asks {H : Type} {enc : TypeId × Value → H} {W : World} {base : Nat} {v : Value} {d : DataW H} {ps : List MemPlace}
    (hval : Value.okWide Tryz.prog W .any base 22 v) (h : DataW.Trod enc Tryz.prog W 0 (fun _ => true) true 22 v d ps) :
    ∃ (A : Option Addr) (len cap : Nat) (l : List AskV), v = .slice A len cap ∧ AsksAt W A len cap l ∧ cap ≤ 9223372036854775807 := by
  obtain ⟨A, len, cap, rfl, hl, hm, hc⟩ := open_recs' Tryz.underlying22 types_ask (Nat.succ_pos _) hval h
  have hcap : cap ≤ 9223372036854775807 := by unfold maxLen at hm; omega
  rcases hc with hc | ⟨b, o, rfl, hb, hc⟩
  · subst hc
    obtain rfl : len = 0 := by omega
    exact ⟨A, 0, 0, [], rfl, ⟨rfl, Nat.le_refl _, .inl rfl⟩, hcap⟩
  · have hx : ∀ i, i < len → ∃ a : AskV, AskAt W b (o + i * 6) a := fun i hi => by
      obtain ⟨v0, y0, n0, a0, b0⟩ := hc i hi 0 _ rfl
      obtain ⟨v1, y1, n1, a1, b1⟩ := hc i hi 1 _ rfl
      obtain ⟨v2, y2, n2, a2, b2⟩ := hc i hi 2 _ rfl
      obtain ⟨v3, y3, n3, a3, b3⟩ := hc i hi 3 _ rfl
      obtain ⟨v4, y4, n4, a4, b4⟩ := hc i hi 4 _ rfl
      obtain ⟨v5, y5, n5, a5, b5⟩ := hc i hi 5 _ rfl
      have f0 := fld_str Tryz.underlying9 a0 b0
      have f1 := fld_int Tryz.underlying34 a1 b1
      have f2 := fld_int Tryz.underlying3 a2 b2
      have f5 := fld_int Tryz.underlying3 a5 b5
      obtain ⟨A3, l3, c3, rows, rfl, r1, r2, r3⟩ := open_rows_c b3
      obtain ⟨A4, c4, pages, rfl, p1, p2, p3⟩ := open_ints_c b4
      have hl3 := r1.len
      subst hl3
      exact ⟨⟨gStr W b (o + i * 6 + 0), gInt W b (o + i * 6 + 1), gInt W b (o + i * 6 + 2), rows, pages, gInt W b (o + i * 6 + 5)⟩, ⟨f0, f1.1, f2.1, ⟨A3, c3, a3, r1, r2⟩, ⟨A4, c4, a4, p1, p2, p3⟩, f5.1, r3⟩⟩
    obtain ⟨f, hf⟩ := Classical.axiomOfChoice (fun i : { i : Nat // i < len } => hx i.1 i.2)
    refine ⟨_, len, cap, (List.range len).pmap (fun i hi => f ⟨i, hi⟩) (fun i hi => List.mem_range.1 hi), rfl, ⟨by simp, hl, .inr ⟨b, o, rfl, hb, fun i hi => ?_⟩⟩, hcap⟩
    have e : ((List.range len).pmap (fun i hi => f ⟨i, hi⟩) (fun i hi => List.mem_range.1 hi)).getD i ask0 = f ⟨i, hi⟩ := by
      rw [List.getD_eq_getElem?_getD, List.getElem?_eq_getElem (by simpa using hi), Option.getD_some, List.getElem_pmap]
      simp
    rw [e]
    exact hf ⟨i, hi⟩
end Go.Proofs.YtlmnmncdoiealaaGreatDoor

/- KeepActsL -/
/- Both keeps side by side: plain facts. -/
namespace Go.Proofs.YtlmnmncdoiealaaGreatDoor
open Go.RowKit Go.Deep
set_option linter.unusedVariables false
set_option linter.unusedSimpArgs false

/-- an entry of both -/
structure ZV where
  p : K4
  r : K4
  ps : List Int
  rs : List (List Ir.Op)
def zv0 : ZV := ⟨k40, k40, [], []⟩
/-- entries that are the same in both -/
structure ZIs (W : World) (pg : K4 → List Int) (rw : K4 → List (List Ir.Op)) (Z : List ZV) : Prop where
  each : ∀ z ∈ Z, z.p.pc = z.r.pc ∧ z.p.many = z.r.many ∧ pg z.p = z.ps ∧ rw z.p = z.rs ∧ RowsAt W z.r.A z.r.n z.r.c z.rs ∧ z.r.c ≤ 9223372036854775807 ∧ KqAt W (z.r, z.ps) ∧ z.ps.length ≤ 1000
  nodup : (Z.map fun z => z.p.pc).Nodup
def zNot (Z : List ZV) (pc : Int) : List ZV := Z.filter fun y => !(y.p.pc == pc)
def zPut (mx : Int) (Z : List ZV) (z : ZV) : List ZV := if mx < ((zNot Z z.p.pc).length : Int) + 1 then (zNot Z z.p.pc ++ [z]).eraseIdx 0 else zNot Z z.p.pc ++ [z]
theorem npK_p (Z : List ZV) (pc : Int) : npK (fun q => q.pc == pc) (Z.map (·.p)) = (zNot Z pc).map (·.p) := by
  unfold npK zNot
  rw [List.filter_map]
  rfl
theorem npK_r (Z : List ZV) (pc : Int) (h : ∀ z ∈ Z, z.p.pc = z.r.pc) : npK (fun q => q.pc == pc) (Z.map (·.r)) = (zNot Z pc).map (·.r) := by
  unfold npK zNot
  rw [List.filter_map]
  congr 1
  refine List.filter_congr fun z hz => ?_
  show (!(z.r.pc == pc)) = !(z.p.pc == pc)
  rw [h z hz]
theorem eraseIdx0_map {α β : Type} (f : α → β) (l : List α) : (l.map f).eraseIdx 0 = (l.eraseIdx 0).map f := by cases l <;> rfl
theorem putL_p (mx : Int) (Z : List ZV) (z : ZV) : putL mx (Z.map (·.p)) z.p = (zPut mx Z z).map (·.p) := by
  unfold putL zPut
  rw [npK_p, List.length_map]
  have e : (zNot Z z.p.pc).map (·.p) ++ [z.p] = (zNot Z z.p.pc ++ [z]).map (·.p) := by simp
  rw [e, eraseIdx0_map]
  split <;> rfl
theorem putL_r (mx : Int) (Z : List ZV) (z : ZV) (h : ∀ y ∈ Z, y.p.pc = y.r.pc) (hz : z.p.pc = z.r.pc) : putL mx (Z.map (·.r)) z.r = (zPut mx Z z).map (·.r) := by
  unfold putL zPut
  rw [← hz, npK_r Z _ h, List.length_map]
  have e : (zNot Z z.p.pc).map (·.r) ++ [z.r] = (zNot Z z.p.pc ++ [z]).map (·.r) := by simp
  rw [e, eraseIdx0_map]
  split <;> rfl
theorem zPut_mem {mx : Int} {Z : List ZV} {z y : ZV} (h : y ∈ zPut mx Z z) : y ∈ Z ∨ y = z := by
  have h2 : y ∈ zNot Z z.p.pc ++ [z] := by
    unfold zPut at h
    split at h
    · exact List.mem_of_mem_eraseIdx h
    · exact h
  rcases List.mem_append.1 h2 with h3 | h3
  · exact .inl (List.mem_filter.1 h3).1
  · exact .inr (List.mem_singleton.1 h3)
theorem zPut_len {mx : Int} {Z : List ZV} (z : ZV) (h1 : 1 ≤ mx) (hl : (Z.length : Int) ≤ mx) : ((zPut mx Z z).length : Int) ≤ mx := by
  have h2 : (zNot Z z.p.pc).length ≤ Z.length := List.length_filter_le _ _
  unfold zPut
  split
  · rw [List.length_eraseIdx_of_lt (by simp), List.length_append, List.length_singleton]
    omega
  · rw [List.length_append, List.length_singleton]
    omega
theorem ZIs.put {W : World} {pg pg' : K4 → List Int} {rw rw' : K4 → List (List Ir.Op)} {Z : List ZV} (h : ZIs W pg rw Z) (mx : Int) (z : ZV) (hq : ∀ q ∈ Z.map (·.p), pg' q = pg q ∧ rw' q = rw q)
    (hz : z.p.pc = z.r.pc ∧ z.p.many = z.r.many ∧ pg' z.p = z.ps ∧ rw' z.p = z.rs ∧ RowsAt W z.r.A z.r.n z.r.c z.rs ∧ z.r.c ≤ 9223372036854775807 ∧ KqAt W (z.r, z.ps) ∧ z.ps.length ≤ 1000) : ZIs W pg' rw' (zPut mx Z z) := by
  refine ⟨fun y hy => ?_, ?_⟩
  · rcases zPut_mem hy with h1 | h1
    · obtain ⟨a1, a2, a3, a4, a5⟩ := h.each y h1
      obtain ⟨b1, b2⟩ := hq y.p (List.mem_map.2 ⟨y, h1, rfl⟩)
      exact ⟨a1, a2, b1.trans a3, b2.trans a4, a5⟩
    · subst h1
      exact hz
  · have key : ((zNot Z z.p.pc ++ [z]).map fun z => z.p.pc).Nodup := by
      rw [List.map_append]
      refine List.nodup_append.2 ⟨?_, by simp, fun a ha b hb => ?_⟩
      · exact h.nodup.sublist ((List.filter_sublist).map _)
      · simp at hb
        subst hb
        obtain ⟨y, hy, rfl⟩ := List.mem_map.1 ha
        have := (List.mem_filter.1 hy).2
        intro e
        rw [e] at this
        simp at this
    unfold zPut
    split
    · exact key.sublist ((List.eraseIdx_sublist _ _).map _)
    · exact key
theorem zNot_erase {Z : List ZV} (h : (Z.map fun z => z.p.pc).Nodup) : ∀ i, i < Z.length → zNot Z (Z.getD i zv0).p.pc = Z.eraseIdx i := by
  induction Z with
  | nil => intro i hi; simp at hi
  | cons a r ih =>
    intro i hi
    rw [List.map_cons, List.nodup_cons] at h
    cases i with
    | zero =>
      unfold zNot
      rw [List.filter_cons, if_neg (by simp)]
      show r.filter _ = r
      refine List.filter_eq_self.2 fun y hy => ?_
      have : y.p.pc ≠ a.p.pc := fun e => h.1 (List.mem_map.2 ⟨y, hy, e⟩)
      simpa using this
    | succ i =>
      have hi' : i < r.length := by simpa using hi
      have hm : (r.getD i zv0) ∈ r := by
        rw [List.getD_eq_getElem?_getD, List.getElem?_eq_getElem hi']
        exact List.getElem_mem hi'
      have hne : a.p.pc ≠ (r.getD i zv0).p.pc := fun e => h.1 (List.mem_map.2 ⟨_, hm, e.symm⟩)
      have e : ((a :: r).getD (i + 1) zv0) = r.getD i zv0 := by simp
      rw [e]
      have := ih h.2 i hi'
      unfold zNot at this ⊢
      rw [List.filter_cons, if_pos (by simpa using hne), this]
      rfl
theorem zPut_get {mx : Int} {Z : List ZV} (h : (Z.map fun z => z.p.pc).Nodup) {i : Nat} (hi : i < Z.length) (hl : (Z.length : Int) ≤ mx) : zPut mx Z (Z.getD i zv0) = Z.eraseIdx i ++ [Z.getD i zv0] := by
  unfold zPut
  rw [zNot_erase h i hi, if_neg (by rw [List.length_eraseIdx_of_lt hi]; omega)]
theorem zv_getD (Z : List ZV) (i : Nat) (hi : i < Z.length) : (Z.map (·.p)).getD i k40 = (Z.getD i zv0).p ∧ (Z.map (·.r)).getD i k40 = (Z.getD i zv0).r := by
  constructor <;> simp [List.getD_eq_getElem?_getD, List.getElem?_map, List.getElem?_eq_getElem hi]
theorem zv_mem {Z : List ZV} {i : Nat} (hi : i < Z.length) : Z.getD i zv0 ∈ Z := by
  rw [List.getD_eq_getElem?_getD, List.getElem?_eq_getElem hi]
  exact List.getElem_mem hi
/-- what the reference is given -/
def zQ (Z : List ZV) : List KQ := Z.map fun z => (z.r, z.ps)
theorem zQ_fst (Z : List ZV) : (zQ Z).map (·.1) = Z.map (·.r) := by unfold zQ; rw [List.map_map]; rfl
def zKeep (page : Int) (Z : List ZV) : List ZV := Z.filter fun z => !z.ps.contains page
theorem ZIs.drop {W : World} {pg : K4 → List Int} {rw : K4 → List (List Ir.Op)} {Z : List ZV} (h : ZIs W pg rw Z) (page : Int) :
    ZIs W pg rw (zKeep page Z) ∧ npK (fun k => (pg k).contains page) (Z.map (·.p)) = (zKeep page Z).map (·.p) ∧ dropOut page (zQ Z) = (zKeep page Z).map (·.r) ∧ dropIn page (zQ Z) = ((Z.map (·.p)).filter fun k => (pg k).contains page).map K4.pc := by
  refine ⟨⟨fun z hz => h.each z (List.mem_filter.1 hz).1, h.nodup.sublist ((List.filter_sublist).map _)⟩, ?_, ?_, ?_⟩
  · unfold npK zKeep
    rw [List.filter_map]
    congr 1
    refine List.filter_congr fun z hz => ?_
    show (!(pg z.p).contains page) = !z.ps.contains page
    rw [(h.each z hz).2.2.1]
  · unfold dropOut zQ zKeep
    rw [List.filter_map, List.map_map]
    rfl
  · unfold dropIn zQ
    rw [List.filter_map, List.map_map, List.filter_map, List.map_map]
    have e : Z.filter ((fun k => (pg k).contains page) ∘ fun z => z.p) = Z.filter ((fun q : KQ => q.2.contains page) ∘ fun z => (z.r, z.ps)) := by
      refine List.filter_congr fun z hz => ?_
      show (pg z.p).contains page = z.ps.contains page
      rw [(h.each z hz).2.2.1]
    rw [e]
    refine List.map_congr_left fun z hz => ?_
    exact (h.each z (List.mem_filter.1 hz).1).1.symm
theorem ZIs.pages {W : World} {pg : K4 → List Int} {rw : K4 → List (List Ir.Op)} {Z : List ZV} (h : ZIs W pg rw Z) : insAll ((zQ Z).flatMap (·.2)) = uniqI ((Z.map (·.p)).flatMap pg) := by
  rw [insAll_uniq]
  congr 1
  unfold zQ
  rw [List.flatMap_map, List.flatMap_map]
  have : ∀ M : List ZV, (∀ z ∈ M, z ∈ Z) → M.flatMap (fun z => z.ps) = M.flatMap (fun z => pg z.p) := by
    intro M
    induction M with
    | nil => intro _; rfl
    | cons a r ih =>
      intro hm
      rw [List.flatMap_cons, List.flatMap_cons, ih (fun z hz => hm z (by simp [hz])), (h.each a (hm a (by simp))).2.2.1]
  exact this Z (fun _ h => h)
theorem ZIs.pcs {W : World} {pg : K4 → List Int} {rw : K4 → List (List Ir.Op)} {Z : List ZV} (h : ZIs W pg rw Z) : (Z.map (·.r)).map K4.pc = (Z.map (·.p)).map K4.pc := by
  rw [List.map_map, List.map_map]
  exact List.map_congr_left fun z hz => (h.each z hz).1.symm
theorem ZIs.same {W : World} {pg : K4 → List Int} {rw : K4 → List (List Ir.Op)} {Z Z' : List ZV} (h : ZIs W pg rw Z) (hz : ∀ z ∈ Z', z ∈ Z) (hn : (Z'.map fun z => z.p.pc).Nodup) : ZIs W pg rw Z' := ⟨fun z h1 => h.each z (hz z h1), hn⟩
end Go.Proofs.YtlmnmncdoiealaaGreatDoor

/- LongOps6 -/
/- The walk of LongOps at six. -/
namespace Go.Proofs.YtlmnmncdoiealaaGreatDoor
open Go.RowKit Go.Deep
set_option linter.unusedVariables false
set_option linter.unusedSimpArgs false

set_option maxHeartbeats 1000000 in
set_option maxRecDepth 100000 in
theorem longOps6_any (A : Option Addr) (n cap : Nat) (l : List Ir.Op) (w : World) (V : OpsAt w A n cap l) (hc : cap ≤ 9223372036854775807) :
    Calls Tryz.prog 7 #[.slice A n cap, .int .i64 6] w fun e w' => ∃ r : Int, e = .returned (.int .i64 r) ∧ (r = 1 ∨ (r = 0 ∧ n ≤ 201)) ∧ Keeps (fun _ => False) w w' := by
  have HV := Lib.hid V
  have hn := V.le
  clear V
  by_cases h1 : 6 < n ∧ n ≠ 201
  · have t1 : decide ((6 : Int) < (n : Int)) = true := decide_eq_true (by omega)
    have t2 : ((n : Int) != 201) = true := by simp; omega
    clear h1
    go_enter Tryz.func7, Tryz.ntmps7
    go_wp2_with fail
    go_ret
    exact ⟨1, rfl, .inl rfl, Keeps.refl _ _⟩
  · have HN := Lib.hid (show n ≤ 201 by omega)
    by_cases h2 : 6 < n
    all_goals
      first
        | (have t1 : decide ((6 : Int) < (n : Int)) = true := decide_eq_true (by omega); have t2 : ((n : Int) != 201) = false := by (simp; omega))
        | (have t1 : decide ((6 : Int) < (n : Int)) = false := decide_eq_false (by omega))
      clear h1 h2
      go_enter Tryz.func7, Tryz.ntmps7
      go_wp2_with fail
      (try clear t1)
      (try clear t2)
      go_loopw [5] (fun s5 wr => ∃ i : Nat, i ≤ n ∧ s5 = .int .i64 i ∧ Keeps (fun _ => False) w wr) (fun s5 _ => n - (intOf s5).toNat)
      case atStart => exact ⟨0, by omega, rfl, Keeps.refl _ _⟩
      case round =>
        obtain ⟨i, hi, rfl, hK⟩ := hrel
        have HK := Lib.hid hK
        clear hK
        by_cases hlt : i < n
        · obtain ⟨bb, oo, rfl, e0, e1, e2, e3, e4, e5⟩ := (HV.out.quiet HK.out).get hlt
          obtain ⟨op, hop⟩ : ∃ op, l.getD i Ir.nop = op := ⟨_, rfl⟩
          rw [hop] at e0 e1 e2 e3 e4 e5
          clear hop
          cases hk : decide ((20 : Int) < (op.k.size : Int))
          · go_wp2_with fail
            go_roundw
            case rel => exact ⟨i + 1, by omega, by go_num, HK.out⟩
            case measure => simp [intOf]; omega
          · go_wp2_with fail
            go_ret
            exact ⟨1, rfl, .inl rfl, HK.out⟩
        · obtain rfl : i = n := by omega
          go_wp2_with fail
          go_ret
          exact ⟨0, rfl, .inr ⟨rfl, HN.out⟩, HK.out⟩
end Go.Proofs.YtlmnmncdoiealaaGreatDoor
