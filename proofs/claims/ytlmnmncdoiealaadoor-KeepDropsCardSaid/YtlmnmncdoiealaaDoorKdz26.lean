import Derived.Test.YtlmnmncdoiealaaDoorKdz25
import Derived.Test.YtlmnmncdoiealaaDoorKdz15

/- OpenAsks -/
/- Asks of a keep that came in, opened to cells. -/
namespace Go.Proofs.YtlmnmncdoiealaaDoor
open Go.ChangeShapes Go.WideShapes Go.ChangeAt Go.RowKit Go.Deep
set_option linter.unusedVariables false

/-- an ask -/
structure AskV where
  kind : ByteArray
  pc : Int
  many : Int
  rows : List (List Ir.Op)
  pages : List Int
  page : Int
def ask0 : AskV := ⟨ByteArray.empty, 0, 0, [], [], 0⟩
/-- an ask as it lies -/
structure AskAt (w : World) (b o : Nat) (a : AskV) : Prop where
  kind : w.cell? ⟨b, o, none⟩ = some (.string a.kind)
  pc : w.cell? ⟨b, o + 1, none⟩ = some (.int .u32 a.pc)
  many : w.cell? ⟨b, o + 2, none⟩ = some (.int .i64 a.many)
  rows : ∃ A c, w.cell? ⟨b, o + 3, none⟩ = some (.slice A a.rows.length c) ∧ RowsAt w A a.rows.length c a.rows ∧ c ≤ 9223372036854775807
  pages : ∃ A c, w.cell? ⟨b, o + 4, none⟩ = some (.slice A a.pages.length c) ∧ Reads w A a.pages.length c (fun i => .int .i64 (a.pages.getD i 0)) ∧ c ≤ 9223372036854775807 ∧ (A = none → c = 0)
  page : w.cell? ⟨b, o + 5, none⟩ = some (.int .i64 a.page)
  ok : ∀ r ∈ a.rows, ∀ x ∈ r, OpOk x
theorem AskAt.quiet {w w' : World} {b o : Nat} {a : AskV} (h : AskAt w b o a) (k : Keeps (fun _ => False) w w') : AskAt w' b o a := by
  obtain ⟨h1, h2, h3, ⟨A, c, h4, h5, h6⟩, ⟨A2, c2, h7, h8, h9, h10⟩, h11, h12⟩ := h
  exact ⟨k.cell' h1 (fun h => h), k.cell' h2 (fun h => h), k.cell' h3 (fun h => h), ⟨A, c, k.cell' h4 (fun h => h), h5.quiet k, h6⟩, ⟨A2, c2, k.cell' h7 (fun h => h), h8.keep k (fun _ _ _ h => h), h9, h10⟩, k.cell' h11 (fun h => h), h12⟩
/-- asks as they lie -/
structure AsksAt (w : World) (A : Option Addr) (n cap : Nat) (l : List AskV) : Prop where
  len : l.length = n
  le : n ≤ cap
  lies : cap = 0 ∨ ∃ b o, A = some ⟨b, o, none⟩ ∧ b < w.heap.size ∧ ∀ i, i < n → AskAt w b (o + i * 6) (l.getD i ask0)
theorem AsksAt.quiet {w w' : World} {A : Option Addr} {n cap : Nat} {l : List AskV} (h : AsksAt w A n cap l) (k : Keeps (fun _ => False) w w') : AsksAt w' A n cap l := by
  obtain ⟨h1, h2, h3 | ⟨b, o, h4, h5, h6⟩⟩ := h
  · exact ⟨h1, h2, .inl h3⟩
  · exact ⟨h1, h2, .inr ⟨b, o, h4, Nat.lt_of_lt_of_le h5 k.size, fun i hi => (h6 i hi).quiet k⟩⟩
theorem AsksAt.get {w : World} {A : Option Addr} {n cap : Nat} {l : List AskV} (h : AsksAt w A n cap l) {i : Nat} (hi : i < n) :
    ∃ b o, A = some ⟨b, o, none⟩ ∧ AskAt w b (o + i * 6) (l.getD i ask0) := by
  obtain ⟨h1, h2, h3 | ⟨b, o, h4, h5, h6⟩⟩ := h
  · omega
  · exact ⟨b, o, h4, h6 i hi⟩
theorem one_int : Tryd.prog.cellsOf 3 = 1 := by kernel_rfl
theorem types_ask : structTypes Tryd.prog 33 = some [9, 29, 3, 30, 31, 3] := by kernel_rfl
set_option maxRecDepth 100000 in
/-- numbers in a cell that was read -/
theorem open_ints_c {H : Type} {enc : TypeId × Value → H} {W : World} {fuel : Nat} {v : Value} {y : DataW H × List MemPlace} (h : DataW.trod enc Tryd.prog W 0 (fun _ => true) true fuel 31 [v] = some y) :
    ∃ (A : Option Addr) (cap : Nat) (l : List Int), v = .slice A l.length cap ∧ Reads W A l.length cap (fun i => .int .i64 (l.getD i 0)) ∧ cap ≤ 9223372036854775807 ∧ (A = none → cap = 0) := by
  obtain ⟨A, len, cap, hv, hl, hm, hc⟩ := open_ones Tryd.underlying31 one_int h
  injection hv with hv
  subst hv
  have hcap : cap ≤ 9223372036854775807 := by unfold maxLen at hm; omega
  rcases hc with hc | ⟨b, o, rfl, hb, hc⟩
  · subst hc
    obtain rfl : len = 0 := by omega
    exact ⟨A, 0, [], rfl, ⟨Nat.le_refl _, .inl rfl⟩, hcap, fun _ => rfl⟩
  · have hlen : ((List.range len).map fun i => gInt W b (o + i)).length = len := by simp
    have hrd : Reads W (some ⟨b, o, none⟩) len cap (fun i => .int .i64 (((List.range len).map fun i => gInt W b (o + i)).getD i 0)) := ⟨hl, .inr ⟨b, o, rfl, hb, fun i hi => by
      have e : ((List.range len).map fun i => gInt W b (o + i)).getD i 0 = gInt W b (o + i) := by
        rw [List.getD_eq_getElem?_getD, List.getElem?_map, List.getElem?_range hi]
        rfl
      obtain ⟨v, y, n, h1, h2⟩ := hc i hi
      dsimp only
      rw [e]
      exact (fld_int Tryd.underlying3 h1 h2).1⟩⟩
    refine ⟨some ⟨b, o, none⟩, cap, (List.range len).map fun i => gInt W b (o + i), by rw [hlen], ?_, hcap, fun h => by cases h⟩
    rw [hlen]
    exact hrd
set_option maxRecDepth 100000 in
/-- ASKS THAT CAME IN, to be read -/
theorem open_asks {H : Type} {enc : TypeId × Value → H} {W : World} {base : Nat} {v : Value} {d : DataW H} {ps : List MemPlace}
    (hval : Value.okWide Tryd.prog W .any base 22 v) (h : DataW.Trod enc Tryd.prog W 0 (fun _ => true) true 22 v d ps) :
    ∃ (A : Option Addr) (len cap : Nat) (l : List AskV), v = .slice A len cap ∧ AsksAt W A len cap l ∧ cap ≤ 9223372036854775807 := by
  obtain ⟨A, len, cap, rfl, hl, hm, hc⟩ := open_recs' Tryd.underlying22 types_ask (Nat.succ_pos _) hval h
  have hcap : cap ≤ 9223372036854775807 := by unfold maxLen at hm; omega
  rcases hc with hc | ⟨b, o, rfl, hb, hc⟩
  · subst hc
    obtain rfl : len = 0 := by omega
    exact ⟨A, 0, 0, [], rfl, ⟨rfl, Nat.le_refl _, .inl rfl⟩, hcap⟩
  · have hx : ∀ i, i < len → ∃ a : AskV, AskAt W b (o + i * 6) a := fun i hi => by
      obtain ⟨v0, y0, n0, a0, b0⟩ := hc i hi 0 _ rfl
      obtain ⟨v1, y1, n1, a1, b1⟩ := hc i hi 1 _ rfl
      obtain ⟨v2, y2, n2, a2, b2⟩ := hc i hi 2 _ rfl
      obtain ⟨v3, y3, n3, a3, b3⟩ := hc i hi 3 _ rfl
      obtain ⟨v4, y4, n4, a4, b4⟩ := hc i hi 4 _ rfl
      obtain ⟨v5, y5, n5, a5, b5⟩ := hc i hi 5 _ rfl
      have f0 := fld_str Tryd.underlying9 a0 b0
      have f1 := fld_int Tryd.underlying29 a1 b1
      have f2 := fld_int Tryd.underlying3 a2 b2
      have f5 := fld_int Tryd.underlying3 a5 b5
      obtain ⟨A3, l3, c3, rows, rfl, r1, r2, r3⟩ := open_rows_c b3
      obtain ⟨A4, c4, pages, rfl, p1, p2, p3⟩ := open_ints_c b4
      have hl3 := r1.len
      subst hl3
      exact ⟨⟨gStr W b (o + i * 6 + 0), gInt W b (o + i * 6 + 1), gInt W b (o + i * 6 + 2), rows, pages, gInt W b (o + i * 6 + 5)⟩, ⟨f0, f1.1, f2.1, ⟨A3, c3, a3, r1, r2⟩, ⟨A4, c4, a4, p1, p2, p3⟩, f5.1, r3⟩⟩
    obtain ⟨f, hf⟩ := Classical.axiomOfChoice (fun i : { i : Nat // i < len } => hx i.1 i.2)
    refine ⟨_, len, cap, (List.range len).pmap (fun i hi => f ⟨i, hi⟩) (fun i hi => List.mem_range.1 hi), rfl, ⟨by simp, hl, .inr ⟨b, o, rfl, hb, fun i hi => ?_⟩⟩, hcap⟩
    have e : ((List.range len).pmap (fun i hi => f ⟨i, hi⟩) (fun i hi => List.mem_range.1 hi)).getD i ask0 = f ⟨i, hi⟩ := by
      rw [List.getD_eq_getElem?_getD, List.getElem?_eq_getElem (by simpa using hi), Option.getD_some, List.getElem_pmap]
      simp
    rw [e]
    exact hf ⟨i, hi⟩
end Go.Proofs.YtlmnmncdoiealaaDoor
