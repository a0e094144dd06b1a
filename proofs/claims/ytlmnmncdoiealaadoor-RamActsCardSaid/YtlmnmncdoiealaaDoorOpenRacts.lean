/- Acts of a memory that came in, opened to cells. -/
import Derived.Test.YtlmnmncdoiealaaDoorOpenOps
namespace Go.Proofs.YtlmnmncdoiealaaDoor
open Go.ChangeShapes Go.WideShapes Go.ChangeAt Go.RowKit Go.Deep
set_option linter.unusedVariables false

/-- an act on a memory -/
structure RActV where
  kind : ByteArray
  addr : Int
  size : Int
  sg : Bool
  v : Int
  page : Int
  on : Bool
def ract0 : RActV := ⟨ByteArray.empty, 0, 0, false, 0, 0, false⟩
/-- an act as it lies -/
structure RActAt (w : World) (b o : Nat) (a : RActV) : Prop where
  kind : w.cell? ⟨b, o, none⟩ = some (.string a.kind)
  addr : w.cell? ⟨b, o + 1, none⟩ = some (.int .u32 a.addr)
  size : w.cell? ⟨b, o + 2, none⟩ = some (.int .i64 a.size)
  sg : w.cell? ⟨b, o + 3, none⟩ = some (.bool a.sg)
  v : w.cell? ⟨b, o + 4, none⟩ = some (.int .u32 a.v)
  page : w.cell? ⟨b, o + 5, none⟩ = some (.int .i64 a.page)
  on : w.cell? ⟨b, o + 6, none⟩ = some (.bool a.on)
  rng : (0 ≤ a.addr ∧ a.addr < 4294967296) ∧ (0 ≤ a.v ∧ a.v < 4294967296) ∧ (Lit.int .i64 a.size).wf = true ∧ (Lit.int .i64 a.page).wf = true
theorem RActAt.quiet {w w' : World} {b o : Nat} {a : RActV} (h : RActAt w b o a) (k : Keeps (fun _ => False) w w') : RActAt w' b o a := by
  obtain ⟨h1, h2, h3, h4, h5, h6, h7, h8⟩ := h
  exact ⟨k.cell' h1 (fun h => h), k.cell' h2 (fun h => h), k.cell' h3 (fun h => h), k.cell' h4 (fun h => h), k.cell' h5 (fun h => h), k.cell' h6 (fun h => h), k.cell' h7 (fun h => h), h8⟩
/-- acts as they lie -/
structure RActsAt (w : World) (A : Option Addr) (n cap : Nat) (l : List RActV) : Prop where
  len : l.length = n
  le : n ≤ cap
  lies : cap = 0 ∨ ∃ b o, A = some ⟨b, o, none⟩ ∧ b < w.heap.size ∧ ∀ i, i < n → RActAt w b (o + i * 7) (l.getD i ract0)
theorem RActsAt.quiet {w w' : World} {A : Option Addr} {n cap : Nat} {l : List RActV} (h : RActsAt w A n cap l) (k : Keeps (fun _ => False) w w') : RActsAt w' A n cap l := by
  obtain ⟨h1, h2, h3 | ⟨b, o, h4, h5, h6⟩⟩ := h
  · exact ⟨h1, h2, .inl h3⟩
  · exact ⟨h1, h2, .inr ⟨b, o, h4, Nat.lt_of_lt_of_le h5 k.size, fun i hi => (h6 i hi).quiet k⟩⟩
theorem RActsAt.get {w : World} {A : Option Addr} {n cap : Nat} {l : List RActV} (h : RActsAt w A n cap l) {i : Nat} (hi : i < n) :
    ∃ b o, A = some ⟨b, o, none⟩ ∧ RActAt w b (o + i * 7) (l.getD i ract0) := by
  obtain ⟨h1, h2, h3 | ⟨b, o, h4, h5, h6⟩⟩ := h
  · omega
  · exact ⟨b, o, h4, h6 i hi⟩
theorem types_ract : structTypes Tryd.prog 51 = some [9, 29, 3, 4, 29, 3, 4] := by kernel_rfl
set_option maxRecDepth 100000 in
/-- ACTS THAT CAME IN, to be read -/
theorem open_racts {H : Type} {enc : TypeId × Value → H} {W : World} {base : Nat} {v : Value} {d : DataW H} {ps : List MemPlace}
    (hval : Value.okWide Tryd.prog W .any base 45 v) (h : DataW.Trod enc Tryd.prog W 0 (fun _ => true) true 45 v d ps) :
    ∃ (A : Option Addr) (len cap : Nat) (l : List RActV), v = .slice A len cap ∧ RActsAt W A len cap l ∧ cap ≤ 9223372036854775807 := by
  obtain ⟨A, len, cap, rfl, hl, hm, hc⟩ := open_recs' Tryd.underlying45 types_ract (Nat.succ_pos _) hval h
  have hcap : cap ≤ 9223372036854775807 := by unfold maxLen at hm; omega
  rcases hc with hc | ⟨b, o, rfl, hb, hc⟩
  · subst hc
    obtain rfl : len = 0 := by omega
    exact ⟨A, 0, 0, [], rfl, ⟨rfl, Nat.le_refl _, .inl rfl⟩, hcap⟩
  · have hx : ∀ i, i < len → ∃ a : RActV, RActAt W b (o + i * 7) a := fun i hi => by
      obtain ⟨v0, y0, n0, a0, b0⟩ := hc i hi 0 _ rfl
      obtain ⟨v1, y1, n1, a1, b1⟩ := hc i hi 1 _ rfl
      obtain ⟨v2, y2, n2, a2, b2⟩ := hc i hi 2 _ rfl
      obtain ⟨v3, y3, n3, a3, b3⟩ := hc i hi 3 _ rfl
      obtain ⟨v4, y4, n4, a4, b4⟩ := hc i hi 4 _ rfl
      obtain ⟨v5, y5, n5, a5, b5⟩ := hc i hi 5 _ rfl
      obtain ⟨v6, y6, n6, a6, b6⟩ := hc i hi 6 _ rfl
      have f0 := fld_str Tryd.underlying9 a0 b0
      have f1 := fld_int Tryd.underlying29 a1 b1
      have f2 := fld_int Tryd.underlying3 a2 b2
      have f3 := fld_bool Tryd.underlying4 a3 b3
      have f4 := fld_int Tryd.underlying29 a4 b4
      have f5 := fld_int Tryd.underlying3 a5 b5
      have f6 := fld_bool Tryd.underlying4 a6 b6
      exact ⟨⟨gStr W b (o + i * 7 + 0), gInt W b (o + i * 7 + 1), gInt W b (o + i * 7 + 2), gBool W b (o + i * 7 + 3), gInt W b (o + i * 7 + 4), gInt W b (o + i * 7 + 5), gBool W b (o + i * 7 + 6)⟩, ⟨f0, f1.1, f2.1, f3, f4.1, f5.1, f6, rng_u32 f1.2, rng_u32 f4.2, f2.2, f5.2⟩⟩
    obtain ⟨f, hf⟩ := Classical.axiomOfChoice (fun i : { i : Nat // i < len } => hx i.1 i.2)
    refine ⟨_, len, cap, (List.range len).pmap (fun i hi => f ⟨i, hi⟩) (fun i hi => List.mem_range.1 hi), rfl, ⟨by simp, hl, .inr ⟨b, o, rfl, hb, fun i hi => ?_⟩⟩, hcap⟩
    have e : ((List.range len).pmap (fun i hi => f ⟨i, hi⟩) (fun i hi => List.mem_range.1 hi)).getD i ract0 = f ⟨i, hi⟩ := by
      rw [List.getD_eq_getElem?_getD, List.getElem?_eq_getElem (by simpa using hi), Option.getD_some, List.getElem_pmap]
      simp
    rw [e]
    exact hf ⟨i, hi⟩
end Go.Proofs.YtlmnmncdoiealaaDoor
