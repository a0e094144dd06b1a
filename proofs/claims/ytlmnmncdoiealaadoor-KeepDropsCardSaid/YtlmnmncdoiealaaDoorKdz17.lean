import Derived.Test.YtlmnmncdoiealaaDoorKdz14
import Derived.Test.YtlmnmncdoiealaaDoorIrOp3
import Derived.Test.YtlmnmncdoiealaaDoorIrOps
import Derived.Test.YtlmnmncdoiealaaDoorFacts
import Derived.BigQuiet
import Derived.Deep.RegionHeld3
import Derived.Laws.Rows

/- RowErr -/
/- The walks of the reference's classOf, rowError. Printed by gen/rowerr.py. -/
namespace Go.Proofs.YtlmnmncdoiealaaDoor
open Go.RowKit Go.Deep
set_option linter.unusedVariables false
set_option linter.unusedSimpArgs false

theorem opErrs_at {many : Int} : ∀ (l : List Ir.Op) (i : Nat), i < l.length → (∀ j, j < i → Ir.opErr (l.getD j Ir.nop) many = 0) → Ir.opErr (l.getD i Ir.nop) many ≠ 0 → Ir.opErrs many l = Ir.opErr (l.getD i Ir.nop) many
  | [], i, h, _, _ => by simp at h
  | o :: r, 0, _, _, h => by
    have h2 : Ir.opErr o many ≠ 0 := h
    unfold Ir.opErrs
    rw [if_pos h2]
    rfl
  | o :: r, i + 1, h, hj, hn => by
    have h0 : Ir.opErr o many = 0 := hj 0 (by omega)
    unfold Ir.opErrs
    rw [if_neg (by omega)]
    exact opErrs_at r i (by simpa using h) (fun j hj' => hj (j + 1) (by omega)) hn
theorem opErrs_all {many : Int} {l : List Ir.Op} (h : ∀ j, j < l.length → Ir.opErr (l.getD j Ir.nop) many = 0) : Ir.opErrs many l = 0 := Ir.opErrs_zero (fun o ho => by
  obtain ⟨i, hi, rfl⟩ := List.getElem_of_mem ho
  have := h i hi
  rwa [List.getD_eq_getElem?_getD, List.getElem?_eq_getElem hi] at this)
theorem cls_lt (o : Ir.Op) : Ir.cls o < 3 := by
  unfold Ir.cls
  split
  · decide
  · split <;> decide
theorem cnt_step (l : List Ir.Op) (i : Nat) (h : i < l.length) (c : Nat) : Ir.cnt (l.take (i + 1)) c = Ir.cnt (l.take i) c + if c = Ir.cls (l.getD i Ir.nop) then 1 else 0 := by
  rw [List.take_succ_eq_append_getElem h, Ir.cnt_snoc]
  have : l.getD i Ir.nop = l[i] := by simp [List.getD, h]
  rw [this]
  by_cases e : c = Ir.cls l[i]
  · rw [if_pos e, if_pos e.symm]
  · rw [if_neg e, if_neg (fun h => e h.symm)]
theorem outs_step (l : List Ir.Op) (i : Nat) (h : i < l.length) : Ir.outs (l.take (i + 1)) = Ir.outs (l.take i) + if Ir.isOut (Ir.kn (l.getD i Ir.nop).k) = true then 1 else 0 := by
  unfold Ir.outs
  rw [List.take_succ_eq_append_getElem h, List.countP_append, List.countP_singleton]
  have : l.getD i Ir.nop = l[i] := by simp [List.getD, h]
  rw [this]
/-- is a register written twice, by places? -/
def dupAt (l : List Ir.Op) (i k : Nat) : Prop := 0 < Ir.writes (l.getD i Ir.nop) ∧ Ir.writes (l.getD i Ir.nop) = Ir.writes (l.getD k Ir.nop)
theorem dupW_iff : ∀ (l : List Ir.Op), Ir.dupW l = true ↔ ∃ i k, k < i ∧ i < l.length ∧ dupAt l i k
  | [] => by simp [Ir.dupW]
  | o :: r => by
    have ih := dupW_iff r
    unfold Ir.dupW
    rw [Bool.or_eq_true, ih, List.any_eq_true]
    constructor
    · rintro (⟨p, hp, hq⟩ | ⟨i, k, h1, h2, h3⟩)
      · obtain ⟨j, hj, rfl⟩ := List.getElem_of_mem hp
        have hq := of_decide_eq_true hq
        refine ⟨j + 1, 0, by omega, by simpa using hj, ?_⟩
        unfold dupAt
        have e : (o :: r).getD (j + 1) Ir.nop = r[j] := by simp [List.getD, hj]
        rw [e]
        exact hq
      · exact ⟨i + 1, k + 1, by omega, by simpa using h2, h3⟩
    · rintro ⟨i, k, h1, h2, h3⟩
      cases i with
      | zero => omega
      | succ i =>
        have hi : i < r.length := by simpa using h2
        cases k with
        | zero =>
          left
          refine ⟨r[i], List.getElem_mem hi, decide_eq_true ?_⟩
          unfold dupAt at h3
          have e : (o :: r).getD (i + 1) Ir.nop = r[i] := by simp [List.getD, hi]
          rw [e] at h3
          exact h3
        | succ k => exact .inr ⟨i, k, by omega, hi, h3⟩
/-- the three counts in a block of their own -/
structure CntBox (w : World) (x : Nat) (c0 c1 c2 : Nat) : Prop where
  blk : w.heap[x]? = some (.cells #[.int .i64 c0, .int .i64 c1, .int .i64 c2] 3 (0, 0))
theorem CntBox.lt {w : World} {x c0 c1 c2 : Nat} (h : CntBox w x c0 c1 c2) : x < w.heap.size := (Array.getElem?_eq_some_iff.1 h.blk).1
theorem CntBox.keep {S : Nat → Prop} {w w' : World} {x c0 c1 c2 : Nat} (h : CntBox w x c0 c1 c2) (k : Keeps S w w') (hs : ¬ S x) : CntBox w' x c0 c1 c2 := ⟨(k.block x h.lt hs).trans h.blk⟩
theorem CntBox.cells {w : World} {x c0 c1 c2 : Nat} (h : CntBox w x c0 c1 c2) :
    w.cell? ⟨x, 0, none⟩ = some (.int .i64 c0) ∧ w.cell? ⟨x, 1, none⟩ = some (.int .i64 c1) ∧ w.cell? ⟨x, 2, none⟩ = some (.int .i64 c2) ∧ w.frozen? ⟨x, 0, none⟩ = false ∧ w.frozen? ⟨x, 1, none⟩ = false ∧ w.frozen? ⟨x, 2, none⟩ = false := by
  refine ⟨?_, ?_, ?_, frozen_of_block h.blk 0, frozen_of_block h.blk 1, frozen_of_block h.blk 2⟩ <;> (unfold World.cell?; rw [h.blk]; rfl)
theorem CntBox.new (w : World) : CntBox (w.alloc (.cells #[.int .i64 0, .int .i64 0, .int .i64 0] 3)) w.heap.size 0 0 0 := ⟨blk_alloc_new _ _⟩
theorem CntBox.up0 {w : World} {x c0 c1 c2 : Nat} (h : CntBox w x c0 c1 c2) (v : Int) (hv : v = (c0 : Int) + 1) : CntBox (w.setCell ⟨x, 0, none⟩ (.int .i64 v)) x (c0 + 1) c1 c2 := by
  refine ⟨?_⟩; rw [hv]; have h1 := set_block h.blk 0 (.int .i64 ((c0 : Int) + 1)); simpa using h1
theorem CntBox.up1 {w : World} {x c0 c1 c2 : Nat} (h : CntBox w x c0 c1 c2) (v : Int) (hv : v = (c1 : Int) + 1) : CntBox (w.setCell ⟨x, 1, none⟩ (.int .i64 v)) x c0 (c1 + 1) c2 := by
  refine ⟨?_⟩; rw [hv]; have h1 := set_block h.blk 1 (.int .i64 ((c1 : Int) + 1)); simpa using h1
theorem CntBox.up2 {w : World} {x c0 c1 c2 : Nat} (h : CntBox w x c0 c1 c2) (v : Int) (hv : v = (c2 : Int) + 1) : CntBox (w.setCell ⟨x, 2, none⟩ (.int .i64 v)) x c0 c1 (c2 + 1) := by
  refine ⟨?_⟩; rw [hv]; have h1 := set_block h.blk 2 (.int .i64 ((c2 : Int) + 1)); simpa using h1
theorem cntbox_keep {w w' : World} {x o : Nat} {v : Value} (h : Keeps (fun _ => False) w w') (hx : w.heap.size ≤ x) : Keeps (fun _ => False) w (w'.setCell ⟨x, o, none⟩ v) := h.setCell (a := ⟨x, o, none⟩) (fun hh => absurd hh (Nat.not_lt.2 hx)) _
end Go.Proofs.YtlmnmncdoiealaaDoor

/- PlanFaultL -/
/- What is wrong of a plan, by places. No program in sight. -/
namespace Go.Proofs.YtlmnmncdoiealaaDoor
open Go.RowKit
set_option linter.unusedVariables false
namespace Ir
theorem rowsErr_from {many : Int} {n : Nat} : ∀ (r : List (List Op)) (s i : Nat), i < r.length → (∀ j, j < i → rowErr many (r.getD j []) (decide (s + j + 1 = n)) = 0) → rowErr many (r.getD i []) (decide (s + i + 1 = n)) ≠ 0 →
    rowsErr many n s r = some (rowErr many (r.getD i []) (decide (s + i + 1 = n)), s + i)
  | [], s, i, h, _, _ => by simp at h
  | l :: r, s, 0, _, _, h => by
    have h2 : rowErr many l (decide (s + 1 = n)) ≠ 0 := h
    unfold rowsErr
    rw [if_pos h2]
    rfl
  | l :: r, s, i + 1, h, hj, hn => by
    have h0 : rowErr many l (decide (s + 1 = n)) = 0 := hj 0 (by omega)
    unfold rowsErr
    rw [if_neg (by rw [h0]; decide)]
    have := rowsErr_from (many := many) (n := n) r (s + 1) i (by simpa using h) (fun j hj' => by
      have := hj (j + 1) (by omega)
      rw [show s + 1 + j + 1 = s + (j + 1) + 1 by omega]
      exact this) (by
      rw [show s + 1 + i + 1 = s + (i + 1) + 1 by omega]
      exact hn)
    rw [this, show s + 1 + i = s + (i + 1) by omega]
    rfl
theorem rowsErr_at {many : Int} {rows : List (List Op)} {i : Nat} (h : i < rows.length) (hj : ∀ j, j < i → rowErr many (rows.getD j []) (decide (j + 1 = rows.length)) = 0) (hn : rowErr many (rows.getD i []) (decide (i + 1 = rows.length)) ≠ 0) :
    rowsErr many rows.length 0 rows = some (rowErr many (rows.getD i []) (decide (i + 1 = rows.length)), i) := by
  have := rowsErr_from (many := many) (n := rows.length) rows 0 i h (by simpa using hj) (by simpa using hn)
  simpa using this
theorem rowsErr_all {many : Int} {rows : List (List Op)} (h : ∀ j, j < rows.length → rowErr many (rows.getD j []) (decide (j + 1 = rows.length)) = 0) : rowsErr many rows.length 0 rows = none :=
  rowsErr_none rows 0 (fun j hj => by simpa using h j hj)
theorem planStores_step (rows : List (List Op)) (i : Nat) (h : i < rows.length) : planStores (rows.take (i + 1)) = planStores (rows.take i) + stores (rows.getD i []) := by
  unfold planStores
  rw [List.take_succ_eq_append_getElem h, List.map_append, List.sum_append]
  have : rows.getD i [] = rows[i] := by simp [List.getD, h]
  rw [this]
  simp
theorem rowErr_le (many : Int) (l : List Op) (last : Bool) : rowErr many l last ≤ 8 := by
  have h1 : ∀ l : List Op, opErrs many l ≤ 8 := by
    intro l
    induction l with
    | nil => exact Nat.zero_le _
    | cons o r ih =>
      unfold opErrs
      split
      · unfold opErr; split <;> (try split) <;> (try split) <;> omega
      · exact ih
  unfold rowErr
  split
  · omega
  · split
    · exact h1 l
    · split
      · omega
      · split
        · omega
        · split <;> omega
theorem rowErr_len {many : Int} {l : List Op} {last : Bool} (h : rowErr many l last = 0) : 0 < l.length ∧ l.length ≤ 4 := by
  unfold rowErr at h
  split at h
  · omega
  · omega
theorem stores_le_len (l : List Op) : stores l ≤ l.length := List.countP_le_length
theorem planFault_le (many : Int) (rows : List (List Op)) : (planFault many rows).1 ≤ 8 := by
  unfold planFault
  split
  · exact (by omega : (2 : Nat) ≤ 8)
  · split
    · exact Nat.le_refl _
    · split
      · exact (by omega : (3 : Nat) ≤ 8)
      · split
        · rename_i c i h
          have : ∀ (r : List (List Op)) (n s : Nat) c i, rowsErr many n s r = some (c, i) → c ≤ 8 := by
            intro r n
            induction r with
            | nil => intro s c i h; simp [rowsErr] at h
            | cons l t ih =>
              intro s c i h
              unfold rowsErr at h
              split at h
              · injection h with h
                injection h with h1 h2
                rw [← h1]
                exact rowErr_le _ _ _
              · exact ih _ _ _ h
          exact this _ _ _ _ _ h
        · split
          · exact Nat.le_refl _
          · exact Nat.zero_le _
end Ir
end Go.Proofs.YtlmnmncdoiealaaDoor

/- CodeFault -/
/- The walks of the reference's Bare, Fine, CodeFault. -/
namespace Go.Proofs.YtlmnmncdoiealaaDoor
open Go.RowKit Go.Deep
set_option linter.unusedVariables false
set_option linter.unusedSimpArgs false

/-- a fault's value -/
def faultV (f : Nat × Int) : Value := .agg #[.int .i64 f.1, .int .i64 f.2]
theorem errAt_le (many : Int) (l : List Ir.Op) (i : Nat) : Ir.errAt many l i ≤ 10 := by
  have h1 : ∀ o, Ir.opErr o many ≤ 10 := fun o => by unfold Ir.opErr; split <;> (try split) <;> (try split) <;> omega
  unfold Ir.errAt
  split <;> (try split) <;> first | exact h1 _ | omega
end Go.Proofs.YtlmnmncdoiealaaDoor
