
/- Sweeping, plainly: one step of it. -/
import Derived.Test.YtaflchcoddgdbaaDoorOptDefs
namespace Go.Proofs.YtaflchcoddgdbaaDoor
namespace Ir
theorem sweepGo_same : ∀ (n m : Nat) (l : List Op), l.length ≤ n → l.length ≤ m → sweepGo n l = sweepGo m l
  | 0, 0, l, _, _ => rfl
  | 0, m + 1, l, hn, _ => by
    obtain rfl : l = [] := List.eq_nil_of_length_eq_zero (by omega)
    rfl
  | n + 1, 0, l, _, hm => by
    obtain rfl : l = [] := List.eq_nil_of_length_eq_zero (by omega)
    rfl
  | n + 1, m + 1, l, hn, hm => by
    unfold sweepGo
    split
    · rename_i i hi
      have h1 := (firstDead_some hi).1
      have h3 : (l.eraseIdx i).length = l.length - 1 := List.length_eraseIdx_of_lt h1
      exact sweepGo_same n m _ (by omega) (by omega)
    · rfl
theorem sweep_none {l : List Op} (h : ∀ j, j < l.length → dead l j = false) : sweep l = l := by
  have hf : firstDead l = none := by
    unfold firstDead
    rw [List.find?_eq_none]
    intro j hj
    simp [h j (List.mem_range.1 hj)]
  unfold sweep
  cases hl : l.length with
  | zero => rfl
  | succ n => unfold sweepGo; rw [hf]
theorem firstDead_at {l : List Op} {i : Nat} (hi : i < l.length) (hd : dead l i = true) (h : ∀ j, j < i → dead l j = false) : firstDead l = some i := by
  unfold firstDead
  rw [List.find?_range_eq_some]
  refine ⟨hd, List.mem_range.2 hi, fun j hj => ?_⟩
  simp [h j hj]
theorem sweep_step {l : List Op} {i : Nat} (hi : i < l.length) (hd : dead l i = true) (h : ∀ j, j < i → dead l j = false) : sweep l = sweep (l.eraseIdx i) := by
  have h3 : (l.eraseIdx i).length = l.length - 1 := List.length_eraseIdx_of_lt hi
  unfold sweep
  cases hl : l.length with
  | zero => omega
  | succ n =>
    conv => lhs; unfold sweepGo
    rw [firstDead_at hi hd h]
    exact sweepGo_same _ _ _ (by omega) (by omega)
end Ir
end Go.Proofs.YtaflchcoddgdbaaDoor
