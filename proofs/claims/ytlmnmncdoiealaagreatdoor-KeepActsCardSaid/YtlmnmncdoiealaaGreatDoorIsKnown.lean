
/- The walks of the reference's isKnown. -/
import Derived.Test.YtlmnmncdoiealaaGreatDoorFacts
namespace Go.Proofs.YtlmnmncdoiealaaGreatDoor
open Go.RowKit Go.Deep
set_option linter.unusedVariables false
set_option linter.unusedSimpArgs false

theorem learn_other (f : Ir.Facts) (o : Ir.Op) (x : Int) (h : Ir.writes o ≠ x) : Ir.learn f o x = f x := by
  unfold Ir.learn
  split
  · rfl
  · exact if_neg (Ne.symm h)
theorem facts_stepk (l : List Ir.Op) (i : Nat) (hi : i < l.length) : Ir.factsOf (l.take (i + 1)) = Ir.learn (Ir.factsOf (l.take i)) (l.getD i Ir.nop) := by
  unfold Ir.factsOf
  have : l.getD i Ir.nop = l[i] := by simp [List.getD, hi]
  rw [List.take_succ_eq_append_getElem hi, List.foldl_append, this]
  rfl
theorem facts_same (l : List Ir.Op) (x : Int) (i : Nat) : ∀ k, i ≤ k → k ≤ l.length → (∀ j, i ≤ j → j < k → Ir.writes (l.getD j Ir.nop) ≠ x) → Ir.factsOf (l.take k) x = Ir.factsOf (l.take i) x := by
  intro k
  induction k with
  | zero => intro h _ _; obtain rfl : i = 0 := by omega
            rfl
  | succ k ih =>
    intro h1 h2 h3
    by_cases e : i = k + 1
    · rw [e]
    · rw [facts_stepk l k (by omega), learn_other _ _ _ (h3 k (by omega) (by omega))]
      exact ih (by omega) (by omega) (fun j hj hk => h3 j hj (by omega))
theorem known_found (l : List Ir.Op) (x : Int) (p : Nat) (hp : p < l.length) (hx : x ≠ 0) (hw : Ir.writes (l.getD p Ir.nop) = x) (h : ∀ j, p + 1 ≤ j → j < l.length → Ir.writes (l.getD j Ir.nop) ≠ x) :
    (Ir.fof (Ir.factsOf l) x).isSome = (Ir.kn (l.getD p Ir.nop).k == 1) := by
  have e := facts_same l x (p + 1) l.length (by omega) (Nat.le_refl _) h
  rw [List.take_length] at e
  rw [show Ir.fof (Ir.factsOf l) x = Ir.factsOf l x from if_neg hx, e, facts_stepk l p hp]
  unfold Ir.learn
  rw [if_neg (by rw [hw]; exact hx)]
  simp only [hw, if_true]
  by_cases h1 : Ir.kn (l.getD p Ir.nop).k = 1
  · rw [if_pos h1, h1]; rfl
  · rw [if_neg h1]
    have : (Ir.kn (l.getD p Ir.nop).k == 1) = false := by simpa using h1
    rw [this]; rfl
theorem known_none (l : List Ir.Op) (x : Int) (hx : x ≠ 0) (h : ∀ j, j < l.length → Ir.writes (l.getD j Ir.nop) ≠ x) : (Ir.fof (Ir.factsOf l) x).isSome = false := by
  have e := facts_same l x 0 l.length (Nat.zero_le _) (Nat.le_refl _) (fun j _ hj => h j hj)
  rw [List.take_length] at e
  rw [show Ir.fof (Ir.factsOf l) x = Ir.factsOf l x from if_neg hx, e]
  rfl
end Go.Proofs.YtlmnmncdoiealaaGreatDoor
