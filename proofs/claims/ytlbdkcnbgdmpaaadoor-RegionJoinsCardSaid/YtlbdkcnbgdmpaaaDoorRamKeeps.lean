
/- The walk of the law RamKeeps. -/
import Derived.Test.YtlbdkcnbgdmpaaaDoorAlike
import Derived.Test.YtlbdkcnbgdmpaaaDoorRamCopy
namespace Go.Proofs.YtlbdkcnbgdmpaaaDoor
open Go.RowKit Go.Deep
set_option linter.unusedVariables false

theorem be_congr {m m' : Nat → Int} {a : Nat} : ∀ n, (∀ k, k < n → m (a + k) = m' (a + k)) → be m a n = be m' a n
  | 0, _ => rfl
  | n + 1, h => by
    show 256 * be m a n + m (a + n) = 256 * be m' a n + m' (a + n)
    rw [be_congr n (fun k hk => h k (by omega)), h n (by omega)]
theorem be_stTo {m : Nat → Int} {a n : Nat} {v : Int} (hv : 0 ≤ v ∧ v < 4294967296) (hn : n = 1 ∨ n = 2 ∨ n = 4) : be (stTo m a n v n) a n = v % 256 ^ n := by
  rcases hn with rfl | rfl | rfl
  · simp [be, stTo, sb]
  · simp [be, stTo, sb]; omega
  · simp [be, stTo, sb]; omega
/-- a word that the store does not reach -/
theorem be_other {m : Nat → Int} {a n i : Nat} {v : Int} (hn : n = 1 ∨ n = 2 ∨ n = 4) (ha : a % n = 0) (hi : i ≠ a / 4) : be (stTo m a n v n) (4 * i) 4 = be m (4 * i) 4 := by
  refine be_congr 4 fun k hk => ?_
  unfold stTo
  rw [if_neg]
  rcases hn with rfl | rfl | rfl <;> omega
theorem stTo_rng {m : Nat → Int} {a n j : Nat} {v : Int} {k : Nat} (h : 0 ≤ m k ∧ m k < 256) : 0 ≤ stTo m a n v j k ∧ stTo m a n v j k < 256 := by
  unfold stTo sb
  split
  · exact ⟨Int.emod_nonneg _ (by decide), Int.emod_lt_of_pos _ (by decide)⟩
  · exact h
theorem bw_rng {m : Nat → Int} (h : ∀ i, i < 16384 → 0 ≤ m i ∧ m i < 256) {k : Nat} (hk : k < 4096) : 0 ≤ be m (4 * k) 4 ∧ be m (4 * k) 4 < 4294967296 := be_rng m (4 * k) 4 (fun i hi => h _ (by omega))

end Go.Proofs.YtlbdkcnbgdmpaaaDoor
