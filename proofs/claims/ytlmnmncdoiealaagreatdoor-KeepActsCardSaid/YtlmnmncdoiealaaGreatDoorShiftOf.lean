
/- The walks of the reference's Signed, ShiftOf and Part. -/
import Derived.Test.YtlmnmncdoiealaaGreatDoorWideOf
namespace Go.Proofs.YtlmnmncdoiealaaGreatDoor
open Go.RowKit
set_option linter.unusedVariables false

theorem sg_tdiv (x y : Int) (hx : -2147483648 ≤ x ∧ x ≤ 2147483647) : -2147483648 ≤ x.tdiv y ∧ x.tdiv y ≤ 2147483648 := by
  have h1 : (x.tdiv y).natAbs ≤ x.natAbs := by rw [Int.natAbs_tdiv]; exact Nat.div_le_self _ _
  omega
/-- a power that a part is by -/
theorem pw31 : ∀ k : Nat, k < 32 → 1 ≤ (2 : Int) ^ k ∧ (2 : Int) ^ k < 4294967296 := by decide +kernel
theorem shift_up (u : Int) (a : Int) (h : 0 ≤ u ∧ u < 32) : Wd.shift 62 a u = a / 2 ^ u.toNat ∧ Wd.shift 60 1 u = 2 ^ u.toNat := by
  have h1 : u % 32 = u := by omega
  have h2 := pw31 u.toNat (by omega)
  constructor
  · rw [Wd.shift_62 a u _ rfl, h1]
  · rw [Wd.shift_60 1 u _ rfl, h1, Int.one_mul]
    omega
end Go.Proofs.YtlmnmncdoiealaaGreatDoor
