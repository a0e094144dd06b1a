
/- A byte of a word, patched; bytes that stores left. No program in sight but memory's plain text. -/
import Derived.Test.YtgmbladcoikffaaGreatDoorMachDefs
import Derived.Laws.BitsAllLaws
namespace Go.Proofs.YtgmbladcoikffaaGreatDoor
open Go.RowKit
set_option linter.unusedVariables false

theorem nat_patch (v x u : Nat) (hu : u ≤ 24) (hv : v < 4294967296) (hx : x < 256) : (v &&& (4294967295 - 255 * 2 ^ u)) ||| (x * 2 ^ u) = 2 ^ u * (2 ^ 8 * (v / 2 ^ (u + 8)) + x) + v % 2 ^ u := by
  have hp : 255 * 2 ^ u < 2 ^ 32 := by
    have : 2 ^ u ≤ 2 ^ 24 := Nat.pow_le_pow_right (by omega) hu
    omega
  apply Nat.eq_of_testBit_eq
  intro j
  rw [Nat.testBit_or, Nat.testBit_and, show 4294967295 - 255 * 2 ^ u = 2 ^ 32 - (255 * 2 ^ u + 1) by omega, Nat.testBit_two_pow_sub_succ hp,
    Nat.testBit_two_pow_mul_add _ (Nat.mod_lt _ (Nat.two_pow_pos u)), Nat.testBit_mod_two_pow, Nat.testBit_two_pow_mul_add _ (show x < 2 ^ 8 by omega), Nat.testBit_div_two_pow,
    Nat.testBit_mul_two_pow, Nat.testBit_mul_two_pow, show (255 : Nat) = 2 ^ 8 - 1 from rfl, Nat.testBit_two_pow_sub_one]
  by_cases h1 : j < u
  · simp [h1, show ¬ u ≤ j by omega, show j < 32 by omega]
  · rw [if_neg h1]
    by_cases h2 : j - u < 8
    · simp [h2, show u ≤ j by omega]
    · have hx0 : x.testBit (j - u) = false := Nat.testBit_lt_two_pow (Nat.lt_of_lt_of_le hx (Nat.pow_le_pow_right (n := 2) (by omega) (show 8 ≤ j - u by omega)))
      have e : j - u - 8 + (u + 8) = j := by omega
      simp only [h2, hx0, e]
      by_cases h3 : j < 32
      · simp [h3]
      · have hv0 : v.testBit j = false := Nat.testBit_lt_two_pow (Nat.lt_of_lt_of_le hv (Nat.pow_le_pow_right (n := 2) (by omega) (show 32 ≤ j by omega)))
        simp [hv0]
theorem cast_mul_pow (x u : Nat) : ((x * 2 ^ u : Nat) : Int) = (x : Int) * 2 ^ u := by push_cast; rfl
theorem cast_div_pow (x u : Nat) : ((x / 2 ^ u : Nat) : Int) = (x : Int) / 2 ^ u := by push_cast; rfl
theorem cast_mod (x : Nat) : ((x % 256 : Nat) : Int) = (x : Int) % 256 := by omega
theorem int_patch (v s : Int) (u k : Nat) (hu : u ≤ 24) (hv : 0 ≤ v ∧ v < 4294967296) (hs : 0 ≤ s ∧ s < 4294967296) (hk : k ≤ 24) :
    bits .or .u32 (bits .andNot .u32 v (255 * 2 ^ u % 4294967296)) (bits .and .u32 (s / 2 ^ k) 255 * 2 ^ u % 4294967296) = v - v / 2 ^ u % 256 * 2 ^ u + s / 2 ^ k % 256 * 2 ^ u := by
  obtain ⟨V, rfl⟩ := Int.eq_ofNat_of_zero_le hv.1
  obtain ⟨S, rfl⟩ := Int.eq_ofNat_of_zero_le hs.1
  have hpu : 2 ^ u ≤ 2 ^ 24 := Nat.pow_le_pow_right (by omega) hu
  have hpp := Nat.two_pow_pos u
  have e1 : (255 * 2 ^ u % 4294967296 : Int) = ((255 * 2 ^ u : Nat) : Int) := by
    have h1 : ((255 * 2 ^ u : Nat) : Int) < 4294967296 := by omega
    have h2 : (0 : Int) ≤ ((255 * 2 ^ u : Nat) : Int) := by omega
    have h3 := cast_mul_pow 255 u
    rw [show ((255 : Nat) : Int) = 255 from rfl] at h3
    rw [← h3, Int.emod_eq_of_lt h2 h1]
  have e2 : ((S : Int) / 2 ^ k) = ((S / 2 ^ k : Nat) : Int) := (cast_div_pow S k).symm
  have hSk : S / 2 ^ k < 4294967296 := Nat.lt_of_le_of_lt (Nat.div_le_self _ _) (by omega)
  have e3 : bits .and .u32 ((S : Int) / 2 ^ k) 255 = ((S / 2 ^ k % 256 : Nat) : Int) := by
    rw [e2, show (255 : Int) = ((255 : Nat) : Int) from rfl, u32_and_nat _ _ hSk (by omega), show (255 : Nat) = 2 ^ 8 - 1 from rfl, Nat.and_two_pow_sub_one_eq_mod]
  obtain ⟨X, hX⟩ : ∃ X, S / 2 ^ k % 256 = X := ⟨_, rfl⟩
  have hX256 : X < 256 := by rw [← hX]; exact Nat.mod_lt _ (by omega)
  have hXu : X * 2 ^ u < 4294967296 := Nat.lt_of_lt_of_le (Nat.mul_lt_mul_of_lt_of_le hX256 hpu (by omega)) (by decide)
  have e4 : bits .and .u32 ((S : Int) / 2 ^ k) 255 * 2 ^ u % 4294967296 = ((X * 2 ^ u : Nat) : Int) := by
    have h1 : ((X * 2 ^ u : Nat) : Int) < 4294967296 := by omega
    have h2 : (0 : Int) ≤ ((X * 2 ^ u : Nat) : Int) := by omega
    rw [e3, hX, ← cast_mul_pow, Int.emod_eq_of_lt h2 h1]
  have h255 : 255 * 2 ^ u < 4294967296 := by omega
  rw [e1, e4, u32_andNot_nat _ _ (by omega) h255, u32_or_nat _ _ (Nat.lt_of_le_of_lt Nat.and_le_left (by omega)) hXu, nat_patch V X u hu (by omega) hX256]
  have e5 : ((S : Int) / 2 ^ k % 256) = (X : Int) := by rw [e2, ← hX, cast_mod]
  rw [e5]
  have hd : V = 2 ^ u * (2 ^ 8 * (V / 2 ^ (u + 8)) + V / 2 ^ u % 256) + V % 2 ^ u := by
    have h1 := Nat.div_add_mod V (2 ^ u)
    have h2 := Nat.div_add_mod (V / 2 ^ u) 256
    rw [Nat.div_div_eq_div_mul, show 2 ^ u * 256 = 2 ^ (u + 8) by rw [Nat.pow_add]] at h2
    rw [show (2 : Nat) ^ 8 = 256 from rfl, h2, h1]
  have hd2 : ((2 ^ u * (2 ^ 8 * (V / 2 ^ (u + 8)) + X) + V % 2 ^ u : Nat) : Int) = (V : Int) - ((V / 2 ^ u % 256 * 2 ^ u : Nat) : Int) + ((X * 2 ^ u : Nat) : Int) := by
    generalize V / 2 ^ (u + 8) = H at *
    generalize V / 2 ^ u % 256 = O at *
    generalize V % 2 ^ u = L at *
    have : 2 ^ u * (2 ^ 8 * H + X) + L + O * 2 ^ u = V + X * 2 ^ u := by
      rw [hd, Nat.mul_add, Nat.mul_add, Nat.mul_comm O, Nat.mul_comm X]
      omega
    omega
  rw [hd2, cast_mul_pow, cast_mul_pow, cast_mod, cast_div_pow]
/-- bytes with one set -/
def upd (f : Nat → Int) (k : Nat) (x : Int) (j : Nat) : Int := if j = k then x else f j
theorem be_patch {f : Nat → Int} {a n i : Nat} {x : Int} {u : Nat} (hn : n = 1 ∨ n = 2 ∨ n = 4) (hi : i < n) (hu : (u : Int) = 8 * ((n : Int) - 1 - i)) (hf : ∀ k, k < n → 0 ≤ f (a + k) ∧ f (a + k) < 256) :
    be (upd f (a + i) x) a n = be f a n - be f a n / 2 ^ u % 256 * 2 ^ u + x * 2 ^ u := by
  have h0 := hf 0 (by omega)
  rcases hn with rfl | rfl | rfl
  · obtain rfl : i = 0 := by omega
    obtain rfl : u = 0 := by omega
    simp only [be, upd, Nat.add_zero] at *
    simp
    omega
  · have h1 := hf 1 (by omega)
    have hc : i = 0 ∨ i = 1 := by omega
    rcases hc with rfl | rfl
    · obtain rfl : u = 8 := by omega
      simp only [be, upd, Nat.add_zero] at *
      simp
      omega
    · obtain rfl : u = 0 := by omega
      simp only [be, upd, Nat.add_zero] at *
      simp
      omega
  · have h1 := hf 1 (by omega)
    have h2 := hf 2 (by omega)
    have h3 := hf 3 (by omega)
    have hc : i = 0 ∨ i = 1 ∨ i = 2 ∨ i = 3 := by omega
    rcases hc with rfl | rfl | rfl | rfl
    · obtain rfl : u = 24 := by omega
      simp only [be, upd, Nat.add_zero] at *
      simp
      omega
    · obtain rfl : u = 16 := by omega
      simp only [be, upd, Nat.add_zero] at *
      simp
      omega
    · obtain rfl : u = 8 := by omega
      simp only [be, upd, Nat.add_zero] at *
      simp
      omega
    · obtain rfl : u = 0 := by omega
      simp only [be, upd, Nat.add_zero] at *
      simp
      omega
end Go.Proofs.YtgmbladcoikffaaGreatDoor
