/- The walk of the law WordBack. -/
import Derived.Test.YtmcfjdbpgnchnaaWordParts
namespace Go.Proofs.Ytmcfjdbpgnchnaa
open Go.RowKit

theorem Wd.quo_rng (a b : Int) (s : Bool) (ha : 0 ≤ a ∧ a < 4294967296) (hb : 0 ≤ b ∧ b < 4294967296) : 0 ≤ Wd.quo a b s ∧ Wd.quo a b s < 4294967296 := by
  by_cases h : b = 0
  · subst h; rw [Wd.quo_0]; omega
  · cases s
    · rw [Wd.quo_u a b h]; have := IntWalk.tdiv_le a b ha.1 (by omega); omega
    · rw [Wd.quo_s a b h]; omega
theorem Wd.rst_rng (a b : Int) (s : Bool) (hb : 0 ≤ b ∧ b < 4294967296) : 0 ≤ Wd.rst a b s ∧ Wd.rst a b s < 4294967296 := by
  by_cases h : b = 0
  · subst h; rw [Wd.rst_0]; omega
  · cases s
    · rw [Wd.rst_u a b h]
      have h1 : 0 ≤ a % b ∧ a % b < b := ⟨Int.emod_nonneg _ h, Int.emod_lt_of_pos _ (by omega)⟩
      omega
    · rw [Wd.rst_s a b h]; omega
theorem Wd.lo_rng (a b : Int) (s : Bool) : 0 ≤ Wd.lo a b s ∧ Wd.lo a b s < 4294967296 := by unfold Wd.lo; omega
theorem Wd.back_u (a b : Int) (ha : 0 ≤ a ∧ a < 4294967296) (hb : 0 ≤ b ∧ b < 4294967296) (h : b ≠ 0) :
    Wd.hi (Wd.quo a b false) b false = 0 ∧ (Wd.lo (Wd.quo a b false) b false + Wd.rst a b false) % 4294967296 = a ∧ Wd.less (Wd.rst a b false) b false = true := by
  rw [Wd.quo_u a b h, Wd.rst_u a b h]
  have h1 : 0 ≤ a % b ∧ a % b < b := ⟨Int.emod_nonneg _ h, Int.emod_lt_of_pos _ (by omega)⟩
  have h2 := Int.emod_add_mul_ediv a b
  have h3 : 0 ≤ a / b := Int.ediv_nonneg ha.1 hb.1
  have h4 := Int.mul_nonneg hb.1 h3
  show (a / b * b) / 4294967296 % 4294967296 = 0 ∧ ((a / b * b) % 4294967296 + a % b) % 4294967296 = a ∧ decide (a % b < b) = true
  rw [Int.mul_comm (a / b) b]
  generalize b * (a / b) = p at *
  refine ⟨by omega, by omega, by simp only [decide_eq_true_eq]; omega⟩
theorem Wd.back_s (a b : Int) (ha : 0 ≤ a ∧ a < 4294967296) (h : b ≠ 0) :
    (Wd.lo (Wd.quo a b true) b true + Wd.rst a b true) % 4294967296 = a := by
  rw [Wd.quo_s a b h, Wd.rst_s a b h]
  have h1 := Int.mul_tdiv_add_tmod (Wd.sg a) (Wd.sg b)
  have h2 := Wd.sg_mod a ha.1 ha.2
  show ((Wd.sg ((Wd.sg a).tdiv (Wd.sg b) % 4294967296) * Wd.sg b) % 4294967296 + (Wd.sg a).tmod (Wd.sg b) % 4294967296) % 4294967296 = a
  have h3 : Wd.sg ((Wd.sg a).tdiv (Wd.sg b) % 4294967296) % 4294967296 = (Wd.sg a).tdiv (Wd.sg b) % 4294967296 := by
    rw [Wd.sg_mod _ (by omega) (by omega)]
  have h4 : (Wd.sg ((Wd.sg a).tdiv (Wd.sg b) % 4294967296) * Wd.sg b) % 4294967296 = ((Wd.sg a).tdiv (Wd.sg b) * Wd.sg b) % 4294967296 := by
    rw [Int.mul_emod, h3, ← Int.mul_emod]
  rw [h4, Int.mul_comm]
  generalize Wd.sg b * (Wd.sg a).tdiv (Wd.sg b) = p at *
  omega
theorem Wd.back_shift (a k : Int) (ha : 0 ≤ a ∧ a < 4294967296) (hk : 0 ≤ k ∧ k < 32) :
    Wd.shift 62 (Wd.shift 60 a k) k = Wd.wide a (32 - k) false ∧ Wd.shift 126 (Wd.shift 60 a k) k = Wd.wide a (32 - k) true := by
  have h := Wd.wide_of a (32 - k) ha (by omega) (by omega)
  have e : (32 - (32 - k)).toNat = (k % 32).toNat := by omega
  rw [e] at h
  have h0 : 0 ≤ a * 2 ^ (k % 32).toNat % 4294967296 ∧ a * 2 ^ (k % 32).toNat % 4294967296 < 4294967296 := by omega
  rw [Wd.sg_wrap _ h0.1 h0.2] at h
  exact h

set_option maxHeartbeats 2000000 in
theorem back_any (a b n : Int) (w : World) (ha : 0 ≤ a ∧ a < 4294967296) (hb : 0 ≤ b ∧ b < 4294967296) (hn : 0 ≤ n ∧ n < 4294967296) :
    Calls Try.prog 7 #[.int .u32 a, .int .u32 b, .int .u32 n] w fun e w' => e = .returned (.bool true) ∧ ∃ n, w' = w.drewN n := by
  have hc : ((a + b) % 4294967296 != (b + a) % 4294967296) = false := by rw [Int.add_comm b a]; simp
  have hd : (((a + b) % 4294967296 - b) % 4294967296 != a) = false := by rw [bne_eq_false_iff_eq]; omega
  have hd' : ((a + b - b) % 4294967296 != a) = false := by rw [bne_eq_false_iff_eq]; omega
  obtain ⟨s1, s2⟩ := Wd.back_shift a (n % 32) ha (by omega)
  have r1 := Wd.quo_rng a b false ha hb
  have r2 := Wd.rst_rng a b false hb
  have r3 := Wd.quo_rng a b true ha hb
  have r4 := Wd.rst_rng a b true hb
  have r5 := Wd.lo_rng (Wd.quo a b false) b false
  have r6 := Wd.lo_rng (Wd.quo a b true) b true
  have r7 := Wd.shift_rng 60 a (n % 32) ha
  by_cases hz : b = 0
  · have z1 : (b == 0) = true := by simpa using hz
    have z2 : (b != 0) = false := by simpa using hz
    clear hz
    go_enter Try.func7, Try.ntmps7
    go_wp2_with fail
    refine (added_any _).mono ?_
    rintro e w' ⟨rfl, rfl⟩
    go_wp2_with fail
    refine (add_any _ _ _ ha hb).mono ?_
    rintro e w' ⟨rfl, rfl⟩
    go_wp2_with fail
    refine (add_any _ _ _ hb ha).mono ?_
    rintro e w' ⟨rfl, rfl⟩
    go_wp2_with fail
    refine (sub_any _ _ _ (by omega) hb).mono ?_
    rintro e w' ⟨rfl, rfl⟩
    go_wp2_with fail
    refine (div_any _ _ _ _ ha hb).mono ?_
    rintro e w' ⟨rfl, n1, rfl⟩
    go_wp2_with fail
    refine (div_any _ _ _ _ ha hb).mono ?_
    rintro e w' ⟨rfl, n2, rfl⟩
    go_wp2_with fail
    refine (shift_any _ _ _ _ ha (by omega)).mono ?_
    rintro e w' ⟨rfl, rfl⟩
    go_wp2_with fail
    refine (shift_any _ _ _ _ r7 (by omega)).mono ?_
    rintro e w' ⟨rfl, rfl⟩
    go_wp2_with fail
    refine (wide_any _ _ _ _ ha).mono ?_
    rintro e w' ⟨rfl, rfl⟩
    go_wp2_with fail
    refine (shift_any _ _ _ _ ha (by omega)).mono ?_
    rintro e w' ⟨rfl, rfl⟩
    go_wp2_with fail
    refine (shift_any _ _ _ _ r7 (by omega)).mono ?_
    rintro e w' ⟨rfl, rfl⟩
    go_wp2_with fail
    refine (wide_any _ _ _ _ ha).mono ?_
    rintro e w' ⟨rfl, rfl⟩
    go_wp2_with fail
    go_ret
    exact ⟨rfl, n1 + n2, rfl⟩
  · obtain ⟨u1, u2, u3⟩ := Wd.back_u a b ha hb hz
    have u4 := Wd.back_s a b ha hz
    have z1 : (b == 0) = false := by simpa using hz
    have z2 : (b != 0) = true := by simpa using hz
    clear hz
    go_enter Try.func7, Try.ntmps7
    go_wp2_with fail
    refine (added_any _).mono ?_
    rintro e w' ⟨rfl, rfl⟩
    go_wp2_with fail
    refine (add_any _ _ _ ha hb).mono ?_
    rintro e w' ⟨rfl, rfl⟩
    go_wp2_with fail
    refine (add_any _ _ _ hb ha).mono ?_
    rintro e w' ⟨rfl, rfl⟩
    go_wp2_with fail
    refine (sub_any _ _ _ (by omega) hb).mono ?_
    rintro e w' ⟨rfl, rfl⟩
    go_wp2_with fail
    refine (div_any _ _ _ _ ha hb).mono ?_
    rintro e w' ⟨rfl, n1, rfl⟩
    go_wp2_with fail
    refine (mul_any _ _ _ _ r1 hb).mono ?_
    rintro e w' ⟨rfl, rfl⟩
    go_wp2_with fail
    refine (add_any _ _ _ r5 r2).mono ?_
    rintro e w' ⟨rfl, rfl⟩
    go_wp2_with fail
    refine (less_any _ _ _ _ r2 hb).mono ?_
    rintro e w' ⟨rfl, rfl⟩
    go_wp2_with fail
    refine (div_any _ _ _ _ ha hb).mono ?_
    rintro e w' ⟨rfl, n2, rfl⟩
    go_wp2_with fail
    refine (mul_any _ _ _ _ r3 hb).mono ?_
    rintro e w' ⟨rfl, rfl⟩
    go_wp2_with fail
    refine (add_any _ _ _ r6 r4).mono ?_
    rintro e w' ⟨rfl, rfl⟩
    go_wp2_with fail
    refine (shift_any _ _ _ _ ha (by omega)).mono ?_
    rintro e w' ⟨rfl, rfl⟩
    go_wp2_with fail
    refine (shift_any _ _ _ _ r7 (by omega)).mono ?_
    rintro e w' ⟨rfl, rfl⟩
    go_wp2_with fail
    refine (wide_any _ _ _ _ ha).mono ?_
    rintro e w' ⟨rfl, rfl⟩
    go_wp2_with fail
    refine (shift_any _ _ _ _ ha (by omega)).mono ?_
    rintro e w' ⟨rfl, rfl⟩
    go_wp2_with fail
    refine (shift_any _ _ _ _ r7 (by omega)).mono ?_
    rintro e w' ⟨rfl, rfl⟩
    go_wp2_with fail
    refine (wide_any _ _ _ _ ha).mono ?_
    rintro e w' ⟨rfl, rfl⟩
    go_wp2_with fail
    go_ret
    exact ⟨rfl, n1 + n2, rfl⟩
end Go.Proofs.Ytmcfjdbpgnchnaa
