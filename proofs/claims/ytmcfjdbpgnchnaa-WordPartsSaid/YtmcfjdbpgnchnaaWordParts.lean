/- The walks of the laws WordParts and WordWides. -/
import Derived.Test.YtmcfjdbpgnchnaaWordSums
namespace Go.Proofs.Ytmcfjdbpgnchnaa
open Go.RowKit

set_option maxHeartbeats 1000000 in
theorem parts_any (a b k n : Int) (s : Bool) (w : World) (ha : 0 ≤ a ∧ a < 4294967296) (hb : 0 ≤ b ∧ b < 4294967296) :
    Calls Try.prog 6 #[.int .u32 a, .int .u32 b, .int .u8 k, .int .i64 n, .bool s] w fun e w' => e = .returned (.bool true) ∧ ∃ n, w' = w.drewN n := by
  go_enter Try.func6, Try.ntmps6
  go_wp2_with fail
  refine (added_any _).mono ?_
  rintro e w' ⟨rfl, rfl⟩
  go_wp2_with fail
  refine (div_any _ _ _ _ ha hb).mono ?_
  rintro e w' ⟨rfl, n1, rfl⟩
  go_wp2_with fail
  refine (divOf_any _ _ _ _ ha hb).mono ?_
  rintro e w' ⟨rfl, n2, rfl⟩
  go_wp2_with fail
  refine (less_any _ _ _ _ ha hb).mono ?_
  rintro e w' ⟨rfl, rfl⟩
  go_wp2_with fail
  refine (lessOf_any _ _ _ _ ha hb).mono ?_
  rintro e w' ⟨rfl, rfl⟩
  go_wp2_with fail
  refine (shift_any _ _ _ _ ha hb).mono ?_
  rintro e w' ⟨rfl, rfl⟩
  go_wp2_with fail
  refine (shiftOf_any _ _ _ _ ha hb).mono ?_
  rintro e w' ⟨rfl, rfl⟩
  go_wp2_with fail
  refine (wide_any _ _ _ _ ha).mono ?_
  rintro e w' ⟨rfl, rfl⟩
  go_wp2_with fail
  refine (wideOf_any _ _ _ _ ha).mono ?_
  rintro e w' ⟨rfl, rfl⟩
  go_wp2_with fail
  go_ret
  exact ⟨rfl, n1 + n2, rfl⟩

/-- the laws of parts, of integers -/
theorem Wd.wide_u (v n : Int) (h1 : 1 ≤ n) (h2 : n ≤ 32) : Wd.wide v n false = v % 2 ^ n.toNat := by
  rw [Wd.wide, if_neg (by omega), if_neg (by simp)]
theorem Wd.wide_s (v n : Int) (h1 : 1 ≤ n) (h2 : n ≤ 32) : Wd.wide v n true = if 2 ^ n.toNat ≤ 2 * (v % 2 ^ n.toNat) then (v % 2 ^ n.toNat - 2 ^ n.toNat) % 4294967296 else v % 2 ^ n.toNat := by
  rw [Wd.wide, if_neg (by omega)]
  by_cases h : (2 : Int) ^ n.toNat ≤ 2 * (v % 2 ^ n.toNat)
  · rw [if_pos ⟨rfl, h⟩, if_pos h]
  · rw [if_neg (fun x => h x.2), if_neg h]
theorem Wd.wide_rng (v n : Int) (s : Bool) (hv : 0 ≤ v ∧ v < 4294967296) : 0 ≤ Wd.wide v n s ∧ Wd.wide v n s < 4294967296 := by
  by_cases h : n < 1 ∨ 32 < n
  · rw [Wd.wide, if_pos h]; exact hv
  · have hp := Wd.p2 n.toNat (by omega)
    have hm : 0 ≤ v % 2 ^ n.toNat ∧ v % 2 ^ n.toNat < 2 ^ n.toNat := ⟨Int.emod_nonneg _ (by omega), Int.emod_lt_of_pos _ (by omega)⟩
    cases s
    · rw [Wd.wide_u v n (by omega) (by omega)]; omega
    · rw [Wd.wide_s v n (by omega) (by omega)]; split <;> omega
theorem Wd.shift_rng (k a n : Int) (ha : 0 ≤ a ∧ a < 4294967296) : 0 ≤ Wd.shift k a n ∧ Wd.shift k a n < 4294967296 := by
  obtain ⟨m, q, r, hm, hm32, hq, hq', q1, q2, r1, hqr, hr⟩ := Wd.pw n
  have hd : 0 ≤ a / q ∧ a / q ≤ a := IntWalk.tdiv_le a q ha.1 q1
  by_cases h1 : k = 60
  · rw [h1, Wd.shift_60 a n q hq]; omega
  · by_cases h2 : k = 62
    · rw [h2, Wd.shift_62 a n q hq]; omega
    · by_cases h3 : k = 126
      · rw [h3, Wd.shift_126 a n q hq]; omega
      · rw [Wd.shift_no k a n h1 h2 h3]; exact ha

/-- a word is its two parts; a part is wide as it is -/
theorem Wd.wides (a n : Int) (ha : 0 ≤ a ∧ a < 4294967296) (h1 : 1 ≤ n) (h2 : n ≤ 31) :
    (Wd.wide a n false + Wd.shift 60 (Wd.shift 62 a n) n) % 4294967296 = a ∧ Wd.wide (Wd.wide a n false) n false = Wd.wide a n false ∧
    Wd.wide (Wd.wide a n true) n false = Wd.wide a n false ∧ Wd.wide (Wd.wide a n true) n true = Wd.wide a n true := by
  have hn : n % 32 = n := by omega
  obtain ⟨m, hm⟩ : ∃ m : Nat, n = m := ⟨n.toNat, by omega⟩
  subst hm
  have hp := Wd.p2 m (by omega)
  have h32 : ((m : Int) % 32).toNat = m := by omega
  rw [Wd.shift_60 _ m _ (by rw [h32]), Wd.shift_62 _ m _ (by rw [h32])]
  rw [Wd.wide_u _ _ h1 (by omega), Wd.wide_u _ _ h1 (by omega), Wd.wide_u _ _ h1 (by omega), Wd.wide_s _ _ h1 (by omega), Wd.wide_s _ _ h1 (by omega), Int.toNat_natCast]
  obtain ⟨q1, q2, hqr, hr⟩ := hp
  have hx : ∀ x y : Int, (x + y * 2 ^ m) % 2 ^ m = x % 2 ^ m := fun x y => by rw [Int.add_mul_emod_self_right]
  generalize (2 : Int) ^ m = q at *
  generalize (2 : Int) ^ (32 - m) = r at *
  have e := Int.emod_add_mul_ediv a q
  have hb : 0 ≤ a % q ∧ a % q < q := ⟨Int.emod_nonneg _ (by omega), Int.emod_lt_of_pos _ (by omega)⟩
  have hmm : ∀ x, (x % 4294967296) % q = x % q := fun x => by rw [← hqr, Int.emod_emod_of_dvd _ (Int.dvd_mul_right q r)]
  have hmq : (a % q) % q = a % q := Int.emod_eq_of_lt hb.1 hb.2
  have hs : (a % q - q) % q = a % q := by rw [show a % q - q = a % q + (-1) * q by omega, hx, hmq]
  refine ⟨?_, hmq, ?_, ?_⟩
  · rw [Int.mul_comm] at e; omega
  · by_cases h : q ≤ 2 * (a % q)
    · rw [if_pos h, hmm, hs]
    · rw [if_neg h, hmq]
  · by_cases h : q ≤ 2 * (a % q)
    · rw [if_pos h, hmm, hs, if_pos h]
    · rw [if_neg h, hmq, if_neg h]

set_option maxHeartbeats 1000000 in
theorem wides_any (a n : Int) (w : World) (ha : 0 ≤ a ∧ a < 4294967296) :
    Calls Try.prog 5 #[.int .u32 a, .int .i64 n] w fun e w' => e = .returned (.bool true) ∧ w = w' := by
  by_cases h1 : n < 1
  · go_enter Try.func5, Try.ntmps5
    go_wp2_with fail
    refine (added_any _).mono ?_
    rintro e w' ⟨rfl, rfl⟩
    go_wp2_with fail
    go_ret
    exact ⟨rfl, rfl⟩
  · by_cases h2 : 31 < n
    · go_enter Try.func5, Try.ntmps5
      go_wp2_with fail
      refine (added_any _).mono ?_
      rintro e w' ⟨rfl, rfl⟩
      go_wp2_with fail
      go_ret
      exact ⟨rfl, rfl⟩
    · obtain ⟨f1, f2, f3, f4⟩ := Wd.wides a n ha (by omega) (by omega)
      have r1 := Wd.wide_rng a n false ha
      have r2 := Wd.wide_rng a n true ha
      have r3 := Wd.shift_rng 62 a n ha
      have r4 := Wd.shift_rng 60 _ n r3
      go_enter Try.func5, Try.ntmps5
      go_wp2_with fail
      refine (added_any _).mono ?_
      rintro e w' ⟨rfl, rfl⟩
      go_wp2_with fail
      refine (wide_any _ _ _ _ ha).mono ?_
      rintro e w' ⟨rfl, rfl⟩
      go_wp2_with fail
      refine (shift_any _ _ _ _ ha (by omega)).mono ?_
      rintro e w' ⟨rfl, rfl⟩
      go_wp2_with fail
      refine (shift_any _ _ _ _ r3 (by omega)).mono ?_
      rintro e w' ⟨rfl, rfl⟩
      go_wp2_with fail
      refine (add_any _ _ _ r1 r4).mono ?_
      rintro e w' ⟨rfl, rfl⟩
      go_wp2_with fail
      refine (wide_any _ _ _ _ r1).mono ?_
      rintro e w' ⟨rfl, rfl⟩
      go_wp2_with fail
      refine (wide_any _ _ _ _ ha).mono ?_
      rintro e w' ⟨rfl, rfl⟩
      go_wp2_with fail
      refine (wide_any _ _ _ _ r2).mono ?_
      rintro e w' ⟨rfl, rfl⟩
      go_wp2_with fail
      refine (wide_any _ _ _ _ r2).mono ?_
      rintro e w' ⟨rfl, rfl⟩
      go_wp2_with fail
      go_ret
      exact ⟨rfl, rfl⟩
end Go.Proofs.Ytmcfjdbpgnchnaa
