
/- The walks of the reference's Signed, ShiftOf and Part. -/
import Derived.Test.YtlmnmncdoiealaaDoorWideOf
namespace Go.Proofs.YtlmnmncdoiealaaDoor
open Go.RowKit
set_option linter.unusedVariables false

set_option maxHeartbeats 400000 in
theorem signed_any (a : Int) (w : World) (ha : 0 ≤ a ∧ a < 4294967296) :
    Calls Tryd.prog 92 #[.int .u32 a] w fun e w' => e = .returned (.int .i64 (Wd.sg a)) ∧ w = w' := by
  by_cases h : a < 2147483648
  all_goals
    have h1 : Hid (Wd.sg a = if a < 2147483648 then a else a - 4294967296) := Lib.hid rfl
    go_enter Tryd.func92, Tryd.ntmps92
    go_wp2
    go_ret
  · exact ⟨ret_int (by rw [h1.out, if_pos h]), rfl⟩
  · exact ⟨ret_int (by rw [h1.out, if_neg (by omega)]), rfl⟩
theorem sg_tdiv (x y : Int) (hx : -2147483648 ≤ x ∧ x ≤ 2147483647) : -2147483648 ≤ x.tdiv y ∧ x.tdiv y ≤ 2147483648 := by
  have h1 : (x.tdiv y).natAbs ≤ x.natAbs := by rw [Int.natAbs_tdiv]; exact Nat.div_le_self _ _
  omega
set_option maxHeartbeats 400000 in
theorem shiftOf_any (k a n : Int) (w : World) (ha : 0 ≤ a ∧ a < 4294967296) (hn : 0 ≤ n ∧ n < 4294967296) :
    Calls Tryd.prog 62 #[.int .u8 k, .int .u32 a, .int .u32 n] w fun e w' => e = .returned (.int .u32 (Wd.shift k a n)) ∧ w = w' := by
  obtain ⟨m, q, r, hm, hm32, hq, hq', q1, q2, r1, hqr, hr⟩ := Wd.pw n
  have HQ := Lib.hid hq
  have Hm := Lib.hid hm
  have Hq := Lib.hid hq'
  have Hqr := Lib.hid hqr
  have Hr := Lib.hid hr
  clear hq hq' hqr hr
  go_enter Tryd.func62, Tryd.ntmps62
  go_wp2
  go_loop [7, 8] (fun s7 s8 => ∃ j : Nat, j ≤ m ∧ s7 = .int .i64 (2 ^ j) ∧ s8 = .int .u32 j) (fun _ i => m - (intOf i).toNat)
  case atStart => exact ⟨0, Nat.zero_le _, rfl, rfl⟩
  case round =>
    obtain ⟨j, hj, rfl, rfl⟩ := hrel
    have hp := Wd.p2' j (by omega)
    by_cases hlt : j < m
    · have HP : Hid ((2 : Int) ^ (j + 1) = 2 * 2 ^ j) := Lib.hid (by rw [Int.pow_succ, Int.mul_comm])
      go_wp2
      go_round
      case rel => exact ⟨j + 1, by omega, by rw [HP.out], by go_num⟩
      case measure => simp [intOf]; omega
    · have hjm : j = m := by omega
      have HJ : Hid ((2 : Int) ^ j = q) := Lib.hid (by rw [hjm]; exact Hq.out)
      rw [HJ.out] at *
      have hbd := Wd.rem_bd a q r q1 Hqr.out
      have hs := Wd.shl_of a q r q1 Hqr.out
      have HS := Lib.hid hs
      clear hs
      have R : Hid (4294967296 / q = r) := Hr
      have hd : 0 ≤ a / q ∧ a / q ≤ a := IntWalk.tdiv_le a q ha.1 q1
      have hrr : 4294967296 / q = r := Hr.out
      clear hp
      by_cases k1 : k = 60
      · subst k1
        go_wp2_with (first | (go_at_call 59; refine (word_any _ _ (by omega)).mono ?_; rintro e w' ⟨rfl, rfl⟩) | (go_at_call 92; refine (signed_any _ _ ha).mono ?_; rintro e w' ⟨rfl, rfl⟩))
        go_ret
        refine ⟨ret_i ?_, rfl⟩
        rw [Wd.shift_60 a n q HQ.out, HS.out]
        omega
      · by_cases k2 : k = 62
        · subst k2
          go_wp2_with (first | (go_at_call 59; refine (word_any _ _ (by omega)).mono ?_; rintro e w' ⟨rfl, rfl⟩) | (go_at_call 92; refine (signed_any _ _ ha).mono ?_; rintro e w' ⟨rfl, rfl⟩))
          go_ret
          refine ⟨ret_i ?_, rfl⟩
          rw [Wd.shift_62 a n q HQ.out]
          omega
        · by_cases k3 : k = 126
          · subst k3
            have hsg := Wd.sg_bd a ha.1 ha.2
            have FQ := Lib.hid (Wd.floor_q (Wd.sg a) q q1)
            have SQ := Lib.hid (Wd.shift_126 a n q HQ.out)
            have hbt := sg_tdiv (Wd.sg a) q hsg
            go_wp2_with (first | (go_at_call 59; refine (word_any _ _ (by omega)).mono ?_; rintro e w' ⟨rfl, rfl⟩) | (go_at_call 92; refine (signed_any _ _ ha).mono ?_; rintro e w' ⟨rfl, rfl⟩))
            all_goals
              go_ret
              refine ⟨ret_i ?_, rfl⟩
              simp only [bne_iff_ne, ne_eq, bne_eq_false_iff_eq] at *
              rw [SQ.out, FQ.out]
            · rw [if_pos ⟨by assumption, by assumption⟩]
            · rw [if_neg (fun h => h.2 (by assumption))]
            · rw [if_neg (by omega)]
          · have k1' : (k == 60) = false := by simpa using k1
            have k2' : (k == 62) = false := by simpa using k2
            have k3' : (k == 126) = false := by simpa using k3
            go_wp2_with fail
            go_ret
            exact ⟨ret_i (Wd.shift_no k a n k1 k2 k3).symm, rfl⟩

/-- a power that a part is by -/
theorem pw31 : ∀ k : Nat, k < 32 → 1 ≤ (2 : Int) ^ k ∧ (2 : Int) ^ k < 4294967296 := by decide +kernel
theorem shift_up (u : Int) (a : Int) (h : 0 ≤ u ∧ u < 32) : Wd.shift 62 a u = a / 2 ^ u.toNat ∧ Wd.shift 60 1 u = 2 ^ u.toNat := by
  have h1 : u % 32 = u := by omega
  have h2 := pw31 u.toNat (by omega)
  constructor
  · rw [Wd.shift_62 a u _ rfl, h1]
  · rw [Wd.shift_60 1 u _ rfl, h1, Int.one_mul]
    omega
set_option maxHeartbeats 400000 in
theorem part_any (v u b : Int) (w : World) (hv : 0 ≤ v ∧ v < 4294967296) (hu : 0 ≤ u ∧ u < 32) (hb : 0 ≤ b ∧ b < 32) :
    Calls Tryd.prog 45 #[.int .u32 v, .int .i64 u, .int .i64 b] w fun e w' => e = .returned (.int .i64 (v / 2 ^ u.toNat % 2 ^ b.toNat)) ∧ w = w' := by
  have h1 := (shift_up u v hu).1
  have h2 := (shift_up b v hb).2
  have h3 := pw31 b.toNat (by omega)
  have h4 := pw31 u.toNat (by omega)
  have h5 : 0 ≤ v / 2 ^ u.toNat ∧ v / 2 ^ u.toNat ≤ v := IntWalk.tdiv_le v _ hv.1 h4.1
  generalize (2 : Int) ^ u.toNat = p at *
  generalize (2 : Int) ^ b.toNat = q at *
  generalize v / p = x at *
  have H1 := Lib.hid h1
  have H2 := Lib.hid h2
  clear h1 h2
  go_enter Tryd.func45, Tryd.ntmps45
  go_wp2_with fail
  refine (shiftOf_any 62 v u _ hv (by omega)).mono ?_
  rintro e w' ⟨rfl, rfl⟩
  rw [H1.out]
  go_wp2_with fail
  refine (shiftOf_any 60 1 b _ (by omega) (by omega)).mono ?_
  rintro e w' ⟨rfl, rfl⟩
  rw [H2.out]
  go_wp2_with fail
  go_ret
  exact ⟨rfl, rfl⟩
end Go.Proofs.YtlmnmncdoiealaaDoor
