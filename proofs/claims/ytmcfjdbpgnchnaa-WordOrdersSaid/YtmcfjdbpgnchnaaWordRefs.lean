/- The walks of the references' quotients, shifts and parts of words: what each call gives, said of integers. -/
import Derived.Test.YtmcfjdbpgnchnaaWordMore
namespace Go.Proofs.Ytmcfjdbpgnchnaa
open Go.RowKit

theorem quiet_same {P : Program} {f : FuncId} {args : Array Value} {w : World} {n : Nat} {v : Value}
    (h : Calls P f args (w.drewN n) fun e w' => e = .returned v ∧ w.drewN n = w') : Calls P f args (w.drewN n) fun e w'' => e = .returned v ∧ ∃ m, w'' = w.drewN m :=
  h.mono fun _ _ ⟨he, hm⟩ => ⟨he, n, hm.symm⟩
theorem i64_rng (x : Int) : -9223372036854775808 ≤ IntKind.i64.wrap x ∧ IntKind.i64.wrap x ≤ 9223372036854775807 := by
  rw [IntKind.wrap_i64]; omega
theorem sg_tmod (x y : Int) (hx : -2147483648 ≤ x ∧ x ≤ 2147483647) : -2147483648 ≤ x.tmod y ∧ x.tmod y ≤ 2147483647 := by
  have h1 : (x.tmod y).natAbs ≤ x.natAbs := by rw [Int.natAbs_tmod]; exact Nat.mod_le _ _
  have h2 : 0 ≤ x → 0 ≤ x.tmod y := fun h => Int.tmod_nonneg y h
  have h3 : 0 ≤ -x → 0 ≤ (-x).tmod y := fun h => Int.tmod_nonneg y h
  rw [Int.neg_tmod] at h3
  omega
theorem sg_tdiv (x y : Int) (hx : -2147483648 ≤ x ∧ x ≤ 2147483647) : -2147483648 ≤ x.tdiv y ∧ x.tdiv y ≤ 2147483648 := by
  have h1 : (x.tdiv y).natAbs ≤ x.natAbs := by rw [Int.natAbs_tdiv]; exact Nat.div_le_self _ _
  omega

set_option maxHeartbeats 400000 in
theorem divOf_any (a b : Int) (s : Bool) (w : World) (ha : 0 ≤ a ∧ a < 4294967296) (hb : 0 ≤ b ∧ b < 4294967296) :
    Calls Try.prog 20 #[.int .u32 a, .int .u32 b, .bool s] w fun e w' => e = .returned (.tuple #[.int .u32 (Wd.quo a b s), .int .u32 (Wd.rst a b s), .bool (b != 0)]) ∧ ∃ n, w' = w.drewN n := by
  by_cases hz : b = 0
  · subst hz
    go_enter Try.func20, Try.ntmps20
    go_wp2
    go_ret3
    exact ⟨ret_iib (Wd.quo_0 a s).symm (Wd.rst_0 a s).symm rfl, 0, rfl⟩
  · have hz0 : (b == 0) = false := by simpa using hz
    have hz2 : (b != 0) = true := by simpa using hz
    have HZ := Lib.hid hz2
    clear hz2
    cases s
    · have hq : 0 ≤ a / b ∧ a / b ≤ a := IntWalk.tdiv_le a b ha.1 (by omega)
      have hr : 0 ≤ a % b ∧ a % b < b := ⟨Int.emod_nonneg _ hz, Int.emod_lt_of_pos _ (by omega)⟩
      go_enter Try.func20, Try.ntmps20
      go_wp2_with fail
      go_quiet ((go_at_call 13; refine quiet_same (word_any _ _ ?_); first | omega | exact i64_rng _))
      go_wp2
      go_ret3
      refine ⟨ret_iib ?_ ?_ HZ.out.symm, _, rfl⟩
      · rw [Wd.quo_u a b hz]; first | omega | (rw [IntWalk.i64_quo _ _ (by omega)]; omega)
      · rw [Wd.rst_u a b hz]; first | omega | (rw [IntWalk.rem_in _ _ (by omega)]; omega)
    · have hb0 : ¬ (Wd.sg b = 0) := by unfold Wd.sg; split <;> omega
      have E := Lib.hid (sg_tdiv (Wd.sg a) (Wd.sg b) (Wd.sg_bd a ha.1 ha.2))
      have F := Lib.hid (sg_tmod (Wd.sg a) (Wd.sg b) (Wd.sg_bd a ha.1 ha.2))
      go_enter Try.func20, Try.ntmps20
      go_wp2_with fail
      refine (signed_any _ _ ha).mono ?_
      rintro e w' ⟨rfl, rfl⟩
      go_wp2_with fail
      refine (signed_any _ _ hb).mono ?_
      rintro e w' ⟨rfl, rfl⟩
      go_wp2_with fail
      refine (word_any _ _ (by unfold wrap64; omega)).mono ?_
      rintro e w' ⟨rfl, rfl⟩
      go_wp2_with fail
      refine (signed_any _ _ ha).mono ?_
      rintro e w' ⟨rfl, rfl⟩
      go_wp2_with fail
      refine (signed_any _ _ hb).mono ?_
      rintro e w' ⟨rfl, rfl⟩
      go_wp2_with fail
      refine (word_any _ _ (by have F' := F.out; omega)).mono ?_
      rintro e w' ⟨rfl, rfl⟩
      go_wp2_with fail
      go_ret3
      have E' := E.out
      refine ⟨ret_iib ?_ ?_ HZ.out.symm, 0, rfl⟩
      · rw [Wd.quo_s a b hz, IntWalk.wrap64_in _ (by omega)]
      · rw [Wd.rst_s a b hz]

set_option maxHeartbeats 400000 in
theorem shiftOf_any (k a n : Int) (w : World) (ha : 0 ≤ a ∧ a < 4294967296) (hn : 0 ≤ n ∧ n < 4294967296) :
    Calls Try.prog 22 #[.int .u8 k, .int .u32 a, .int .u32 n] w fun e w' => e = .returned (.int .u32 (Wd.shift k a n)) ∧ w = w' := by
  obtain ⟨m, q, r, hm, hm32, hq, hq', q1, q2, r1, hqr, hr⟩ := Wd.pw n
  have HQ := Lib.hid hq
  have Hm := Lib.hid hm
  have Hq := Lib.hid hq'
  have Hqr := Lib.hid hqr
  have Hr := Lib.hid hr
  clear hq hq' hqr hr
  go_enter Try.func22, Try.ntmps22
  go_wp2
  go_loop [7, 8] (fun s7 s8 => ∃ j : Nat, j ≤ m ∧ s7 = .int .i64 (2 ^ j) ∧ s8 = .int .u32 j) (fun _ i => m - (intOf i).toNat)
  case atStart => exact ⟨0, Nat.zero_le _, rfl, rfl⟩
  case round =>
    obtain ⟨j, hj, rfl, rfl⟩ := hrel
    have hp := Wd.p2' j (by omega)
    by_cases hlt : j < m
    · have HP : Hid ((2 : Int) ^ (j + 1) = 2 * 2 ^ j) := Lib.hid (by rw [Int.pow_succ, Int.mul_comm])
      go_wp2
      go_round
      case rel => exact ⟨j + 1, by omega, by rw [HP.out], by go_num⟩
      case measure => simp [intOf]; omega
    · have hjm : j = m := by omega
      have HJ : Hid ((2 : Int) ^ j = q) := Lib.hid (by rw [hjm]; exact Hq.out)
      rw [HJ.out] at *
      have hbd := Wd.rem_bd a q r q1 Hqr.out
      have hs := Wd.shl_of a q r q1 Hqr.out
      have HS := Lib.hid hs
      clear hs
      have R : Hid (4294967296 / q = r) := Hr
      have hd : 0 ≤ a / q ∧ a / q ≤ a := IntWalk.tdiv_le a q ha.1 q1
      have hrr : 4294967296 / q = r := Hr.out
      clear hp
      by_cases k1 : k = 60
      · subst k1
        go_wp2_with (first | (go_at_call 13; refine (word_any _ _ (by omega)).mono ?_; rintro e w' ⟨rfl, rfl⟩) | (go_at_call 12; refine (signed_any _ _ ha).mono ?_; rintro e w' ⟨rfl, rfl⟩))
        go_ret
        refine ⟨ret_i ?_, rfl⟩
        rw [Wd.shift_60 a n q HQ.out, HS.out]
        omega
      · by_cases k2 : k = 62
        · subst k2
          go_wp2_with (first | (go_at_call 13; refine (word_any _ _ (by omega)).mono ?_; rintro e w' ⟨rfl, rfl⟩) | (go_at_call 12; refine (signed_any _ _ ha).mono ?_; rintro e w' ⟨rfl, rfl⟩))
          go_ret
          refine ⟨ret_i ?_, rfl⟩
          rw [Wd.shift_62 a n q HQ.out]
          omega
        · by_cases k3 : k = 126
          · subst k3
            have hsg := Wd.sg_bd a ha.1 ha.2
            have FQ := Lib.hid (Wd.floor_q (Wd.sg a) q q1)
            have SQ := Lib.hid (Wd.shift_126 a n q HQ.out)
            have hbt := sg_tdiv (Wd.sg a) q hsg
            go_wp2_with (first | (go_at_call 13; refine (word_any _ _ (by omega)).mono ?_; rintro e w' ⟨rfl, rfl⟩) | (go_at_call 12; refine (signed_any _ _ ha).mono ?_; rintro e w' ⟨rfl, rfl⟩))
            all_goals
              go_ret
              refine ⟨ret_i ?_, rfl⟩
              simp only [bne_iff_ne, ne_eq, bne_eq_false_iff_eq] at *
              rw [SQ.out, FQ.out]
            · rw [if_pos ⟨by assumption, by assumption⟩]
            · rw [if_neg (fun h => h.2 (by assumption))]
            · rw [if_neg (by omega)]
          · have k1' : (k == 60) = false := by simpa using k1
            have k2' : (k == 62) = false := by simpa using k2
            have k3' : (k == 126) = false := by simpa using k3
            go_wp2_with fail
            go_ret
            exact ⟨ret_i (Wd.shift_no k a n k1 k2 k3).symm, rfl⟩

set_option maxHeartbeats 400000 in
theorem wideOf_any (v n : Int) (s : Bool) (w : World) (hv : 0 ≤ v ∧ v < 4294967296) :
    Calls Try.prog 23 #[.int .u32 v, .int .i64 n, .bool s] w fun e w' => e = .returned (.int .u32 (Wd.wide v n s)) ∧ w = w' := by
  by_cases h1 : n < 1
  · go_enter Try.func23, Try.ntmps23
    go_wp2
    go_ret
    exact ⟨ret_i (by rw [Wd.wide, if_pos (by omega)]), rfl⟩
  · by_cases h2 : 32 < n
    · go_enter Try.func23, Try.ntmps23
      go_wp2
      go_ret
      exact ⟨ret_i (by rw [Wd.wide, if_pos (by omega)]), rfl⟩
    · obtain ⟨m, hm⟩ : ∃ m : Nat, n = m := ⟨n.toNat, by omega⟩
      subst hm
      have hw : Wd.wide v m s = if s = true ∧ (2 : Int) ^ m ≤ 2 * (v % 2 ^ m) then (v % 2 ^ m - 2 ^ m) % 4294967296 else v % 2 ^ m := by
        rw [Wd.wide, if_neg (by omega), Int.toNat_natCast]
      have HW := Lib.hid hw
      clear hw
      have hd1 : decide ((m : Int) < 1) = false := by simpa using h1
      go_enter Try.func23, Try.ntmps23
      go_wp2
      go_loop [7, 8] (fun s7 s8 => ∃ j : Nat, j ≤ m ∧ s7 = .int .i64 (2 ^ j) ∧ s8 = .int .i64 j) (fun _ i => m - (intOf i).toNat)
      case atStart => exact ⟨0, Nat.zero_le _, rfl, rfl⟩
      case round =>
        obtain ⟨j, hj, rfl, rfl⟩ := hrel
        have hp := Wd.p2 j (by omega)
        have hp1 := hp.1
        have hp2 := hp.2.1
        clear hp
        by_cases hlt : j < m
        · have HP : Hid ((2 : Int) ^ (j + 1) = 2 * 2 ^ j) := Lib.hid (by rw [Int.pow_succ, Int.mul_comm])
          go_wp2
          go_round
          case rel => exact ⟨j + 1, by omega, by rw [HP.out], by go_num⟩
          case measure => simp [intOf]; omega
        · have hjm : j = m := by omega
          subst hjm
          generalize (2 : Int) ^ j = q at *
          have hr : 0 ≤ v % q ∧ v % q < q := ⟨Int.emod_nonneg _ (by omega), Int.emod_lt_of_pos _ (by omega)⟩
          have hr' : v % q ≤ v := by
            have := Int.emod_add_mul_ediv v q
            have h0 : 0 ≤ v / q := Int.ediv_nonneg hv.1 (by omega)
            have := Int.mul_nonneg (show 0 ≤ q by omega) h0
            omega
          by_cases hs : s = true
          · subst hs
            by_cases hc : q ≤ 2 * (v % q)
            · go_wp2_with (go_at_call 13; refine (word_any _ _ (by omega)).mono ?_; rintro e w' ⟨rfl, rfl⟩)
              go_ret
              exact ⟨ret_i (by rw [HW.out, if_pos ⟨by trivial, by omega⟩]), rfl⟩
            · go_wp2_with (go_at_call 13; refine (word_any _ _ (by omega)).mono ?_; rintro e w' ⟨rfl, rfl⟩)
              go_ret
              exact ⟨ret_i (by rw [HW.out, if_neg (fun h => by have := h.2; omega)]; omega), rfl⟩
          · have hs : s = false := by simpa using hs
            subst hs
            go_wp2_with (go_at_call 13; refine (word_any _ _ (by omega)).mono ?_; rintro e w' ⟨rfl, rfl⟩)
            go_ret
            exact ⟨ret_i (by rw [HW.out, if_neg (by simp)]; omega), rfl⟩
end Go.Proofs.Ytmcfjdbpgnchnaa
