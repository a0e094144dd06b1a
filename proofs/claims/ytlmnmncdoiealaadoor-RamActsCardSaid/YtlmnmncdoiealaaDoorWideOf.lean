
/- The walks of the reference's Word and WideOf. -/
import Derived.Test.YtlmnmncdoiealaaDoorWide
namespace Go.Proofs.YtlmnmncdoiealaaDoor
open Go.RowKit
set_option linter.unusedVariables false

theorem ret_int {k : IntKind} {a b : Int} (h : a = b) : Ending.returned (.int k a) = .returned (.int k b) := by rw [h]

set_option maxHeartbeats 400000 in
theorem word_any (n : Int) (w : World) (hn : -9223372036854775808 ≤ n ∧ n ≤ 9223372036854775807) :
    Calls Tryd.prog 59 #[.int .i64 n] w fun e w' => e = .returned (.int .u32 (n % 4294967296)) ∧ w = w' := by
  have hm : Hid (0 ≤ n → n.tmod 4294967296 = n % 4294967296) := Lib.hid fun h => Int.tmod_eq_emod_of_nonneg h
  have hm' : Hid (n < 0 → n.tmod 4294967296 = -((-n) % 4294967296)) := Lib.hid fun h => by
    have := Int.tmod_eq_emod_of_nonneg (a := -n) (b := 4294967296) (by omega)
    rw [Int.neg_tmod] at this; omega
  go_enter Tryd.func59, Tryd.ntmps59
  go_wp2
  all_goals
    go_ret
    refine ⟨ret_int ?_, rfl⟩
    have hm := hm.out
    have hm' := hm'.out
    try unfold wrap64
    omega

set_option maxHeartbeats 400000 in
theorem wideOf_any (v n : Int) (s : Bool) (w : World) (hv : 0 ≤ v ∧ v < 4294967296) :
    Calls Tryd.prog 42 #[.int .u32 v, .int .i64 n, .bool s] w fun e w' => e = .returned (.int .u32 (Wd.wide v n s)) ∧ w = w' := by
  by_cases h1 : n < 1
  · go_enter Tryd.func42, Tryd.ntmps42
    go_wp2
    go_ret
    exact ⟨ret_i (by rw [Wd.wide, if_pos (by omega)]), rfl⟩
  · by_cases h2 : 32 < n
    · go_enter Tryd.func42, Tryd.ntmps42
      go_wp2
      go_ret
      exact ⟨ret_i (by rw [Wd.wide, if_pos (by omega)]), rfl⟩
    · obtain ⟨m, hm⟩ : ∃ m : Nat, n = m := ⟨n.toNat, by omega⟩
      subst hm
      have hw : Wd.wide v m s = if s = true ∧ (2 : Int) ^ m ≤ 2 * (v % 2 ^ m) then (v % 2 ^ m - 2 ^ m) % 4294967296 else v % 2 ^ m := by
        rw [Wd.wide, if_neg (by omega), Int.toNat_natCast]
      have HW := Lib.hid hw
      clear hw
      have hd1 : decide ((m : Int) < 1) = false := by simpa using h1
      go_enter Tryd.func42, Tryd.ntmps42
      go_wp2
      go_loop [7, 8] (fun s7 s8 => ∃ j : Nat, j ≤ m ∧ s7 = .int .i64 (2 ^ j) ∧ s8 = .int .i64 j) (fun _ i => m - (intOf i).toNat)
      case atStart => exact ⟨0, Nat.zero_le _, rfl, rfl⟩
      case round =>
        obtain ⟨j, hj, rfl, rfl⟩ := hrel
        have hp := Wd.p2 j (by omega)
        have hp1 := hp.1
        have hp2 := hp.2.1
        clear hp
        by_cases hlt : j < m
        · have HP : Hid ((2 : Int) ^ (j + 1) = 2 * 2 ^ j) := Lib.hid (by rw [Int.pow_succ, Int.mul_comm])
          go_wp2
          go_round
          case rel => exact ⟨j + 1, by omega, by rw [HP.out], by go_num⟩
          case measure => simp [intOf]; omega
        · have hjm : j = m := by omega
          subst hjm
          generalize (2 : Int) ^ j = q at *
          have hr : 0 ≤ v % q ∧ v % q < q := ⟨Int.emod_nonneg _ (by omega), Int.emod_lt_of_pos _ (by omega)⟩
          have hr' : v % q ≤ v := by
            have := Int.emod_add_mul_ediv v q
            have h0 : 0 ≤ v / q := Int.ediv_nonneg hv.1 (by omega)
            have := Int.mul_nonneg (show 0 ≤ q by omega) h0
            omega
          by_cases hs : s = true
          · subst hs
            by_cases hc : q ≤ 2 * (v % q)
            · go_wp2_with (go_at_call 59; refine (word_any _ _ (by omega)).mono ?_; rintro e w' ⟨rfl, rfl⟩)
              go_ret
              exact ⟨ret_i (by rw [HW.out, if_pos ⟨by trivial, by omega⟩]), rfl⟩
            · go_wp2_with (go_at_call 59; refine (word_any _ _ (by omega)).mono ?_; rintro e w' ⟨rfl, rfl⟩)
              go_ret
              exact ⟨ret_i (by rw [HW.out, if_neg (fun h => by have := h.2; omega)]; omega), rfl⟩
          · have hs : s = false := by simpa using hs
            subst hs
            go_wp2_with (go_at_call 59; refine (word_any _ _ (by omega)).mono ?_; rintro e w' ⟨rfl, rfl⟩)
            go_ret
            exact ⟨ret_i (by rw [HW.out, if_neg (by simp)]; omega), rfl⟩
end Go.Proofs.YtlmnmncdoiealaaDoor
