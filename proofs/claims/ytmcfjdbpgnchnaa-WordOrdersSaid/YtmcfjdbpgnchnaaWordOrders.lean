/- The walk of the law WordOrders. -/
import Derived.Test.YtmcfjdbpgnchnaaWordSums
namespace Go.Proofs.Ytmcfjdbpgnchnaa
open Go.RowKit

theorem Wd.ord (a b c : Int) (s : Bool) (ha : 0 ≤ a ∧ a < 4294967296) (hb : 0 ≤ b ∧ b < 4294967296) :
    ((Wd.less a b s = true ∧ Wd.less b a s = false ∧ (a == b) = false) ∨ (Wd.less a b s = false ∧ Wd.less b a s = true ∧ (a == b) = false) ∨ (Wd.less a b s = false ∧ Wd.less b a s = false ∧ (a == b) = true)) ∧
    Wd.less a a s = false ∧ (Wd.less a b s = true → Wd.less b c s = true → Wd.less a c s = true) := by
  cases s
  · simp only [Wd.less, Bool.false_eq_true, if_false, decide_eq_true_eq, decide_eq_false_iff_not, beq_iff_eq, beq_eq_false_iff_ne, ne_eq]
    omega
  · have hi := Wd.sg_inj a b ha hb
    simp only [Wd.less, if_true, decide_eq_true_eq, decide_eq_false_iff_not, beq_iff_eq, beq_eq_false_iff_ne, ne_eq]
    refine ⟨?_, by omega, by omega⟩
    rcases Int.lt_trichotomy (Wd.sg a) (Wd.sg b) with h | h | h
    · exact .inl ⟨h, by omega, fun e => by rw [e] at h; omega⟩
    · exact .inr (.inr ⟨by omega, by omega, hi h⟩)
    · exact .inr (.inl ⟨by omega, h, fun e => by rw [e] at h; omega⟩)

theorem Wd.apart (a b : Int) (ha : 0 ≤ a ∧ a < 4294967296) (hb : 0 ≤ b ∧ b < 4294967296) :
    ((Wd.less a b true != Wd.less a b false) == (decide (a ≥ 2147483648) != decide (b ≥ 2147483648))) = true := by
  have ha' : Wd.sg a = if a < 2147483648 then a else a - 4294967296 := rfl
  have hb' : Wd.sg b = if b < 2147483648 then b else b - 4294967296 := rfl
  have e1 : Wd.less a b true = decide (Wd.sg a < Wd.sg b) := rfl
  have e2 : Wd.less a b false = decide (a < b) := rfl
  rw [e1, e2]
  by_cases h1 : a < 2147483648 <;> by_cases h2 : b < 2147483648
  · rw [if_pos h1] at ha'; rw [if_pos h2] at hb'; rw [ha', hb', decide_eq_false (p := a ≥ 2147483648) (by omega), decide_eq_false (p := b ≥ 2147483648) (by omega)]; simp
  · rw [if_pos h1] at ha'; rw [if_neg h2] at hb'; rw [ha', hb', decide_eq_false (p := a ≥ 2147483648) (by omega), decide_eq_true (p := b ≥ 2147483648) (by omega), decide_eq_true (p := a < b) (by omega), decide_eq_false (p := a < b - 4294967296) (by omega)]; rfl
  · rw [if_neg h1] at ha'; rw [if_pos h2] at hb'; rw [ha', hb', decide_eq_true (p := a ≥ 2147483648) (by omega), decide_eq_false (p := b ≥ 2147483648) (by omega), decide_eq_false (p := a < b) (by omega), decide_eq_true (p := a - 4294967296 < b) (by omega)]; rfl
  · have e5 : decide (a - 4294967296 < b - 4294967296) = decide (a < b) := decide_eq_decide.2 (by omega)
    rw [if_neg h1] at ha'; rw [if_neg h2] at hb'; rw [ha', hb', decide_eq_true (p := a ≥ 2147483648) (by omega), decide_eq_true (p := b ≥ 2147483648) (by omega), e5]; simp

set_option maxHeartbeats 1000000 in
theorem orders_any (a b c : Int) (w : World) (ha : 0 ≤ a ∧ a < 4294967296) (hb : 0 ≤ b ∧ b < 4294967296) (hc : 0 ≤ c ∧ c < 4294967296) :
    Calls Try.prog 3 #[.int .u32 a, .int .u32 b, .int .u32 c] w fun e w' => e = .returned (.bool true) ∧ w = w' := by
  have HA := Lib.hid (Wd.apart a b ha hb)
  have HO := Lib.hid (fun s => Wd.ord a b c s ha hb)
  go_enter Try.func3, Try.ntmps3
  go_wp2_with fail
  refine (added_any _).mono ?_
  rintro e w' ⟨rfl, rfl⟩
  go_wp2_with fail
  go_loop [8] (fun s8 => ∃ j : Nat, j ≤ 2 ∧ s8 = .int .i64 j) (fun i => 2 - (intOf i).toNat)
  case atStart => exact ⟨0, by omega, rfl⟩
  case round =>
    obtain ⟨j, hj, rfl⟩ := hrel
    by_cases hlt : j < 2
    · obtain ⟨s, hs⟩ : ∃ s : Bool, ((j : Int) == 1) = s := ⟨_, rfl⟩
      obtain ⟨h1, h2, h3⟩ := HO.out s
      have H3 := Lib.hid h3
      clear h3
      go_wp2_with fail
      refine (less_any _ _ _ _ ha hb).mono ?_
      rintro e w' ⟨rfl, rfl⟩
      go_wp2_with fail
      refine (less_any _ _ _ _ hb ha).mono ?_
      rintro e w' ⟨rfl, rfl⟩
      rcases h1 with ⟨x, y, z⟩ | ⟨x, y, z⟩ | ⟨x, y, z⟩
      · go_wp2_with fail
        refine (less_any _ _ _ _ ha ha).mono ?_
        rintro e w' ⟨rfl, rfl⟩
        go_wp2_with fail
        refine (less_any _ _ _ _ hb hc).mono ?_
        rintro e w' ⟨rfl, rfl⟩
        by_cases hu : Wd.less b c s = true
        · have hv : Wd.less a c s = true := H3.out x hu
          go_wp2_with fail
          refine (less_any _ _ _ _ ha hc).mono ?_
          rintro e w' ⟨rfl, rfl⟩
          go_wp2_with fail
          go_round
          case rel => exact ⟨j + 1, by omega, by go_num⟩
          case measure => simp [intOf]; omega
        · have hu : Wd.less b c s = false := by simpa using hu
          go_wp2_with fail
          go_round
          case rel => exact ⟨j + 1, by omega, by go_num⟩
          case measure => simp [intOf]; omega
      · go_wp2_with fail
        refine (less_any _ _ _ _ ha ha).mono ?_
        rintro e w' ⟨rfl, rfl⟩
        go_wp2_with fail
        go_round
        case rel => exact ⟨j + 1, by omega, by go_num⟩
        case measure => simp [intOf]; omega
      · go_wp2_with fail
        refine (less_any _ _ _ _ ha ha).mono ?_
        rintro e w' ⟨rfl, rfl⟩
        go_wp2_with fail
        go_round
        case rel => exact ⟨j + 1, by omega, by go_num⟩
        case measure => simp [intOf]; omega
    · go_wp2_with fail
      refine (less_any _ _ _ _ ha hb).mono ?_
      rintro e w' ⟨rfl, rfl⟩
      go_wp2_with fail
      refine (less_any _ _ _ _ ha hb).mono ?_
      rintro e w' ⟨rfl, rfl⟩
      go_wp2_with fail
      go_ret
      exact ⟨ret_bool HA.out, rfl⟩
end Go.Proofs.Ytmcfjdbpgnchnaa
