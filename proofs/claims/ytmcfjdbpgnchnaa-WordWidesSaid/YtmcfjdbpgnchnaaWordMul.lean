/- The walk of the reference's product of two words, by halves: what it gives is the product's two words. -/
import Derived.Test.YtmcfjdbpgnchnaaWordWalks
import Derived.Deep.DeepCutAuto
namespace Go.Proofs.Ytmcfjdbpgnchnaa
open Go.RowKit

set_option maxHeartbeats 1000000 in
theorem mulOf_any (a b : Int) (s : Bool) (w : World) (ha : 0 ≤ a ∧ a < 4294967296)  (hb : 0 ≤ b ∧ b < 4294967296) :
    Calls Try.prog 16 #[.int .u32 a, .int .u32 b, .bool s] w fun e w' => e = .returned (.tuple #[.int .u32 (Wd.hi a b s), .int .u32 (Wd.lo a b s)]) ∧ w = w' := by
  go_enter Try.func16, Try.ntmps16
  go_upto_if 19 with fail
  go_cut [8, 9, 10] (fun s8 s9 s10 wx => ∃ X Y M, s8 = .int .i64 X ∧ s9 = .int .i64 Y ∧ s10 = .bool M ∧ Wd.Fac (Wd.pr a b s) X Y M ∧ wx = w)
  case first =>
    cases s
    · go_wp2_with fail
      go_meet
      exact ⟨a, b, false, rfl, rfl, rfl, Wd.fac_f a b ha hb, rfl⟩
    · go_wp2_with fail
      refine (signed_any _ _ ha).mono ?_
      have h1 := Wd.sg_bd a ha.1 ha.2
      have h2 := Wd.sg_bd b hb.1 hb.2
      rintro e w' ⟨rfl, rfl⟩
      go_wp2_with fail
      refine (signed_any _ _ hb).mono ?_
      rintro e w' ⟨rfl, rfl⟩
      generalize hx : Wd.sg a = x at *
      generalize hy : Wd.sg b = y at *
      have Hx := Lib.hid hx
      have Hy := Lib.hid hy
      clear hx hy
      by_cases hx0 : x < 0
      all_goals by_cases hy0 : y < 0
      all_goals first | have hx1 : decide (x < 0) = true := by simpa using hx0 | have hx1 : decide (x < 0) = false := by simpa using hx0
      all_goals first | have hy1 : decide (y < 0) = true := by simpa using hy0 | have hy1 : decide (y < 0) = false := by simpa using hy0
      all_goals go_wp2_with fail
      all_goals go_meet
      case rel => exact ⟨_, _, _, rfl, rfl, rfl, Wd.fac_nn a b x y Hx.out Hy.out h1 h2 (by omega) (by omega), rfl⟩
      case rel => exact ⟨_, _, _, rfl, rfl, rfl, Wd.fac_np a b x y Hx.out Hy.out h1 h2 (by omega) (by omega), rfl⟩
      case rel => exact ⟨_, _, _, rfl, rfl, rfl, Wd.fac_pn a b x y Hx.out Hy.out h1 h2 (by omega) (by omega), rfl⟩
      case rel => exact ⟨_, _, _, rfl, rfl, rfl, Wd.fac_pp a b x y Hx.out Hy.out h1 h2 (by omega) (by omega), rfl⟩
  case rest =>
    obtain ⟨X, Y, M, rfl, rfl, rfl, hF, rfl⟩ := hcut
    have H : Hid (Wd.hi a b s = Wd.pr a b s / 4294967296 % 4294967296 ∧ Wd.lo a b s = Wd.pr a b s % 4294967296) := Lib.hid ⟨rfl, rfl⟩
    generalize Wd.pr a b s = p at *
    obtain ⟨x1, x2, y1, y2, hp⟩ := hF
    have hb1 := Wd.mul_bd X (Y % 65536) 4294967295 65535 x1 x2 (by omega) (by omega)
    have hb2 := Wd.mul_bd X (Y / 65536) 4294967295 65535 x1 x2 (by omega) (by omega)
    have hs := Wd.split X Y
    have HS : Hid (p = if M then -(X * (Y % 65536) + 65536 * (X * (Y / 65536))) else X * (Y % 65536) + 65536 * (X * (Y / 65536))) := by rw [hs]; exact Lib.hid hp
    clear hs hp
    go_upto_region 14 with fail
    generalize X * (Y % 65536) = P at *
    generalize X * (Y / 65536) = Q at *
    cases M
    · have HT : Hid (p = P + 65536 * Q) := HS
      clear HS
      go_wp2_with fail
      go_ret2
      have HU := HT.out
      have HV := H.out
      refine ⟨ret_int_int ?_ ?_, rfl⟩
      · rw [HV.1]; omega
      · rw [HV.2]; omega
    · have HT : Hid (p = -(P + 65536 * Q)) := HS
      clear HS
      go_upto_region 17 with fail
      have e : (P % 4294967296 + Q % 65536 * 65536) % 4294967296 + 4294967296 * (P / 4294967296 + Q / 65536 + (P % 4294967296 + Q % 65536 * 65536) / 4294967296) = P + 65536 * Q := by omega
      have l1 : 0 ≤ (P % 4294967296 + Q % 65536 * 65536) % 4294967296 := by omega
      have l2 : (P % 4294967296 + Q % 65536 * 65536) % 4294967296 < 4294967296 := by omega
      have l3 : 0 ≤ P / 4294967296 + Q / 65536 + (P % 4294967296 + Q % 65536 * 65536) / 4294967296 := by omega
      have l4 : P / 4294967296 + Q / 65536 + (P % 4294967296 + Q % 65536 * 65536) / 4294967296 < 4294967296 := by omega
      generalize (P % 4294967296 + Q % 65536 * 65536) % 4294967296 = l at *
      generalize P / 4294967296 + Q / 65536 + (P % 4294967296 + Q % 65536 * 65536) / 4294967296 = h at *
      rw [← e] at HT
      clear e hb1 hb2
      by_cases h1 : 0 < h
      all_goals by_cases h2 : 0 < l
      all_goals go_wp2_with fail
      all_goals
        go_ret2
        have HU := HT.out
        have HV := H.out
        refine ⟨ret_int_int ?_ ?_, rfl⟩
        all_goals try simp only [beq_iff_eq, beq_eq_false_iff_ne, ne_eq] at *
        · rw [HV.1]; omega
        · rw [HV.2]; omega
end Go.Proofs.Ytmcfjdbpgnchnaa
