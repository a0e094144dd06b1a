import Derived.Test.YtknhfobcejpmeaaGreatDoorSumsD
import Derived.Deep.QuietTactic
import Derived.BigQuiet
import Derived.Deep.DeepCutAuto
import Derived.WalkLawsBesides
import Derived.Lib.Hide
import Derived.Test.YtknhfobcejpmeaaGreatDoorIrOp

/- SumsOfD -/
/- The walks of the reference's IsSigned, LessOf, MulOf, DivOf. -/
namespace Go.Proofs.YtknhfobcejpmeaaGreatDoor
open Go.RowKit
set_option linter.unusedVariables false

set_option maxHeartbeats 400000 in
theorem isSigned_any (n : Int) (w : World) :
    Calls Tryz.prog 102 #[.int .i64 n] w fun e w' => e = .returned (.bool (Wd.isS n)) ∧ w = w' := by
  go_enter Tryz.func102, Tryz.ntmps102
  go_wp2
  all_goals go_ret
  all_goals exact ⟨ret_bool (by simp [Wd.isS]; try omega), rfl⟩

set_option maxHeartbeats 400000 in
theorem lessOf_any (a b : Int) (s : Bool) (w : World) (ha : 0 ≤ a ∧ a < 4294967296) (hb : 0 ≤ b ∧ b < 4294967296) :
    Calls Tryz.prog 148 #[.int .u32 a, .int .u32 b, .bool s] w fun e w' => e = .returned (.bool (Wd.less a b s)) ∧ w = w' := by
  cases s
  · go_enter Tryz.func148, Tryz.ntmps148
    go_wp2
    go_ret
    exact ⟨rfl, rfl⟩
  · go_enter Tryz.func148, Tryz.ntmps148
    go_wp2_with fail
    refine (signed_any _ _ ha).mono ?_
    rintro e w' ⟨rfl, rfl⟩
    go_wp2_with fail
    refine (signed_any _ _ hb).mono ?_
    rintro e w' ⟨rfl, rfl⟩
    go_wp2_with fail
    go_ret
    exact ⟨rfl, rfl⟩

set_option maxHeartbeats 1000000 in
theorem mulOf_any (a b : Int) (s : Bool) (w : World) (ha : 0 ≤ a ∧ a < 4294967296)  (hb : 0 ≤ b ∧ b < 4294967296) :
    Calls Tryz.prog 149 #[.int .u32 a, .int .u32 b, .bool s] w fun e w' => e = .returned (.tuple #[.int .u32 (Wd.hi a b s), .int .u32 (Wd.lo a b s)]) ∧ w = w' := by
  go_enter Tryz.func149, Tryz.ntmps149
  go_upto_if 19 with fail
  go_cut [8, 9, 10] (fun s8 s9 s10 wx => ∃ X Y M, s8 = .int .i64 X ∧ s9 = .int .i64 Y ∧ s10 = .bool M ∧ Wd.Fac (Wd.pr a b s) X Y M ∧ wx = w)
  case first =>
    cases s
    · go_wp2_with fail
      go_meet
      exact ⟨a, b, false, rfl, rfl, rfl, Wd.fac_f a b ha hb, rfl⟩
    · go_wp2_with fail
      refine (signed_any _ _ ha).mono ?_
      have h1 := Wd.sg_bd a ha.1 ha.2
      have h2 := Wd.sg_bd b hb.1 hb.2
      rintro e w' ⟨rfl, rfl⟩
      go_wp2_with fail
      refine (signed_any _ _ hb).mono ?_
      rintro e w' ⟨rfl, rfl⟩
      generalize hx : Wd.sg a = x at *
      generalize hy : Wd.sg b = y at *
      have Hx := Lib.hid hx
      have Hy := Lib.hid hy
      clear hx hy
      by_cases hx0 : x < 0
      all_goals by_cases hy0 : y < 0
      all_goals first | have hx1 : decide (x < 0) = true := by simpa using hx0 | have hx1 : decide (x < 0) = false := by simpa using hx0
      all_goals first | have hy1 : decide (y < 0) = true := by simpa using hy0 | have hy1 : decide (y < 0) = false := by simpa using hy0
      all_goals go_wp2_with fail
      all_goals go_meet
      case rel => exact ⟨_, _, _, rfl, rfl, rfl, Wd.fac_nn a b x y Hx.out Hy.out h1 h2 (by omega) (by omega), rfl⟩
      case rel => exact ⟨_, _, _, rfl, rfl, rfl, Wd.fac_np a b x y Hx.out Hy.out h1 h2 (by omega) (by omega), rfl⟩
      case rel => exact ⟨_, _, _, rfl, rfl, rfl, Wd.fac_pn a b x y Hx.out Hy.out h1 h2 (by omega) (by omega), rfl⟩
      case rel => exact ⟨_, _, _, rfl, rfl, rfl, Wd.fac_pp a b x y Hx.out Hy.out h1 h2 (by omega) (by omega), rfl⟩
  case rest =>
    obtain ⟨X, Y, M, rfl, rfl, rfl, hF, rfl⟩ := hcut
    have H : Hid (Wd.hi a b s = Wd.pr a b s / 4294967296 % 4294967296 ∧ Wd.lo a b s = Wd.pr a b s % 4294967296) := Lib.hid ⟨rfl, rfl⟩
    generalize Wd.pr a b s = p at *
    obtain ⟨x1, x2, y1, y2, hp⟩ := hF
    have hb1 := Wd.mul_bd X (Y % 65536) 4294967295 65535 x1 x2 (by omega) (by omega)
    have hb2 := Wd.mul_bd X (Y / 65536) 4294967295 65535 x1 x2 (by omega) (by omega)
    have hs := Wd.split X Y
    have HS : Hid (p = if M then -(X * (Y % 65536) + 65536 * (X * (Y / 65536))) else X * (Y % 65536) + 65536 * (X * (Y / 65536))) := by rw [hs]; exact Lib.hid hp
    clear hs hp
    go_upto_region 14 with fail
    generalize X * (Y % 65536) = P at *
    generalize X * (Y / 65536) = Q at *
    cases M
    · have HT : Hid (p = P + 65536 * Q) := HS
      clear HS
      go_wp2_with fail
      go_ret2
      have HU := HT.out
      have HV := H.out
      refine ⟨ret_int_int ?_ ?_, rfl⟩
      · rw [HV.1]; omega
      · rw [HV.2]; omega
    · have HT : Hid (p = -(P + 65536 * Q)) := HS
      clear HS
      go_upto_region 17 with fail
      have e : (P % 4294967296 + Q % 65536 * 65536) % 4294967296 + 4294967296 * (P / 4294967296 + Q / 65536 + (P % 4294967296 + Q % 65536 * 65536) / 4294967296) = P + 65536 * Q := by omega
      have l1 : 0 ≤ (P % 4294967296 + Q % 65536 * 65536) % 4294967296 := by omega
      have l2 : (P % 4294967296 + Q % 65536 * 65536) % 4294967296 < 4294967296 := by omega
      have l3 : 0 ≤ P / 4294967296 + Q / 65536 + (P % 4294967296 + Q % 65536 * 65536) / 4294967296 := by omega
      have l4 : P / 4294967296 + Q / 65536 + (P % 4294967296 + Q % 65536 * 65536) / 4294967296 < 4294967296 := by omega
      generalize (P % 4294967296 + Q % 65536 * 65536) % 4294967296 = l at *
      generalize P / 4294967296 + Q / 65536 + (P % 4294967296 + Q % 65536 * 65536) / 4294967296 = h at *
      rw [← e] at HT
      clear e hb1 hb2
      by_cases h1 : 0 < h
      all_goals by_cases h2 : 0 < l
      all_goals go_wp2_with fail
      all_goals
        go_ret2
        have HU := HT.out
        have HV := H.out
        refine ⟨ret_int_int ?_ ?_, rfl⟩
        all_goals try simp only [beq_iff_eq, beq_eq_false_iff_ne, ne_eq] at *
        · rw [HV.1]; omega
        · rw [HV.2]; omega

theorem quiet_same {P : Program} {f : FuncId} {args : Array Value} {w : World} {n : Nat} {v : Value}
    (h : Calls P f args (w.drewN n) fun e w' => e = .returned v ∧ w.drewN n = w') : Calls P f args (w.drewN n) fun e w'' => e = .returned v ∧ ∃ m, w'' = w.drewN m :=
  h.mono fun _ _ ⟨he, hm⟩ => ⟨he, n, hm.symm⟩
theorem i64_rng (x : Int) : -9223372036854775808 ≤ IntKind.i64.wrap x ∧ IntKind.i64.wrap x ≤ 9223372036854775807 := by
  rw [IntKind.wrap_i64]; omega
theorem sg_tmod (x y : Int) (hx : -2147483648 ≤ x ∧ x ≤ 2147483647) : -2147483648 ≤ x.tmod y ∧ x.tmod y ≤ 2147483647 := by
  have h1 : (x.tmod y).natAbs ≤ x.natAbs := by rw [Int.natAbs_tmod]; exact Nat.mod_le _ _
  have h2 : 0 ≤ x → 0 ≤ x.tmod y := fun h => Int.tmod_nonneg y h
  have h3 : 0 ≤ -x → 0 ≤ (-x).tmod y := fun h => Int.tmod_nonneg y h
  rw [Int.neg_tmod] at h3
  omega
set_option maxHeartbeats 400000 in
theorem divOf_any (a b : Int) (s : Bool) (w : World) (ha : 0 ≤ a ∧ a < 4294967296) (hb : 0 ≤ b ∧ b < 4294967296) :
    Calls Tryz.prog 107 #[.int .u32 a, .int .u32 b, .bool s] w fun e w' => e = .returned (.tuple #[.int .u32 (Wd.quo a b s), .int .u32 (Wd.rst a b s), .bool (b != 0)]) ∧ ∃ n, w' = w.drewN n := by
  by_cases hz : b = 0
  · subst hz
    go_enter Tryz.func107, Tryz.ntmps107
    go_wp2
    go_ret3
    exact ⟨ret_iib (Wd.quo_0 a s).symm (Wd.rst_0 a s).symm rfl, 0, rfl⟩
  · have hz0 : (b == 0) = false := by simpa using hz
    have hz2 : (b != 0) = true := by simpa using hz
    have HZ := Lib.hid hz2
    clear hz2
    cases s
    · have hq : 0 ≤ a / b ∧ a / b ≤ a := IntWalk.tdiv_le a b ha.1 (by omega)
      have hr : 0 ≤ a % b ∧ a % b < b := ⟨Int.emod_nonneg _ hz, Int.emod_lt_of_pos _ (by omega)⟩
      go_enter Tryz.func107, Tryz.ntmps107
      go_wp2_with fail
      go_quiet ((go_at_call 111; refine quiet_same (word_any _ _ ?_); first | omega | exact i64_rng _))
      go_wp2
      go_ret3
      refine ⟨ret_iib ?_ ?_ HZ.out.symm, _, rfl⟩
      · rw [Wd.quo_u a b hz]; first | omega | (rw [IntWalk.i64_quo _ _ (by omega)]; omega)
      · rw [Wd.rst_u a b hz]; first | omega | (rw [IntWalk.rem_in _ _ (by omega)]; omega)
    · have hb0 : ¬ (Wd.sg b = 0) := by unfold Wd.sg; split <;> omega
      have E := Lib.hid (sg_tdiv (Wd.sg a) (Wd.sg b) (Wd.sg_bd a ha.1 ha.2))
      have F := Lib.hid (sg_tmod (Wd.sg a) (Wd.sg b) (Wd.sg_bd a ha.1 ha.2))
      go_enter Tryz.func107, Tryz.ntmps107
      go_wp2_with fail
      refine (signed_any _ _ ha).mono ?_
      rintro e w' ⟨rfl, rfl⟩
      go_wp2_with fail
      refine (signed_any _ _ hb).mono ?_
      rintro e w' ⟨rfl, rfl⟩
      go_wp2_with fail
      refine (word_any _ _ (by unfold wrap64; omega)).mono ?_
      rintro e w' ⟨rfl, rfl⟩
      go_wp2_with fail
      refine (signed_any _ _ ha).mono ?_
      rintro e w' ⟨rfl, rfl⟩
      go_wp2_with fail
      refine (signed_any _ _ hb).mono ?_
      rintro e w' ⟨rfl, rfl⟩
      go_wp2_with fail
      refine (word_any _ _ (by have F' := F.out; omega)).mono ?_
      rintro e w' ⟨rfl, rfl⟩
      go_wp2_with fail
      go_ret3
      have E' := E.out
      refine ⟨ret_iib ?_ ?_ HZ.out.symm, 0, rfl⟩
      · rw [Wd.quo_s a b hz, IntWalk.wrap64_in _ (by omega)]
      · rw [Wd.rst_s a b hz]

end Go.Proofs.YtknhfobcejpmeaaGreatDoor

/- IrOp2 -/
/- The walks of the code's bytes, bare, CheckOp. -/
namespace Go.Proofs.YtknhfobcejpmeaaGreatDoor
open Go.RowKit Go.Deep
set_option linter.unusedVariables false
set_option linter.unusedSimpArgs false

set_option maxHeartbeats 2000000 in
theorem bytes_any (o : Ir.Op) (w : World) :
    Calls Tryz.prog 121 #[.agg (opC o)] w fun e w' => e = .returned (.bool (Ir.bytes o)) ∧ Keeps (fun _ => False) w w' := by
  obtain ⟨k, d, a, b, im, t⟩ := o
  have h5 := is_load k
  have h6 := is_store k
  have HK := Lib.hid ((Keeps.refl (fun _ => False) w).alloc (.cells #[.string k, .int .i64 d, .int .i64 a, .int .i64 b, .int .u32 im, .int .i64 t] 100))
  obtain ⟨r, hr⟩ : ∃ r, Ir.bytes ⟨k, d, a, b, im, t⟩ = r := ⟨_, rfl⟩
  rw [hr]
  by_cases e5 : Ir.kn k = 5
  · have HR : Hid (r = decide (b = 1 ∨ b = 2 ∨ b = 4 ∨ b = -1 ∨ b = -2)) := Lib.hid (by rw [← hr]; exact if_pos e5)
    rw [e5] at h5
    simp only [Nat.reduceBEq] at h5
    clear h6 hr e5
    unfold opC
    by_cases g0 : b = 1
    · subst g0
      have HR2 := Lib.hid (HR.out.trans (decide_eq_true (by omega)))
      clear HR
      go_enter Tryz.func121, Tryz.ntmps121
      go_wp2_with fail
      go_ret
      exact ⟨by rw [HR2.out]; rfl, HK.out⟩
    · have f0 : (b == 1) = false := by simpa using g0
      by_cases g1 : b = 2
      · subst g1
        have HR2 := Lib.hid (HR.out.trans (decide_eq_true (by omega)))
        clear HR
        go_enter Tryz.func121, Tryz.ntmps121
        go_wp2_with fail
        go_ret
        exact ⟨by rw [HR2.out]; rfl, HK.out⟩
      · have f1 : (b == 2) = false := by simpa using g1
        by_cases g2 : b = 4
        · subst g2
          have HR2 := Lib.hid (HR.out.trans (decide_eq_true (by omega)))
          clear HR
          go_enter Tryz.func121, Tryz.ntmps121
          go_wp2_with fail
          go_ret
          exact ⟨by rw [HR2.out]; rfl, HK.out⟩
        · have f2 : (b == 4) = false := by simpa using g2
          by_cases g3 : b = (-1)
          · subst g3
            have HR2 := Lib.hid (HR.out.trans (decide_eq_true (by omega)))
            clear HR
            go_enter Tryz.func121, Tryz.ntmps121
            go_wp2_with fail
            go_ret
            exact ⟨by rw [HR2.out]; rfl, HK.out⟩
          · have f3 : (b == (-1)) = false := by simpa using g3
            by_cases g4 : b = (-2)
            · subst g4
              have HR2 := Lib.hid (HR.out.trans (decide_eq_true (by omega)))
              clear HR
              go_enter Tryz.func121, Tryz.ntmps121
              go_wp2_with fail
              go_ret
              exact ⟨by rw [HR2.out]; rfl, HK.out⟩
            · have f4 : (b == (-2)) = false := by simpa using g4
              have HR2 := Lib.hid (HR.out.trans (decide_eq_false (by omega)))
              clear HR
              go_enter Tryz.func121, Tryz.ntmps121
              go_wp2_with fail
              go_ret
              exact ⟨by rw [HR2.out]; rfl, HK.out⟩
  · by_cases e6 : Ir.kn k = 6
    · have HR : Hid (r = decide (d = 1 ∨ d = 2 ∨ d = 4)) := Lib.hid (by rw [← hr]; exact (if_neg e5).trans (if_pos e6))
      rw [e6] at h6 h5
      simp only [Nat.reduceBEq] at h6 h5
      clear hr e5 e6
      unfold opC
      by_cases g0 : d = 1
      · subst g0
        have HR2 := Lib.hid (HR.out.trans (decide_eq_true (by omega)))
        clear HR
        go_enter Tryz.func121, Tryz.ntmps121
        go_wp2_with fail
        go_ret
        exact ⟨by rw [HR2.out]; rfl, HK.out⟩
      · have f0 : (d == 1) = false := by simpa using g0
        by_cases g1 : d = 2
        · subst g1
          have HR2 := Lib.hid (HR.out.trans (decide_eq_true (by omega)))
          clear HR
          go_enter Tryz.func121, Tryz.ntmps121
          go_wp2_with fail
          go_ret
          exact ⟨by rw [HR2.out]; rfl, HK.out⟩
        · have f1 : (d == 2) = false := by simpa using g1
          by_cases g2 : d = 4
          · subst g2
            have HR2 := Lib.hid (HR.out.trans (decide_eq_true (by omega)))
            clear HR
            go_enter Tryz.func121, Tryz.ntmps121
            go_wp2_with fail
            go_ret
            exact ⟨by rw [HR2.out]; rfl, HK.out⟩
          · have f2 : (d == 4) = false := by simpa using g2
            have HR2 := Lib.hid (HR.out.trans (decide_eq_false (by omega)))
            clear HR
            go_enter Tryz.func121, Tryz.ntmps121
            go_wp2_with fail
            go_ret
            exact ⟨by rw [HR2.out]; rfl, HK.out⟩
    · have HR : Hid (r = true) := Lib.hid (by rw [← hr]; exact (if_neg e5).trans (if_neg e6))
      have h5' : (k.toList == [108, 111, 97, 100]) = false := by rw [h5]; simpa using e5
      have h6' : (k.toList == [115, 116, 111, 114, 101]) = false := by rw [h6]; simpa using e6
      clear h5 h6 hr e5 e6
      unfold opC
      go_enter Tryz.func121, Tryz.ntmps121
      go_wp2_with fail
      go_ret
      exact ⟨by rw [HR.out]; rfl, HK.out⟩
theorem pats (c : Nat) (hc : c ≤ 27) : (hasL c 68 = false ∧ hasL c 65 = false ∧ hasL c 66 = false ∧ hasL c 73 = false) ∨ (hasL c 68 = true ∧ hasL c 65 = false ∧ hasL c 66 = false ∧ hasL c 73 = true) ∨ (hasL c 68 = true ∧ hasL c 65 = true ∧ hasL c 66 = false ∧ hasL c 73 = false) ∨ (hasL c 68 = false ∧ hasL c 65 = true ∧ hasL c 66 = true ∧ hasL c 73 = false) ∨ (hasL c 68 = true ∧ hasL c 65 = true ∧ hasL c 66 = true ∧ hasL c 73 = true) ∨ (hasL c 68 = false ∧ hasL c 65 = true ∧ hasL c 66 = false ∧ hasL c 73 = true) ∨ (hasL c 68 = false ∧ hasL c 65 = false ∧ hasL c 66 = false ∧ hasL c 73 = true) ∨ (hasL c 68 = false ∧ hasL c 65 = true ∧ hasL c 66 = false ∧ hasL c 73 = false) ∨ (hasL c 68 = true ∧ hasL c 65 = true ∧ hasL c 66 = true ∧ hasL c 73 = false) := by
  have key : ∀ c : Fin 28, (hasL c.val 68 = false ∧ hasL c.val 65 = false ∧ hasL c.val 66 = false ∧ hasL c.val 73 = false) ∨ (hasL c.val 68 = true ∧ hasL c.val 65 = false ∧ hasL c.val 66 = false ∧ hasL c.val 73 = true) ∨ (hasL c.val 68 = true ∧ hasL c.val 65 = true ∧ hasL c.val 66 = false ∧ hasL c.val 73 = false) ∨ (hasL c.val 68 = false ∧ hasL c.val 65 = true ∧ hasL c.val 66 = true ∧ hasL c.val 73 = false) ∨ (hasL c.val 68 = true ∧ hasL c.val 65 = true ∧ hasL c.val 66 = true ∧ hasL c.val 73 = true) ∨ (hasL c.val 68 = false ∧ hasL c.val 65 = true ∧ hasL c.val 66 = false ∧ hasL c.val 73 = true) ∨ (hasL c.val 68 = false ∧ hasL c.val 65 = false ∧ hasL c.val 66 = false ∧ hasL c.val 73 = true) ∨ (hasL c.val 68 = false ∧ hasL c.val 65 = true ∧ hasL c.val 66 = false ∧ hasL c.val 73 = false) ∨ (hasL c.val 68 = true ∧ hasL c.val 65 = true ∧ hasL c.val 66 = true ∧ hasL c.val 73 = false) := by decide +kernel
  exact key ⟨c, by omega⟩
set_option maxHeartbeats 4000000 in
set_option maxRecDepth 100000 in
theorem bare_any (o : Ir.Op) (w : World) :
    Calls Tryz.prog 122 #[.agg (opC o)] w fun e w' => e = .returned (.bool (Ir.bare o)) ∧ Keeps (fun _ => False) w w' := by
  obtain ⟨k, d, a, b, im, t⟩ := o
  have HN := Lib.hid (op_new w k d a b im t 100)
  have HH := Lib.hid (fun w => has_any k w)
  have HC := Lib.hid (fun l hl w => contains_fields (Ir.kn k) (Ir.kn_le k) l hl w)
  have hp := pats (Ir.kn k) (Ir.kn_le k)
  obtain ⟨r, hr⟩ : ∃ r, Ir.bare ⟨k, d, a, b, im, t⟩ = r := ⟨_, rfl⟩
  rw [hr]
  have hr0 : r = ((hasL (Ir.kn k) 68 || decide (d = 0)) && (hasL (Ir.kn k) 65 || decide (a = 0)) && (hasL (Ir.kn k) 66 || decide (b = 0)) && (hasL (Ir.kn k) 73 || decide (im = 0))) := by
    rw [← hr]
    rfl
  clear hr
  generalize Ir.kn k = c at *
  have H68 := Lib.hid (HC.out 68 (.inl rfl))
  have H65 := Lib.hid (HC.out 65 (.inr (.inl rfl)))
  have H66 := Lib.hid (HC.out 66 (.inr (.inr (.inl rfl))))
  have H73 := Lib.hid (HC.out 73 (.inr (.inr (.inr rfl))))
  clear HC
  generalize hasL c 68 = pd at *
  generalize hasL c 65 = pa at *
  generalize hasL c 66 = pb at *
  generalize hasL c 73 = pi at *
  generalize fieldsB c = fb at *
  unfold opC
  rcases hp with ⟨rfl, rfl, rfl, rfl⟩ | ⟨rfl, rfl, rfl, rfl⟩ | ⟨rfl, rfl, rfl, rfl⟩ | ⟨rfl, rfl, rfl, rfl⟩ | ⟨rfl, rfl, rfl, rfl⟩ | ⟨rfl, rfl, rfl, rfl⟩ | ⟨rfl, rfl, rfl, rfl⟩ | ⟨rfl, rfl, rfl, rfl⟩ | ⟨rfl, rfl, rfl, rfl⟩
  · by_cases zd : d = 0
    · have yd : (d == 0) = true := by simpa using zd
      have HZd := Lib.hid zd
      clear zd
      by_cases za : a = 0
      · have ya : (a == 0) = true := by simpa using za
        have HZa := Lib.hid za
        clear za
        by_cases zb : b = 0
        · have yb : (b == 0) = true := by simpa using zb
          have HZb := Lib.hid zb
          clear zb
          by_cases zim : im = 0
          · have yim : (im == 0) = true := by simpa using zim
            have HZim := Lib.hid zim
            clear zim
            have HR : Hid (r = true) := Lib.hid (by rw [hr0]; simp [HZd.out, HZa.out, HZb.out, HZim.out])
            clear hr0
            go_enter Tryz.func122, Tryz.ntmps122
            go_upto_region 1 with fail
            obtain ⟨hV, hK⟩ := HN.out
            generalize w.alloc _ = w1 at *
            generalize w.heap.size = x at *
            obtain ⟨v0, v1, v2, v3, v4, v5⟩ := hV
            simp only at v0 v1 v2 v3 v4 v5
            have HK := Lib.hid hK
            clear hK HN
            go_wp2_with fail
            refine (HH.out _).mono ?_
            rintro e w' ⟨rfl, rfl⟩
            go_wp2_with fail
            refine (H68.out _).mono ?_
            rintro e w' ⟨rfl, rfl⟩
            go_wp2_with fail
            refine (H65.out _).mono ?_
            rintro e w' ⟨rfl, rfl⟩
            go_wp2_with fail
            refine (H66.out _).mono ?_
            rintro e w' ⟨rfl, rfl⟩
            go_wp2_with fail
            refine (H73.out _).mono ?_
            rintro e w' ⟨rfl, rfl⟩
            go_wp2_with fail
            go_ret
            exact ⟨by rw [HR.out]; rfl, HK.out⟩
          · have yim : (im == 0) = false := by simpa using zim
            have HR : Hid (r = false) := Lib.hid (by rw [hr0]; simp [zim])
            clear hr0 zim
            go_enter Tryz.func122, Tryz.ntmps122
            go_upto_region 1 with fail
            obtain ⟨hV, hK⟩ := HN.out
            generalize w.alloc _ = w1 at *
            generalize w.heap.size = x at *
            obtain ⟨v0, v1, v2, v3, v4, v5⟩ := hV
            simp only at v0 v1 v2 v3 v4 v5
            have HK := Lib.hid hK
            clear hK HN
            go_wp2_with fail
            refine (HH.out _).mono ?_
            rintro e w' ⟨rfl, rfl⟩
            go_wp2_with fail
            refine (H68.out _).mono ?_
            rintro e w' ⟨rfl, rfl⟩
            go_wp2_with fail
            refine (H65.out _).mono ?_
            rintro e w' ⟨rfl, rfl⟩
            go_wp2_with fail
            refine (H66.out _).mono ?_
            rintro e w' ⟨rfl, rfl⟩
            go_wp2_with fail
            refine (H73.out _).mono ?_
            rintro e w' ⟨rfl, rfl⟩
            go_wp2_with fail
            go_ret
            exact ⟨by rw [HR.out]; rfl, HK.out⟩
        · have yb : (b == 0) = false := by simpa using zb
          have HR : Hid (r = false) := Lib.hid (by rw [hr0]; simp [zb])
          clear hr0 zb
          go_enter Tryz.func122, Tryz.ntmps122
          go_upto_region 1 with fail
          obtain ⟨hV, hK⟩ := HN.out
          generalize w.alloc _ = w1 at *
          generalize w.heap.size = x at *
          obtain ⟨v0, v1, v2, v3, v4, v5⟩ := hV
          simp only at v0 v1 v2 v3 v4 v5
          have HK := Lib.hid hK
          clear hK HN
          go_wp2_with fail
          refine (HH.out _).mono ?_
          rintro e w' ⟨rfl, rfl⟩
          go_wp2_with fail
          refine (H68.out _).mono ?_
          rintro e w' ⟨rfl, rfl⟩
          go_wp2_with fail
          refine (H65.out _).mono ?_
          rintro e w' ⟨rfl, rfl⟩
          go_wp2_with fail
          refine (H66.out _).mono ?_
          rintro e w' ⟨rfl, rfl⟩
          go_wp2_with fail
          go_ret
          exact ⟨by rw [HR.out]; rfl, HK.out⟩
      · have ya : (a == 0) = false := by simpa using za
        have HR : Hid (r = false) := Lib.hid (by rw [hr0]; simp [za])
        clear hr0 za
        go_enter Tryz.func122, Tryz.ntmps122
        go_upto_region 1 with fail
        obtain ⟨hV, hK⟩ := HN.out
        generalize w.alloc _ = w1 at *
        generalize w.heap.size = x at *
        obtain ⟨v0, v1, v2, v3, v4, v5⟩ := hV
        simp only at v0 v1 v2 v3 v4 v5
        have HK := Lib.hid hK
        clear hK HN
        go_wp2_with fail
        refine (HH.out _).mono ?_
        rintro e w' ⟨rfl, rfl⟩
        go_wp2_with fail
        refine (H68.out _).mono ?_
        rintro e w' ⟨rfl, rfl⟩
        go_wp2_with fail
        refine (H65.out _).mono ?_
        rintro e w' ⟨rfl, rfl⟩
        go_wp2_with fail
        go_ret
        exact ⟨by rw [HR.out]; rfl, HK.out⟩
    · have yd : (d == 0) = false := by simpa using zd
      have HR : Hid (r = false) := Lib.hid (by rw [hr0]; simp [zd])
      clear hr0 zd
      go_enter Tryz.func122, Tryz.ntmps122
      go_upto_region 1 with fail
      obtain ⟨hV, hK⟩ := HN.out
      generalize w.alloc _ = w1 at *
      generalize w.heap.size = x at *
      obtain ⟨v0, v1, v2, v3, v4, v5⟩ := hV
      simp only at v0 v1 v2 v3 v4 v5
      have HK := Lib.hid hK
      clear hK HN
      go_wp2_with fail
      refine (HH.out _).mono ?_
      rintro e w' ⟨rfl, rfl⟩
      go_wp2_with fail
      refine (H68.out _).mono ?_
      rintro e w' ⟨rfl, rfl⟩
      go_wp2_with fail
      go_ret
      exact ⟨by rw [HR.out]; rfl, HK.out⟩
  · by_cases za : a = 0
    · have ya : (a == 0) = true := by simpa using za
      have HZa := Lib.hid za
      clear za
      by_cases zb : b = 0
      · have yb : (b == 0) = true := by simpa using zb
        have HZb := Lib.hid zb
        clear zb
        have HR : Hid (r = true) := Lib.hid (by rw [hr0]; simp [HZa.out, HZb.out])
        clear hr0
        go_enter Tryz.func122, Tryz.ntmps122
        go_upto_region 1 with fail
        obtain ⟨hV, hK⟩ := HN.out
        generalize w.alloc _ = w1 at *
        generalize w.heap.size = x at *
        obtain ⟨v0, v1, v2, v3, v4, v5⟩ := hV
        simp only at v0 v1 v2 v3 v4 v5
        have HK := Lib.hid hK
        clear hK HN
        go_wp2_with fail
        refine (HH.out _).mono ?_
        rintro e w' ⟨rfl, rfl⟩
        go_wp2_with fail
        refine (H68.out _).mono ?_
        rintro e w' ⟨rfl, rfl⟩
        go_wp2_with fail
        refine (H65.out _).mono ?_
        rintro e w' ⟨rfl, rfl⟩
        go_wp2_with fail
        refine (H66.out _).mono ?_
        rintro e w' ⟨rfl, rfl⟩
        go_wp2_with fail
        refine (H73.out _).mono ?_
        rintro e w' ⟨rfl, rfl⟩
        go_wp2_with fail
        go_ret
        exact ⟨by rw [HR.out]; rfl, HK.out⟩
      · have yb : (b == 0) = false := by simpa using zb
        have HR : Hid (r = false) := Lib.hid (by rw [hr0]; simp [zb])
        clear hr0 zb
        go_enter Tryz.func122, Tryz.ntmps122
        go_upto_region 1 with fail
        obtain ⟨hV, hK⟩ := HN.out
        generalize w.alloc _ = w1 at *
        generalize w.heap.size = x at *
        obtain ⟨v0, v1, v2, v3, v4, v5⟩ := hV
        simp only at v0 v1 v2 v3 v4 v5
        have HK := Lib.hid hK
        clear hK HN
        go_wp2_with fail
        refine (HH.out _).mono ?_
        rintro e w' ⟨rfl, rfl⟩
        go_wp2_with fail
        refine (H68.out _).mono ?_
        rintro e w' ⟨rfl, rfl⟩
        go_wp2_with fail
        refine (H65.out _).mono ?_
        rintro e w' ⟨rfl, rfl⟩
        go_wp2_with fail
        refine (H66.out _).mono ?_
        rintro e w' ⟨rfl, rfl⟩
        go_wp2_with fail
        go_ret
        exact ⟨by rw [HR.out]; rfl, HK.out⟩
    · have ya : (a == 0) = false := by simpa using za
      have HR : Hid (r = false) := Lib.hid (by rw [hr0]; simp [za])
      clear hr0 za
      go_enter Tryz.func122, Tryz.ntmps122
      go_upto_region 1 with fail
      obtain ⟨hV, hK⟩ := HN.out
      generalize w.alloc _ = w1 at *
      generalize w.heap.size = x at *
      obtain ⟨v0, v1, v2, v3, v4, v5⟩ := hV
      simp only at v0 v1 v2 v3 v4 v5
      have HK := Lib.hid hK
      clear hK HN
      go_wp2_with fail
      refine (HH.out _).mono ?_
      rintro e w' ⟨rfl, rfl⟩
      go_wp2_with fail
      refine (H68.out _).mono ?_
      rintro e w' ⟨rfl, rfl⟩
      go_wp2_with fail
      refine (H65.out _).mono ?_
      rintro e w' ⟨rfl, rfl⟩
      go_wp2_with fail
      go_ret
      exact ⟨by rw [HR.out]; rfl, HK.out⟩
  · by_cases zb : b = 0
    · have yb : (b == 0) = true := by simpa using zb
      have HZb := Lib.hid zb
      clear zb
      by_cases zim : im = 0
      · have yim : (im == 0) = true := by simpa using zim
        have HZim := Lib.hid zim
        clear zim
        have HR : Hid (r = true) := Lib.hid (by rw [hr0]; simp [HZb.out, HZim.out])
        clear hr0
        go_enter Tryz.func122, Tryz.ntmps122
        go_upto_region 1 with fail
        obtain ⟨hV, hK⟩ := HN.out
        generalize w.alloc _ = w1 at *
        generalize w.heap.size = x at *
        obtain ⟨v0, v1, v2, v3, v4, v5⟩ := hV
        simp only at v0 v1 v2 v3 v4 v5
        have HK := Lib.hid hK
        clear hK HN
        go_wp2_with fail
        refine (HH.out _).mono ?_
        rintro e w' ⟨rfl, rfl⟩
        go_wp2_with fail
        refine (H68.out _).mono ?_
        rintro e w' ⟨rfl, rfl⟩
        go_wp2_with fail
        refine (H65.out _).mono ?_
        rintro e w' ⟨rfl, rfl⟩
        go_wp2_with fail
        refine (H66.out _).mono ?_
        rintro e w' ⟨rfl, rfl⟩
        go_wp2_with fail
        refine (H73.out _).mono ?_
        rintro e w' ⟨rfl, rfl⟩
        go_wp2_with fail
        go_ret
        exact ⟨by rw [HR.out]; rfl, HK.out⟩
      · have yim : (im == 0) = false := by simpa using zim
        have HR : Hid (r = false) := Lib.hid (by rw [hr0]; simp [zim])
        clear hr0 zim
        go_enter Tryz.func122, Tryz.ntmps122
        go_upto_region 1 with fail
        obtain ⟨hV, hK⟩ := HN.out
        generalize w.alloc _ = w1 at *
        generalize w.heap.size = x at *
        obtain ⟨v0, v1, v2, v3, v4, v5⟩ := hV
        simp only at v0 v1 v2 v3 v4 v5
        have HK := Lib.hid hK
        clear hK HN
        go_wp2_with fail
        refine (HH.out _).mono ?_
        rintro e w' ⟨rfl, rfl⟩
        go_wp2_with fail
        refine (H68.out _).mono ?_
        rintro e w' ⟨rfl, rfl⟩
        go_wp2_with fail
        refine (H65.out _).mono ?_
        rintro e w' ⟨rfl, rfl⟩
        go_wp2_with fail
        refine (H66.out _).mono ?_
        rintro e w' ⟨rfl, rfl⟩
        go_wp2_with fail
        refine (H73.out _).mono ?_
        rintro e w' ⟨rfl, rfl⟩
        go_wp2_with fail
        go_ret
        exact ⟨by rw [HR.out]; rfl, HK.out⟩
    · have yb : (b == 0) = false := by simpa using zb
      have HR : Hid (r = false) := Lib.hid (by rw [hr0]; simp [zb])
      clear hr0 zb
      go_enter Tryz.func122, Tryz.ntmps122
      go_upto_region 1 with fail
      obtain ⟨hV, hK⟩ := HN.out
      generalize w.alloc _ = w1 at *
      generalize w.heap.size = x at *
      obtain ⟨v0, v1, v2, v3, v4, v5⟩ := hV
      simp only at v0 v1 v2 v3 v4 v5
      have HK := Lib.hid hK
      clear hK HN
      go_wp2_with fail
      refine (HH.out _).mono ?_
      rintro e w' ⟨rfl, rfl⟩
      go_wp2_with fail
      refine (H68.out _).mono ?_
      rintro e w' ⟨rfl, rfl⟩
      go_wp2_with fail
      refine (H65.out _).mono ?_
      rintro e w' ⟨rfl, rfl⟩
      go_wp2_with fail
      refine (H66.out _).mono ?_
      rintro e w' ⟨rfl, rfl⟩
      go_wp2_with fail
      go_ret
      exact ⟨by rw [HR.out]; rfl, HK.out⟩
  · by_cases zd : d = 0
    · have yd : (d == 0) = true := by simpa using zd
      have HZd := Lib.hid zd
      clear zd
      by_cases zim : im = 0
      · have yim : (im == 0) = true := by simpa using zim
        have HZim := Lib.hid zim
        clear zim
        have HR : Hid (r = true) := Lib.hid (by rw [hr0]; simp [HZd.out, HZim.out])
        clear hr0
        go_enter Tryz.func122, Tryz.ntmps122
        go_upto_region 1 with fail
        obtain ⟨hV, hK⟩ := HN.out
        generalize w.alloc _ = w1 at *
        generalize w.heap.size = x at *
        obtain ⟨v0, v1, v2, v3, v4, v5⟩ := hV
        simp only at v0 v1 v2 v3 v4 v5
        have HK := Lib.hid hK
        clear hK HN
        go_wp2_with fail
        refine (HH.out _).mono ?_
        rintro e w' ⟨rfl, rfl⟩
        go_wp2_with fail
        refine (H68.out _).mono ?_
        rintro e w' ⟨rfl, rfl⟩
        go_wp2_with fail
        refine (H65.out _).mono ?_
        rintro e w' ⟨rfl, rfl⟩
        go_wp2_with fail
        refine (H66.out _).mono ?_
        rintro e w' ⟨rfl, rfl⟩
        go_wp2_with fail
        refine (H73.out _).mono ?_
        rintro e w' ⟨rfl, rfl⟩
        go_wp2_with fail
        go_ret
        exact ⟨by rw [HR.out]; rfl, HK.out⟩
      · have yim : (im == 0) = false := by simpa using zim
        have HR : Hid (r = false) := Lib.hid (by rw [hr0]; simp [zim])
        clear hr0 zim
        go_enter Tryz.func122, Tryz.ntmps122
        go_upto_region 1 with fail
        obtain ⟨hV, hK⟩ := HN.out
        generalize w.alloc _ = w1 at *
        generalize w.heap.size = x at *
        obtain ⟨v0, v1, v2, v3, v4, v5⟩ := hV
        simp only at v0 v1 v2 v3 v4 v5
        have HK := Lib.hid hK
        clear hK HN
        go_wp2_with fail
        refine (HH.out _).mono ?_
        rintro e w' ⟨rfl, rfl⟩
        go_wp2_with fail
        refine (H68.out _).mono ?_
        rintro e w' ⟨rfl, rfl⟩
        go_wp2_with fail
        refine (H65.out _).mono ?_
        rintro e w' ⟨rfl, rfl⟩
        go_wp2_with fail
        refine (H66.out _).mono ?_
        rintro e w' ⟨rfl, rfl⟩
        go_wp2_with fail
        refine (H73.out _).mono ?_
        rintro e w' ⟨rfl, rfl⟩
        go_wp2_with fail
        go_ret
        exact ⟨by rw [HR.out]; rfl, HK.out⟩
    · have yd : (d == 0) = false := by simpa using zd
      have HR : Hid (r = false) := Lib.hid (by rw [hr0]; simp [zd])
      clear hr0 zd
      go_enter Tryz.func122, Tryz.ntmps122
      go_upto_region 1 with fail
      obtain ⟨hV, hK⟩ := HN.out
      generalize w.alloc _ = w1 at *
      generalize w.heap.size = x at *
      obtain ⟨v0, v1, v2, v3, v4, v5⟩ := hV
      simp only at v0 v1 v2 v3 v4 v5
      have HK := Lib.hid hK
      clear hK HN
      go_wp2_with fail
      refine (HH.out _).mono ?_
      rintro e w' ⟨rfl, rfl⟩
      go_wp2_with fail
      refine (H68.out _).mono ?_
      rintro e w' ⟨rfl, rfl⟩
      go_wp2_with fail
      go_ret
      exact ⟨by rw [HR.out]; rfl, HK.out⟩
  · have HR : Hid (r = true) := Lib.hid (by rw [hr0]; simp)
    clear hr0
    go_enter Tryz.func122, Tryz.ntmps122
    go_upto_region 1 with fail
    obtain ⟨hV, hK⟩ := HN.out
    generalize w.alloc _ = w1 at *
    generalize w.heap.size = x at *
    obtain ⟨v0, v1, v2, v3, v4, v5⟩ := hV
    simp only at v0 v1 v2 v3 v4 v5
    have HK := Lib.hid hK
    clear hK HN
    go_wp2_with fail
    refine (HH.out _).mono ?_
    rintro e w' ⟨rfl, rfl⟩
    go_wp2_with fail
    refine (H68.out _).mono ?_
    rintro e w' ⟨rfl, rfl⟩
    go_wp2_with fail
    refine (H65.out _).mono ?_
    rintro e w' ⟨rfl, rfl⟩
    go_wp2_with fail
    refine (H66.out _).mono ?_
    rintro e w' ⟨rfl, rfl⟩
    go_wp2_with fail
    refine (H73.out _).mono ?_
    rintro e w' ⟨rfl, rfl⟩
    go_wp2_with fail
    go_ret
    exact ⟨by rw [HR.out]; rfl, HK.out⟩
  · by_cases zd : d = 0
    · have yd : (d == 0) = true := by simpa using zd
      have HZd := Lib.hid zd
      clear zd
      by_cases zb : b = 0
      · have yb : (b == 0) = true := by simpa using zb
        have HZb := Lib.hid zb
        clear zb
        have HR : Hid (r = true) := Lib.hid (by rw [hr0]; simp [HZd.out, HZb.out])
        clear hr0
        go_enter Tryz.func122, Tryz.ntmps122
        go_upto_region 1 with fail
        obtain ⟨hV, hK⟩ := HN.out
        generalize w.alloc _ = w1 at *
        generalize w.heap.size = x at *
        obtain ⟨v0, v1, v2, v3, v4, v5⟩ := hV
        simp only at v0 v1 v2 v3 v4 v5
        have HK := Lib.hid hK
        clear hK HN
        go_wp2_with fail
        refine (HH.out _).mono ?_
        rintro e w' ⟨rfl, rfl⟩
        go_wp2_with fail
        refine (H68.out _).mono ?_
        rintro e w' ⟨rfl, rfl⟩
        go_wp2_with fail
        refine (H65.out _).mono ?_
        rintro e w' ⟨rfl, rfl⟩
        go_wp2_with fail
        refine (H66.out _).mono ?_
        rintro e w' ⟨rfl, rfl⟩
        go_wp2_with fail
        refine (H73.out _).mono ?_
        rintro e w' ⟨rfl, rfl⟩
        go_wp2_with fail
        go_ret
        exact ⟨by rw [HR.out]; rfl, HK.out⟩
      · have yb : (b == 0) = false := by simpa using zb
        have HR : Hid (r = false) := Lib.hid (by rw [hr0]; simp [zb])
        clear hr0 zb
        go_enter Tryz.func122, Tryz.ntmps122
        go_upto_region 1 with fail
        obtain ⟨hV, hK⟩ := HN.out
        generalize w.alloc _ = w1 at *
        generalize w.heap.size = x at *
        obtain ⟨v0, v1, v2, v3, v4, v5⟩ := hV
        simp only at v0 v1 v2 v3 v4 v5
        have HK := Lib.hid hK
        clear hK HN
        go_wp2_with fail
        refine (HH.out _).mono ?_
        rintro e w' ⟨rfl, rfl⟩
        go_wp2_with fail
        refine (H68.out _).mono ?_
        rintro e w' ⟨rfl, rfl⟩
        go_wp2_with fail
        refine (H65.out _).mono ?_
        rintro e w' ⟨rfl, rfl⟩
        go_wp2_with fail
        refine (H66.out _).mono ?_
        rintro e w' ⟨rfl, rfl⟩
        go_wp2_with fail
        go_ret
        exact ⟨by rw [HR.out]; rfl, HK.out⟩
    · have yd : (d == 0) = false := by simpa using zd
      have HR : Hid (r = false) := Lib.hid (by rw [hr0]; simp [zd])
      clear hr0 zd
      go_enter Tryz.func122, Tryz.ntmps122
      go_upto_region 1 with fail
      obtain ⟨hV, hK⟩ := HN.out
      generalize w.alloc _ = w1 at *
      generalize w.heap.size = x at *
      obtain ⟨v0, v1, v2, v3, v4, v5⟩ := hV
      simp only at v0 v1 v2 v3 v4 v5
      have HK := Lib.hid hK
      clear hK HN
      go_wp2_with fail
      refine (HH.out _).mono ?_
      rintro e w' ⟨rfl, rfl⟩
      go_wp2_with fail
      refine (H68.out _).mono ?_
      rintro e w' ⟨rfl, rfl⟩
      go_wp2_with fail
      go_ret
      exact ⟨by rw [HR.out]; rfl, HK.out⟩
  · by_cases zd : d = 0
    · have yd : (d == 0) = true := by simpa using zd
      have HZd := Lib.hid zd
      clear zd
      by_cases za : a = 0
      · have ya : (a == 0) = true := by simpa using za
        have HZa := Lib.hid za
        clear za
        by_cases zb : b = 0
        · have yb : (b == 0) = true := by simpa using zb
          have HZb := Lib.hid zb
          clear zb
          have HR : Hid (r = true) := Lib.hid (by rw [hr0]; simp [HZd.out, HZa.out, HZb.out])
          clear hr0
          go_enter Tryz.func122, Tryz.ntmps122
          go_upto_region 1 with fail
          obtain ⟨hV, hK⟩ := HN.out
          generalize w.alloc _ = w1 at *
          generalize w.heap.size = x at *
          obtain ⟨v0, v1, v2, v3, v4, v5⟩ := hV
          simp only at v0 v1 v2 v3 v4 v5
          have HK := Lib.hid hK
          clear hK HN
          go_wp2_with fail
          refine (HH.out _).mono ?_
          rintro e w' ⟨rfl, rfl⟩
          go_wp2_with fail
          refine (H68.out _).mono ?_
          rintro e w' ⟨rfl, rfl⟩
          go_wp2_with fail
          refine (H65.out _).mono ?_
          rintro e w' ⟨rfl, rfl⟩
          go_wp2_with fail
          refine (H66.out _).mono ?_
          rintro e w' ⟨rfl, rfl⟩
          go_wp2_with fail
          refine (H73.out _).mono ?_
          rintro e w' ⟨rfl, rfl⟩
          go_wp2_with fail
          go_ret
          exact ⟨by rw [HR.out]; rfl, HK.out⟩
        · have yb : (b == 0) = false := by simpa using zb
          have HR : Hid (r = false) := Lib.hid (by rw [hr0]; simp [zb])
          clear hr0 zb
          go_enter Tryz.func122, Tryz.ntmps122
          go_upto_region 1 with fail
          obtain ⟨hV, hK⟩ := HN.out
          generalize w.alloc _ = w1 at *
          generalize w.heap.size = x at *
          obtain ⟨v0, v1, v2, v3, v4, v5⟩ := hV
          simp only at v0 v1 v2 v3 v4 v5
          have HK := Lib.hid hK
          clear hK HN
          go_wp2_with fail
          refine (HH.out _).mono ?_
          rintro e w' ⟨rfl, rfl⟩
          go_wp2_with fail
          refine (H68.out _).mono ?_
          rintro e w' ⟨rfl, rfl⟩
          go_wp2_with fail
          refine (H65.out _).mono ?_
          rintro e w' ⟨rfl, rfl⟩
          go_wp2_with fail
          refine (H66.out _).mono ?_
          rintro e w' ⟨rfl, rfl⟩
          go_wp2_with fail
          go_ret
          exact ⟨by rw [HR.out]; rfl, HK.out⟩
      · have ya : (a == 0) = false := by simpa using za
        have HR : Hid (r = false) := Lib.hid (by rw [hr0]; simp [za])
        clear hr0 za
        go_enter Tryz.func122, Tryz.ntmps122
        go_upto_region 1 with fail
        obtain ⟨hV, hK⟩ := HN.out
        generalize w.alloc _ = w1 at *
        generalize w.heap.size = x at *
        obtain ⟨v0, v1, v2, v3, v4, v5⟩ := hV
        simp only at v0 v1 v2 v3 v4 v5
        have HK := Lib.hid hK
        clear hK HN
        go_wp2_with fail
        refine (HH.out _).mono ?_
        rintro e w' ⟨rfl, rfl⟩
        go_wp2_with fail
        refine (H68.out _).mono ?_
        rintro e w' ⟨rfl, rfl⟩
        go_wp2_with fail
        refine (H65.out _).mono ?_
        rintro e w' ⟨rfl, rfl⟩
        go_wp2_with fail
        go_ret
        exact ⟨by rw [HR.out]; rfl, HK.out⟩
    · have yd : (d == 0) = false := by simpa using zd
      have HR : Hid (r = false) := Lib.hid (by rw [hr0]; simp [zd])
      clear hr0 zd
      go_enter Tryz.func122, Tryz.ntmps122
      go_upto_region 1 with fail
      obtain ⟨hV, hK⟩ := HN.out
      generalize w.alloc _ = w1 at *
      generalize w.heap.size = x at *
      obtain ⟨v0, v1, v2, v3, v4, v5⟩ := hV
      simp only at v0 v1 v2 v3 v4 v5
      have HK := Lib.hid hK
      clear hK HN
      go_wp2_with fail
      refine (HH.out _).mono ?_
      rintro e w' ⟨rfl, rfl⟩
      go_wp2_with fail
      refine (H68.out _).mono ?_
      rintro e w' ⟨rfl, rfl⟩
      go_wp2_with fail
      go_ret
      exact ⟨by rw [HR.out]; rfl, HK.out⟩
  · by_cases zd : d = 0
    · have yd : (d == 0) = true := by simpa using zd
      have HZd := Lib.hid zd
      clear zd
      by_cases zb : b = 0
      · have yb : (b == 0) = true := by simpa using zb
        have HZb := Lib.hid zb
        clear zb
        by_cases zim : im = 0
        · have yim : (im == 0) = true := by simpa using zim
          have HZim := Lib.hid zim
          clear zim
          have HR : Hid (r = true) := Lib.hid (by rw [hr0]; simp [HZd.out, HZb.out, HZim.out])
          clear hr0
          go_enter Tryz.func122, Tryz.ntmps122
          go_upto_region 1 with fail
          obtain ⟨hV, hK⟩ := HN.out
          generalize w.alloc _ = w1 at *
          generalize w.heap.size = x at *
          obtain ⟨v0, v1, v2, v3, v4, v5⟩ := hV
          simp only at v0 v1 v2 v3 v4 v5
          have HK := Lib.hid hK
          clear hK HN
          go_wp2_with fail
          refine (HH.out _).mono ?_
          rintro e w' ⟨rfl, rfl⟩
          go_wp2_with fail
          refine (H68.out _).mono ?_
          rintro e w' ⟨rfl, rfl⟩
          go_wp2_with fail
          refine (H65.out _).mono ?_
          rintro e w' ⟨rfl, rfl⟩
          go_wp2_with fail
          refine (H66.out _).mono ?_
          rintro e w' ⟨rfl, rfl⟩
          go_wp2_with fail
          refine (H73.out _).mono ?_
          rintro e w' ⟨rfl, rfl⟩
          go_wp2_with fail
          go_ret
          exact ⟨by rw [HR.out]; rfl, HK.out⟩
        · have yim : (im == 0) = false := by simpa using zim
          have HR : Hid (r = false) := Lib.hid (by rw [hr0]; simp [zim])
          clear hr0 zim
          go_enter Tryz.func122, Tryz.ntmps122
          go_upto_region 1 with fail
          obtain ⟨hV, hK⟩ := HN.out
          generalize w.alloc _ = w1 at *
          generalize w.heap.size = x at *
          obtain ⟨v0, v1, v2, v3, v4, v5⟩ := hV
          simp only at v0 v1 v2 v3 v4 v5
          have HK := Lib.hid hK
          clear hK HN
          go_wp2_with fail
          refine (HH.out _).mono ?_
          rintro e w' ⟨rfl, rfl⟩
          go_wp2_with fail
          refine (H68.out _).mono ?_
          rintro e w' ⟨rfl, rfl⟩
          go_wp2_with fail
          refine (H65.out _).mono ?_
          rintro e w' ⟨rfl, rfl⟩
          go_wp2_with fail
          refine (H66.out _).mono ?_
          rintro e w' ⟨rfl, rfl⟩
          go_wp2_with fail
          refine (H73.out _).mono ?_
          rintro e w' ⟨rfl, rfl⟩
          go_wp2_with fail
          go_ret
          exact ⟨by rw [HR.out]; rfl, HK.out⟩
      · have yb : (b == 0) = false := by simpa using zb
        have HR : Hid (r = false) := Lib.hid (by rw [hr0]; simp [zb])
        clear hr0 zb
        go_enter Tryz.func122, Tryz.ntmps122
        go_upto_region 1 with fail
        obtain ⟨hV, hK⟩ := HN.out
        generalize w.alloc _ = w1 at *
        generalize w.heap.size = x at *
        obtain ⟨v0, v1, v2, v3, v4, v5⟩ := hV
        simp only at v0 v1 v2 v3 v4 v5
        have HK := Lib.hid hK
        clear hK HN
        go_wp2_with fail
        refine (HH.out _).mono ?_
        rintro e w' ⟨rfl, rfl⟩
        go_wp2_with fail
        refine (H68.out _).mono ?_
        rintro e w' ⟨rfl, rfl⟩
        go_wp2_with fail
        refine (H65.out _).mono ?_
        rintro e w' ⟨rfl, rfl⟩
        go_wp2_with fail
        refine (H66.out _).mono ?_
        rintro e w' ⟨rfl, rfl⟩
        go_wp2_with fail
        go_ret
        exact ⟨by rw [HR.out]; rfl, HK.out⟩
    · have yd : (d == 0) = false := by simpa using zd
      have HR : Hid (r = false) := Lib.hid (by rw [hr0]; simp [zd])
      clear hr0 zd
      go_enter Tryz.func122, Tryz.ntmps122
      go_upto_region 1 with fail
      obtain ⟨hV, hK⟩ := HN.out
      generalize w.alloc _ = w1 at *
      generalize w.heap.size = x at *
      obtain ⟨v0, v1, v2, v3, v4, v5⟩ := hV
      simp only at v0 v1 v2 v3 v4 v5
      have HK := Lib.hid hK
      clear hK HN
      go_wp2_with fail
      refine (HH.out _).mono ?_
      rintro e w' ⟨rfl, rfl⟩
      go_wp2_with fail
      refine (H68.out _).mono ?_
      rintro e w' ⟨rfl, rfl⟩
      go_wp2_with fail
      go_ret
      exact ⟨by rw [HR.out]; rfl, HK.out⟩
  · by_cases zim : im = 0
    · have yim : (im == 0) = true := by simpa using zim
      have HZim := Lib.hid zim
      clear zim
      have HR : Hid (r = true) := Lib.hid (by rw [hr0]; simp [HZim.out])
      clear hr0
      go_enter Tryz.func122, Tryz.ntmps122
      go_upto_region 1 with fail
      obtain ⟨hV, hK⟩ := HN.out
      generalize w.alloc _ = w1 at *
      generalize w.heap.size = x at *
      obtain ⟨v0, v1, v2, v3, v4, v5⟩ := hV
      simp only at v0 v1 v2 v3 v4 v5
      have HK := Lib.hid hK
      clear hK HN
      go_wp2_with fail
      refine (HH.out _).mono ?_
      rintro e w' ⟨rfl, rfl⟩
      go_wp2_with fail
      refine (H68.out _).mono ?_
      rintro e w' ⟨rfl, rfl⟩
      go_wp2_with fail
      refine (H65.out _).mono ?_
      rintro e w' ⟨rfl, rfl⟩
      go_wp2_with fail
      refine (H66.out _).mono ?_
      rintro e w' ⟨rfl, rfl⟩
      go_wp2_with fail
      refine (H73.out _).mono ?_
      rintro e w' ⟨rfl, rfl⟩
      go_wp2_with fail
      go_ret
      exact ⟨by rw [HR.out]; rfl, HK.out⟩
    · have yim : (im == 0) = false := by simpa using zim
      have HR : Hid (r = false) := Lib.hid (by rw [hr0]; simp [zim])
      clear hr0 zim
      go_enter Tryz.func122, Tryz.ntmps122
      go_upto_region 1 with fail
      obtain ⟨hV, hK⟩ := HN.out
      generalize w.alloc _ = w1 at *
      generalize w.heap.size = x at *
      obtain ⟨v0, v1, v2, v3, v4, v5⟩ := hV
      simp only at v0 v1 v2 v3 v4 v5
      have HK := Lib.hid hK
      clear hK HN
      go_wp2_with fail
      refine (HH.out _).mono ?_
      rintro e w' ⟨rfl, rfl⟩
      go_wp2_with fail
      refine (H68.out _).mono ?_
      rintro e w' ⟨rfl, rfl⟩
      go_wp2_with fail
      refine (H65.out _).mono ?_
      rintro e w' ⟨rfl, rfl⟩
      go_wp2_with fail
      refine (H66.out _).mono ?_
      rintro e w' ⟨rfl, rfl⟩
      go_wp2_with fail
      refine (H73.out _).mono ?_
      rintro e w' ⟨rfl, rfl⟩
      go_wp2_with fail
      go_ret
      exact ⟨by rw [HR.out]; rfl, HK.out⟩

/-- an error among those of a code, by its number -/
structure ErrsC (w : World) (ea : Nat → Addr) : Prop where
  bound : w.cell? ⟨2, 0, none⟩ = some (.iface 275 (.pointer (some (ea 2))))
  shape : w.cell? ⟨0, 0, none⟩ = some (.iface 275 (.pointer (some (ea 3))))
  kind : w.cell? ⟨5, 0, none⟩ = some (.iface 275 (.pointer (some (ea 4))))
  full : w.cell? ⟨3, 0, none⟩ = some (.iface 275 (.pointer (some (ea 8))))
theorem ErrsC.keep {S : Nat → Prop} {w w' : World} {ea : Nat → Addr} (E : ErrsC w ea) (k : Keeps S w w') (h : ¬ S 2 ∧ ¬ S 0 ∧ ¬ S 5 ∧ ¬ S 3) : ErrsC w' ea :=
  ⟨k.cell' E.bound h.1, k.cell' E.shape h.2.1, k.cell' E.kind h.2.2.1, k.cell' E.full h.2.2.2⟩
theorem ErrsC.quiet {w w' : World} {ea : Nat → Addr} (E : ErrsC w ea) (k : Keeps (fun _ => False) w w') : ErrsC w' ea := E.keep k ⟨fun h => h, fun h => h, fun h => h, fun h => h⟩
/-- an error's value: nil for 0 -/
def errOf0 (ea : Nat → Addr) (c : Nat) : Value := if c = 0 then .nilIface else errV ea c
theorem fields_none (c : Nat) (hc : c ≤ 27) : (fieldsB c).toList.isEmpty = (c == 0) := by
  have key : ∀ c : Fin 28, (fieldsB c.val).toList.isEmpty = (c.val == 0) := by decide +kernel
  exact key ⟨c, by omega⟩
set_option maxHeartbeats 4000000 in
set_option maxRecDepth 100000 in
theorem checkOp_any (o : Ir.Op) (many : Int) (w : World) (ea : Nat → Addr) (E : ErrsC w ea) :
    Calls Tryz.prog 82 #[.agg (opC o), .int .i64 many] w fun e w' => e = .returned (errOf0 ea (Ir.opErr o many)) ∧ Keeps (fun _ => False) w w' := by
  have HRG := Lib.hid (fun w => registers_any o w)
  have HBY := Lib.hid (fun w => bytes_any o w)
  have HBA := Lib.hid (fun w => bare_any o w)
  have HE := Lib.hid E
  obtain ⟨rg, hrg⟩ : ∃ r, Ir.regs o = r := ⟨_, rfl⟩
  obtain ⟨by_, hby⟩ : ∃ r, Ir.bytes o = r := ⟨_, rfl⟩
  obtain ⟨ba, hba⟩ : ∃ r, Ir.bare o = r := ⟨_, rfl⟩
  obtain ⟨r, hr⟩ : ∃ r, Ir.opErr o many = r := ⟨_, rfl⟩
  rw [hr]
  unfold Ir.opErr at hr
  rw [hrg, hby, hba] at hr
  rw [hrg] at HRG
  rw [hby] at HBY
  rw [hba] at HBA
  clear hrg hby hba E
  obtain ⟨k, d, a, b, im, t⟩ := o
  simp only [opC] at HRG HBY HBA hr ⊢
  have HN := Lib.hid (op_new w k d a b im t 100)
  have HH := Lib.hid (fun w => has_any k w)
  have hf := fields_none (Ir.kn k) (Ir.kn_le k)
  by_cases h0 : Ir.kn k = 0
  · rw [if_pos h0] at hr
    subst hr
    have hf' : (fieldsB (Ir.kn k)).toList.isEmpty = true := by rw [hf, h0]; rfl
    clear h0 hf
    generalize fieldsB (Ir.kn k) = fb at *
    go_enter Tryz.func82, Tryz.ntmps82
    go_upto_region 1 with fail
    obtain ⟨hV, hK⟩ := HN.out
    generalize w.alloc _ = w1 at *
    generalize w.heap.size = x at *
    have v0 := hV.v0
    have hg := (HE.out.quiet hK).kind
    go_wp2_with fail
    refine (HH.out _).mono ?_
    rintro e w' ⟨rfl, rfl⟩
    go_wp2_with fail
    go_ret
    exact ⟨rfl, hK⟩
  · rw [if_neg h0] at hr
    have hf' : (fieldsB (Ir.kn k)).toList.isEmpty = false := by rw [hf]; simpa using h0
    clear hf h0
    generalize fieldsB (Ir.kn k) = fb at *
    have HR := Lib.hid hr
    clear hr
    go_enter Tryz.func82, Tryz.ntmps82
    go_upto_region 1 with fail
    obtain ⟨hV, hK⟩ := HN.out
    generalize w.alloc _ = w1 at *
    generalize w.heap.size = x at *
    have HV := Lib.hid hV
    have HK := Lib.hid hK
    obtain ⟨v0, v1, v2, v3, v4, v5⟩ := hV
    simp only at v0 v1 v2 v3 v4 v5
    clear hK HN
    go_wp2_with fail
    refine (HH.out _).mono ?_
    rintro e w' ⟨rfl, rfl⟩
    go_upto_region 3 with fail
    go_cut [11] (fun s11 wx => s11 = .bool (!(rg && by_ && decide (0 ≤ t) && decide (t < many))) ∧ Keeps (fun _ => False) w' wx)
    case first =>
      go_wp2_with fail
      refine (HRG.out _).mono ?_
      rintro e w2 ⟨rfl, hk2⟩
      obtain ⟨u0, u1, u2, u3, u4, u5⟩ := HV.out.keep hk2 (fun h => h)
      simp only at u0 u1 u2 u3 u4 u5
      clear v0 v1 v2 v3 v4 v5
      have HK2 := Lib.hid hk2
      clear hk2
      cases rg
      · go_wp2_with fail
        go_meet
        exact ⟨rfl, HK2.out⟩
      go_wp2_with fail
      refine (HBY.out _).mono ?_
      rintro e w3 ⟨rfl, hk3⟩
      have HV2 := Lib.hid (show OpAt w3 x ⟨k, d, a, b, im, t⟩ from (HV.out.keep HK2.out (fun h => h)).keep hk3 (fun h => h))
      have HK3 := Lib.hid (HK2.out.trans hk3 (fun _ _ h => h))
      clear u0 u1 u2 u3 u4 u5 hk3
      have v5 := HV2.out.v5
      simp only at v5
      cases by_
      · go_wp2_with fail
        go_meet
        exact ⟨rfl, HK3.out⟩
      by_cases g1 : t < 0
      · have g1' : decide (t < 0) = true := decide_eq_true g1
        have HX := Lib.hid (show decide (0 ≤ t) = false from decide_eq_false (by omega))
        clear g1
        go_wp2_with fail
        go_meet
        exact ⟨by rw [HX.out]; rfl, HK3.out⟩
      have g1' : decide (t < 0) = false := decide_eq_false g1
      have HX := Lib.hid (show decide (0 ≤ t) = true from decide_eq_true (by omega))
      clear g1
      by_cases g2 : many ≤ t
      · have g2' : decide (many ≤ t) = true := decide_eq_true g2
        have HY := Lib.hid (show decide (t < many) = false from decide_eq_false (by omega))
        clear g2
        go_wp2_with fail
        go_meet
        exact ⟨by rw [HX.out, HY.out]; rfl, HK3.out⟩
      · have g2' : decide (many ≤ t) = false := decide_eq_false g2
        have HY := Lib.hid (show decide (t < many) = true from decide_eq_true (by omega))
        clear g2
        go_wp2_with fail
        go_meet
        exact ⟨by rw [HX.out, HY.out]; rfl, HK3.out⟩
    case rest =>
      obtain ⟨rfl, hk4⟩ := hcut
      have HK4 := Lib.hid (HK.out.trans hk4 (fun _ _ h => h))
      obtain ⟨u0, u1, u2, u3, u4, u5⟩ := HV.out.keep hk4 (fun h => h)
      simp only at u0 u1 u2 u3 u4 u5
      clear v0 v1 v2 v3 v4 v5 hk4
      have hgb := (HE.out.quiet HK4.out).bound
      have hr := HR.out
      generalize (rg && by_ && decide (0 ≤ t) && decide (t < many)) = q at *
      cases q
      · rw [if_pos rfl] at hr
        subst hr
        go_wp2_with fail
        go_ret
        exact ⟨rfl, HK4.out⟩
      · rw [if_neg (by decide)] at hr
        have HR2 := Lib.hid hr
        clear hr hgb
        go_wp2_with fail
        refine (HBA.out _).mono ?_
        rintro e w3 ⟨rfl, hk5⟩
        have HK5 := Lib.hid (HK4.out.trans hk5 (fun _ _ h => h))
        have hgs := (HE.out.quiet HK5.out).shape
        clear u0 u1 u2 u3 u4 u5 hk5
        have hr := HR2.out
        cases ba
        · rw [if_pos rfl] at hr
          subst hr
          go_wp2_with fail
          go_ret
          exact ⟨rfl, HK5.out⟩
        · rw [if_neg (by decide)] at hr
          subst hr
          go_wp2_with fail
          go_ret
          exact ⟨rfl, HK5.out⟩
end Go.Proofs.YtknhfobcejpmeaaGreatDoor
