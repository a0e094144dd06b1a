
/- The walks of ir.sums, ir.Value. -/
import Derived.Test.YtgmbladcoikffaaGreatDoorSumsD
import Derived.Test.YtgmbladcoikffaaGreatDoorFacts
namespace Go.Proofs.YtgmbladcoikffaaGreatDoor
open Go.RowKit Go.Deep
set_option linter.unusedVariables false
set_option linter.unusedSimpArgs false

set_option maxHeartbeats 8000000 in
set_option maxRecDepth 100000 in
theorem sums_any (k : ByteArray) (a b : Int) (w : World) (ha : 0 ≤ a ∧ a < 4294967296) (hb : 0 ≤ b ∧ b < 4294967296) :
    Calls Tryz.prog 134 #[.string k, .int .u32 a, .int .u32 b] w fun e w' => e = .returned (.int .u32 (Ir.sumsV (Ir.kn k) a b)) ∧ w' = w := by
  have HS := Lib.hid (fun q w => shift_any q a b w ha hb)
  have HM := Lib.hid (fun s w => mul_any a b s w ha hb)
  have HL := Lib.hid (fun s w => less_any a b s w ha hb)
  have hle := Ir.kn_le k
  have HK := fun c h => Ir.kinds k c h
  generalize Ir.kn k = c at *
  replace HK := HK c rfl
  obtain ⟨r, hr⟩ : ∃ r, Ir.sumsV c a b = r := ⟨_, rfl⟩
  rw [hr]
  have HR := Lib.hid hr
  clear hr ha hb
  have h : c = 0 ∨ c = 1 ∨ c = 2 ∨ c = 3 ∨ c = 4 ∨ c = 5 ∨ c = 6 ∨ c = 7 ∨ c = 8 ∨ c = 9 ∨ c = 10 ∨ c = 11 ∨ c = 12 ∨ c = 13 ∨ c = 14 ∨ c = 15 ∨ c = 16 ∨ c = 17 ∨ c = 18 ∨ c = 19 ∨ c = 20 ∨ c = 21 ∨ c = 22 ∨ c = 23 ∨ c = 24 ∨ c = 25 ∨ c = 26 ∨ c = 27 := by omega
  rcases h with rfl | rfl | rfl | rfl | rfl | rfl | rfl | rfl | rfl | rfl | rfl | rfl | rfl | rfl | rfl | rfl | rfl | rfl | rfl | rfl | rfl | rfl | rfl | rfl | rfl | rfl | rfl | rfl
  all_goals
    simp only [Nat.reduceBEq] at HK
    obtain ⟨k1, k2, k3, k4, k5, k6, k7, k8, k9, k10, k11, k12, k13, k14, k15, k16, k17, k18, k19, k20, k21, k22, k23, k24, k25, k26, k27⟩ := HK
    clear hle
    go_enter Tryz.func134, Tryz.ntmps134
    go_wp2_with (first
      | (go_at_call 155; refine (HS.out _ _).mono ?_; rintro e w' ⟨rfl, rfl⟩)
      | (go_at_call 156; refine (HM.out _ _).mono ?_; rintro e w' ⟨rfl, rfl⟩)
      | (go_at_call 157; refine (HL.out _ _).mono ?_; rintro e w' ⟨rfl, rfl⟩))
    all_goals (
      go_ret
      first
        | exact ⟨by rw [← HR.out]; rfl, rfl⟩
        | (rename_i hlt; exact ⟨by rw [← HR.out]; simp [Ir.sumsV, hlt], rfl⟩)
        | (trace_state; fail))
theorem value_c (c : Nat) (a b d : Int) : Ir.value c a b d = if Ir.isDiv c = true then (if b = 0 then d else if (c == 24 || c == 26) = true then Wd.quo a b (c == 24 || c == 25) else Wd.rst a b (c == 24 || c == 25)) else Ir.sumsV c a b := by
  unfold Ir.value
  simp only [nat_beq, Bool.decide_or, Bool.or_eq_true, decide_eq_true_eq]
set_option maxHeartbeats 4000000 in
set_option maxRecDepth 100000 in
theorem value_any (k : ByteArray) (a b d : Int) (w : World) (ha : 0 ≤ a ∧ a < 4294967296) (hb : 0 ≤ b ∧ b < 4294967296) :
    Calls Tryz.prog 93 #[.string k, .int .u32 a, .int .u32 b, .int .u32 d] w fun e w' => e = .returned (.int .u32 (Ir.value (Ir.kn k) a b d)) ∧ Keeps (fun _ => False) w w' := by
  have HD := Lib.hid (fun w => div_any k w)
  have HS := Lib.hid (fun w => sums_any k a b w ha hb)
  have HW := Lib.hid (fun s w => wdiv_any a b s w ha hb)
  have h24 : (k.toList == [113, 117, 111]) = (Ir.kn k == 24) := Ir.eq_lit2 k 24 (by omega)
  have h25 : (k.toList == [114, 101, 109]) = (Ir.kn k == 25) := Ir.eq_lit2 k 25 (by omega)
  have h26 : (k.toList == [113, 117, 111, 117]) = (Ir.kn k == 26) := Ir.eq_lit2 k 26 (by omega)
  have hr := value_c (Ir.kn k) a b d
  obtain ⟨r, hr0⟩ : ∃ r, Ir.value (Ir.kn k) a b d = r := ⟨_, rfl⟩
  rw [hr0] at hr ⊢
  clear hr0 ha hb
  generalize Ir.isDiv (Ir.kn k) = pd at *
  generalize (Ir.kn k == 24) = p24 at *
  generalize (Ir.kn k == 25) = p25 at *
  generalize (Ir.kn k == 26) = p26 at *
  generalize Ir.sumsV (Ir.kn k) a b = sv at *
  cases pd
  · have HR := Lib.hid (show r = sv from hr)
    clear hr h24 h25 h26
    go_enter Tryz.func93, Tryz.ntmps93
    go_wp2_with fail
    refine (HD.out _).mono ?_
    rintro e w' ⟨rfl, rfl⟩
    go_wp2_with fail
    refine (HS.out _).mono ?_
    rintro e w' ⟨rfl, rfl⟩
    go_wp2_with fail
    go_ret
    exact ⟨by rw [HR.out]; rfl, Keeps.refl _ _⟩
  · have HR := Lib.hid hr
    clear hr
    by_cases hb0 : b = 0
    · have t0 : (b != 0) = false := by simp [hb0]
      have HR2 := Lib.hid (show r = d by rw [HR.out, if_pos rfl, if_pos hb0])
      clear hb0
      cases p24 <;> cases p25
      all_goals
        go_enter Tryz.func93, Tryz.ntmps93
        go_wp2_with fail
        refine (HD.out _).mono ?_
        rintro e w' ⟨rfl, rfl⟩
        go_wp2_with fail
        refine (HW.out _ _).mono ?_
        rintro e w' ⟨rfl, q, rfl⟩
        have HK := Lib.hid ((Keeps.refl (fun _ => False) w').drewN q)
        generalize w'.drewN q = w3 at *
        go_wp2_with fail
        go_ret
        exact ⟨by rw [HR2.out]; rfl, HK.out⟩
    · have t0 : (b != 0) = true := by simp [hb0]
      have HR2 := Lib.hid (show r = if (p24 || p26) = true then Wd.quo a b (p24 || p25) else Wd.rst a b (p24 || p25) by rw [HR.out, if_pos rfl, if_neg hb0])
      clear hb0 HR
      cases p24 <;> cases p25 <;> cases p26
      all_goals
        go_enter Tryz.func93, Tryz.ntmps93
        go_wp2_with fail
        refine (HD.out _).mono ?_
        rintro e w' ⟨rfl, rfl⟩
        go_wp2_with fail
        refine (HW.out _ _).mono ?_
        rintro e w' ⟨rfl, q, rfl⟩
        have HK := Lib.hid ((Keeps.refl (fun _ => False) w').drewN q)
        generalize w'.drewN q = w3 at *
        go_wp2_with fail
        go_ret
        exact ⟨by rw [HR2.out]; rfl, HK.out⟩
end Go.Proofs.YtgmbladcoikffaaGreatDoor
