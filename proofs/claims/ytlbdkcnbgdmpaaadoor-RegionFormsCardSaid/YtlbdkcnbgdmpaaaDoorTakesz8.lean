import Derived.Test.YtlbdkcnbgdmpaaaDoorTakesz7
import Derived.StillTailTactics
import Derived.Test.YtlbdkcnbgdmpaaaDoorTakesz0
import Derived.Laws.BitsAllLaws

/- CpuSum1 -/
/- The walks of cpu.sum, one an operation. -/
namespace Go.Proofs.YtlbdkcnbgdmpaaaDoor
open Go.RowKit Go.Deep
set_option linter.unusedVariables false

set_option maxRecDepth 100000 in
set_option maxHeartbeats 2000000 in
theorem sum_19 (x sb b : Nat) (S T D imm nx : Int) (br : Bool) (s : Cp.St) (w : World) (X : XAt w x sb b ⟨19, S, T, D, imm⟩ nx br) (hS : StAt w sb s) (hS5 : 0 ≤ S ∧ S < 32) (hT5 : 0 ≤ T ∧ T < 32) (hD5 : 0 ≤ D ∧ D < 32) (him : 0 ≤ imm ∧ imm < 4294967296) (a bb : Int)
    (ha : 0 ≤ a ∧ a < 4294967296) (hb : 0 ≤ bb ∧ bb < 4294967296) (hav : s.R S.toNat = a) (hbv : s.R T.toNat = bb) (hxs : x ≠ sb) (r : Int × Cp.St) (HR : Hid (r = Cp.sumAt ⟨19, S, T, D, imm⟩ s a bb)) :
    Calls Tryd.prog 78 #[.pointer (some ⟨x, 0, none⟩)] w fun e w' => AluOk w w' sb r e := by
  have HAV := Lib.hid hav
  have HBV := Lib.hid hbv
  have HS := Lib.hid hS
  have HX := Lib.hid X
  obtain ⟨c0, _, c2, c3, c4, _, _, _, _⟩ := X.cells
  clear X hS hav hbv
  go_enter Tryd.func78, Tryd.ntmps78
  go_upto_region 1 with fail
  go_quiet (first | (go_at_call 83; with_reducible exact v_q x sb s S a _ _ c0 HS.out hS5 HAV.out) | (go_at_call 83; with_reducible exact v_q x sb s T bb _ _ c0 HS.out hT5 HBV.out))
  have HX1 := Lib.hid (show XAt (w.drewN nq) x sb b ⟨19, S, T, D, imm⟩ nx br from HX.out)
  have HS1 := Lib.hid (show StAt (w.drewN nq) sb s from HS.out)
  have HK1 := Lib.hid ((Keeps.refl (· = sb) w).drewN nq)
  clear c0 c2 c3 c4 HAV HBV HS HX
  generalize w.drewN nq = w1 at *
  obtain ⟨c0, _, c2, _, _, c5, c6, _, _⟩ := HX1.out.cells
  cases hov : Wd.isS (Wd.sg a + Wd.sg bb)
  · rw [show Cp.sumAt _ s a bb = (12, s) by unfold Cp.sumAt Cp.over; simp [hov]] at HR
    go_wp2_with (first
      | (go_at_call 94; refine (shift_any _ _ _ _ (by assumption) (by assumption)).mono ?_; rintro e w' ⟨rfl, rfl⟩)
      | (go_at_call 91; refine (add_any a bb _ ha hb).mono ?_; rintro e w' ⟨rfl, rfl⟩)
      | (go_at_call 95; refine (sub_any a bb _ ha hb).mono ?_; rintro e w' ⟨rfl, rfl⟩)
      | (go_at_call 93; refine (less_any a bb _ _ ha hb).mono ?_; rintro e w' ⟨rfl, rfl⟩)
      | (go_at_call 92; refine (bit_any _ _).mono ?_; rintro e w' ⟨rfl, rfl⟩)
      | (go_at_call 85; refine (set_any x sb s D _ _ c0 HS1.out hD5).mono ?_; rintro e w2 ⟨rfl, hS2, hk2⟩; have HS2 := Lib.hid hS2; have HK2 := Lib.hid hk2; clear hS2 hk2))
    go_ret
    exact ⟨by rw [HR.out]; rfl, by rw [HR.out]; exact HS1.out, HK1.out⟩
  · rw [show Cp.sumAt _ s a bb = (-1, Cp.setR s D (Cp.sumV _ a bb imm)) by unfold Cp.sumAt Cp.over; simp [hov]; rfl] at HR
    go_wp2_with (first
      | (go_at_call 94; refine (shift_any _ _ _ _ (by assumption) (by assumption)).mono ?_; rintro e w' ⟨rfl, rfl⟩)
      | (go_at_call 91; refine (add_any a bb _ ha hb).mono ?_; rintro e w' ⟨rfl, rfl⟩)
      | (go_at_call 95; refine (sub_any a bb _ ha hb).mono ?_; rintro e w' ⟨rfl, rfl⟩)
      | (go_at_call 93; refine (less_any a bb _ _ ha hb).mono ?_; rintro e w' ⟨rfl, rfl⟩)
      | (go_at_call 92; refine (bit_any _ _).mono ?_; rintro e w' ⟨rfl, rfl⟩)
      | (go_at_call 85; refine (set_any x sb s D _ _ c0 HS1.out hD5).mono ?_; rintro e w2 ⟨rfl, hS2, hk2⟩; have HS2 := Lib.hid hS2; have HK2 := Lib.hid hk2; clear hS2 hk2))
    go_ret
    exact ⟨by rw [HR.out]; rfl, by rw [HR.out]; exact HS2.out, HK1.out.trans HK2.out (fun _ _ h => h)⟩

set_option maxRecDepth 100000 in
set_option maxHeartbeats 2000000 in
theorem sum_20 (x sb b : Nat) (S T D imm nx : Int) (br : Bool) (s : Cp.St) (w : World) (X : XAt w x sb b ⟨20, S, T, D, imm⟩ nx br) (hS : StAt w sb s) (hS5 : 0 ≤ S ∧ S < 32) (hT5 : 0 ≤ T ∧ T < 32) (hD5 : 0 ≤ D ∧ D < 32) (him : 0 ≤ imm ∧ imm < 4294967296) (a bb : Int)
    (ha : 0 ≤ a ∧ a < 4294967296) (hb : 0 ≤ bb ∧ bb < 4294967296) (hav : s.R S.toNat = a) (hbv : s.R T.toNat = bb) (hxs : x ≠ sb) (r : Int × Cp.St) (HR : Hid (r = Cp.sumAt ⟨20, S, T, D, imm⟩ s a bb)) :
    Calls Tryd.prog 78 #[.pointer (some ⟨x, 0, none⟩)] w fun e w' => AluOk w w' sb r e := by
  have HAV := Lib.hid hav
  have HBV := Lib.hid hbv
  have HS := Lib.hid hS
  have HX := Lib.hid X
  obtain ⟨c0, _, c2, c3, c4, _, _, _, _⟩ := X.cells
  clear X hS hav hbv
  go_enter Tryd.func78, Tryd.ntmps78
  go_upto_region 1 with fail
  go_quiet (first | (go_at_call 83; with_reducible exact v_q x sb s S a _ _ c0 HS.out hS5 HAV.out) | (go_at_call 83; with_reducible exact v_q x sb s T bb _ _ c0 HS.out hT5 HBV.out))
  have HX1 := Lib.hid (show XAt (w.drewN nq) x sb b ⟨20, S, T, D, imm⟩ nx br from HX.out)
  have HS1 := Lib.hid (show StAt (w.drewN nq) sb s from HS.out)
  have HK1 := Lib.hid ((Keeps.refl (· = sb) w).drewN nq)
  clear c0 c2 c3 c4 HAV HBV HS HX
  generalize w.drewN nq = w1 at *
  obtain ⟨c0, _, c2, _, _, c5, c6, _, _⟩ := HX1.out.cells
  go_wp2_with (first
      | (go_at_call 94; refine (shift_any _ _ _ _ (by assumption) (by assumption)).mono ?_; rintro e w' ⟨rfl, rfl⟩)
      | (go_at_call 91; refine (add_any a bb _ ha hb).mono ?_; rintro e w' ⟨rfl, rfl⟩)
      | (go_at_call 95; refine (sub_any a bb _ ha hb).mono ?_; rintro e w' ⟨rfl, rfl⟩)
      | (go_at_call 93; refine (less_any a bb _ _ ha hb).mono ?_; rintro e w' ⟨rfl, rfl⟩)
      | (go_at_call 92; refine (bit_any _ _).mono ?_; rintro e w' ⟨rfl, rfl⟩)
      | (go_at_call 85; refine (set_any x sb s D _ _ c0 HS1.out hD5).mono ?_; rintro e w2 ⟨rfl, hS2, hk2⟩; have HS2 := Lib.hid hS2; have HK2 := Lib.hid hk2; clear hS2 hk2))
  go_ret
  exact ⟨by rw [HR.out]; rfl, by rw [HR.out]; exact HS2.out, HK1.out.trans HK2.out (fun _ _ h => h)⟩

set_option maxRecDepth 100000 in
set_option maxHeartbeats 2000000 in
theorem sum_21 (x sb b : Nat) (S T D imm nx : Int) (br : Bool) (s : Cp.St) (w : World) (X : XAt w x sb b ⟨21, S, T, D, imm⟩ nx br) (hS : StAt w sb s) (hS5 : 0 ≤ S ∧ S < 32) (hT5 : 0 ≤ T ∧ T < 32) (hD5 : 0 ≤ D ∧ D < 32) (him : 0 ≤ imm ∧ imm < 4294967296) (a bb : Int)
    (ha : 0 ≤ a ∧ a < 4294967296) (hb : 0 ≤ bb ∧ bb < 4294967296) (hav : s.R S.toNat = a) (hbv : s.R T.toNat = bb) (hxs : x ≠ sb) (r : Int × Cp.St) (HR : Hid (r = Cp.sumAt ⟨21, S, T, D, imm⟩ s a bb)) :
    Calls Tryd.prog 78 #[.pointer (some ⟨x, 0, none⟩)] w fun e w' => AluOk w w' sb r e := by
  have HAV := Lib.hid hav
  have HBV := Lib.hid hbv
  have HS := Lib.hid hS
  have HX := Lib.hid X
  obtain ⟨c0, _, c2, c3, c4, _, _, _, _⟩ := X.cells
  clear X hS hav hbv
  go_enter Tryd.func78, Tryd.ntmps78
  go_upto_region 1 with fail
  go_quiet (first | (go_at_call 83; with_reducible exact v_q x sb s S a _ _ c0 HS.out hS5 HAV.out) | (go_at_call 83; with_reducible exact v_q x sb s T bb _ _ c0 HS.out hT5 HBV.out))
  have HX1 := Lib.hid (show XAt (w.drewN nq) x sb b ⟨21, S, T, D, imm⟩ nx br from HX.out)
  have HS1 := Lib.hid (show StAt (w.drewN nq) sb s from HS.out)
  have HK1 := Lib.hid ((Keeps.refl (· = sb) w).drewN nq)
  clear c0 c2 c3 c4 HAV HBV HS HX
  generalize w.drewN nq = w1 at *
  obtain ⟨c0, _, c2, _, _, c5, c6, _, _⟩ := HX1.out.cells
  cases hov : Wd.isS (Wd.sg a - Wd.sg bb)
  · rw [show Cp.sumAt _ s a bb = (12, s) by unfold Cp.sumAt Cp.over; simp [hov]] at HR
    go_wp2_with (first
      | (go_at_call 94; refine (shift_any _ _ _ _ (by assumption) (by assumption)).mono ?_; rintro e w' ⟨rfl, rfl⟩)
      | (go_at_call 91; refine (add_any a bb _ ha hb).mono ?_; rintro e w' ⟨rfl, rfl⟩)
      | (go_at_call 95; refine (sub_any a bb _ ha hb).mono ?_; rintro e w' ⟨rfl, rfl⟩)
      | (go_at_call 93; refine (less_any a bb _ _ ha hb).mono ?_; rintro e w' ⟨rfl, rfl⟩)
      | (go_at_call 92; refine (bit_any _ _).mono ?_; rintro e w' ⟨rfl, rfl⟩)
      | (go_at_call 85; refine (set_any x sb s D _ _ c0 HS1.out hD5).mono ?_; rintro e w2 ⟨rfl, hS2, hk2⟩; have HS2 := Lib.hid hS2; have HK2 := Lib.hid hk2; clear hS2 hk2))
    go_ret
    exact ⟨by rw [HR.out]; rfl, by rw [HR.out]; exact HS1.out, HK1.out⟩
  · rw [show Cp.sumAt _ s a bb = (-1, Cp.setR s D (Cp.sumV _ a bb imm)) by unfold Cp.sumAt Cp.over; simp [hov]; rfl] at HR
    go_wp2_with (first
      | (go_at_call 94; refine (shift_any _ _ _ _ (by assumption) (by assumption)).mono ?_; rintro e w' ⟨rfl, rfl⟩)
      | (go_at_call 91; refine (add_any a bb _ ha hb).mono ?_; rintro e w' ⟨rfl, rfl⟩)
      | (go_at_call 95; refine (sub_any a bb _ ha hb).mono ?_; rintro e w' ⟨rfl, rfl⟩)
      | (go_at_call 93; refine (less_any a bb _ _ ha hb).mono ?_; rintro e w' ⟨rfl, rfl⟩)
      | (go_at_call 92; refine (bit_any _ _).mono ?_; rintro e w' ⟨rfl, rfl⟩)
      | (go_at_call 85; refine (set_any x sb s D _ _ c0 HS1.out hD5).mono ?_; rintro e w2 ⟨rfl, hS2, hk2⟩; have HS2 := Lib.hid hS2; have HK2 := Lib.hid hk2; clear hS2 hk2))
    go_ret
    exact ⟨by rw [HR.out]; rfl, by rw [HR.out]; exact HS2.out, HK1.out.trans HK2.out (fun _ _ h => h)⟩

set_option maxRecDepth 100000 in
set_option maxHeartbeats 2000000 in
theorem sum_22 (x sb b : Nat) (S T D imm nx : Int) (br : Bool) (s : Cp.St) (w : World) (X : XAt w x sb b ⟨22, S, T, D, imm⟩ nx br) (hS : StAt w sb s) (hS5 : 0 ≤ S ∧ S < 32) (hT5 : 0 ≤ T ∧ T < 32) (hD5 : 0 ≤ D ∧ D < 32) (him : 0 ≤ imm ∧ imm < 4294967296) (a bb : Int)
    (ha : 0 ≤ a ∧ a < 4294967296) (hb : 0 ≤ bb ∧ bb < 4294967296) (hav : s.R S.toNat = a) (hbv : s.R T.toNat = bb) (hxs : x ≠ sb) (r : Int × Cp.St) (HR : Hid (r = Cp.sumAt ⟨22, S, T, D, imm⟩ s a bb)) :
    Calls Tryd.prog 78 #[.pointer (some ⟨x, 0, none⟩)] w fun e w' => AluOk w w' sb r e := by
  have HAV := Lib.hid hav
  have HBV := Lib.hid hbv
  have HS := Lib.hid hS
  have HX := Lib.hid X
  obtain ⟨c0, _, c2, c3, c4, _, _, _, _⟩ := X.cells
  clear X hS hav hbv
  go_enter Tryd.func78, Tryd.ntmps78
  go_upto_region 1 with fail
  go_quiet (first | (go_at_call 83; with_reducible exact v_q x sb s S a _ _ c0 HS.out hS5 HAV.out) | (go_at_call 83; with_reducible exact v_q x sb s T bb _ _ c0 HS.out hT5 HBV.out))
  have HX1 := Lib.hid (show XAt (w.drewN nq) x sb b ⟨22, S, T, D, imm⟩ nx br from HX.out)
  have HS1 := Lib.hid (show StAt (w.drewN nq) sb s from HS.out)
  have HK1 := Lib.hid ((Keeps.refl (· = sb) w).drewN nq)
  clear c0 c2 c3 c4 HAV HBV HS HX
  generalize w.drewN nq = w1 at *
  obtain ⟨c0, _, c2, _, _, c5, c6, _, _⟩ := HX1.out.cells
  go_wp2_with (first
      | (go_at_call 94; refine (shift_any _ _ _ _ (by assumption) (by assumption)).mono ?_; rintro e w' ⟨rfl, rfl⟩)
      | (go_at_call 91; refine (add_any a bb _ ha hb).mono ?_; rintro e w' ⟨rfl, rfl⟩)
      | (go_at_call 95; refine (sub_any a bb _ ha hb).mono ?_; rintro e w' ⟨rfl, rfl⟩)
      | (go_at_call 93; refine (less_any a bb _ _ ha hb).mono ?_; rintro e w' ⟨rfl, rfl⟩)
      | (go_at_call 92; refine (bit_any _ _).mono ?_; rintro e w' ⟨rfl, rfl⟩)
      | (go_at_call 85; refine (set_any x sb s D _ _ c0 HS1.out hD5).mono ?_; rintro e w2 ⟨rfl, hS2, hk2⟩; have HS2 := Lib.hid hS2; have HK2 := Lib.hid hk2; clear hS2 hk2))
  go_ret
  exact ⟨by rw [HR.out]; rfl, by rw [HR.out]; exact HS2.out, HK1.out.trans HK2.out (fun _ _ h => h)⟩

set_option maxRecDepth 100000 in
set_option maxHeartbeats 2000000 in
theorem sum_23 (x sb b : Nat) (S T D imm nx : Int) (br : Bool) (s : Cp.St) (w : World) (X : XAt w x sb b ⟨23, S, T, D, imm⟩ nx br) (hS : StAt w sb s) (hS5 : 0 ≤ S ∧ S < 32) (hT5 : 0 ≤ T ∧ T < 32) (hD5 : 0 ≤ D ∧ D < 32) (him : 0 ≤ imm ∧ imm < 4294967296) (a bb : Int)
    (ha : 0 ≤ a ∧ a < 4294967296) (hb : 0 ≤ bb ∧ bb < 4294967296) (hav : s.R S.toNat = a) (hbv : s.R T.toNat = bb) (hxs : x ≠ sb) (r : Int × Cp.St) (HR : Hid (r = Cp.sumAt ⟨23, S, T, D, imm⟩ s a bb)) :
    Calls Tryd.prog 78 #[.pointer (some ⟨x, 0, none⟩)] w fun e w' => AluOk w w' sb r e := by
  have HAV := Lib.hid hav
  have HBV := Lib.hid hbv
  have HS := Lib.hid hS
  have HX := Lib.hid X
  obtain ⟨c0, _, c2, c3, c4, _, _, _, _⟩ := X.cells
  clear X hS hav hbv
  go_enter Tryd.func78, Tryd.ntmps78
  go_upto_region 1 with fail
  go_quiet (first | (go_at_call 83; with_reducible exact v_q x sb s S a _ _ c0 HS.out hS5 HAV.out) | (go_at_call 83; with_reducible exact v_q x sb s T bb _ _ c0 HS.out hT5 HBV.out))
  have HX1 := Lib.hid (show XAt (w.drewN nq) x sb b ⟨23, S, T, D, imm⟩ nx br from HX.out)
  have HS1 := Lib.hid (show StAt (w.drewN nq) sb s from HS.out)
  have HK1 := Lib.hid ((Keeps.refl (· = sb) w).drewN nq)
  clear c0 c2 c3 c4 HAV HBV HS HX
  generalize w.drewN nq = w1 at *
  obtain ⟨c0, _, c2, _, _, c5, c6, _, _⟩ := HX1.out.cells
  go_wp2_with (first
      | (go_at_call 94; refine (shift_any _ _ _ _ (by assumption) (by assumption)).mono ?_; rintro e w' ⟨rfl, rfl⟩)
      | (go_at_call 91; refine (add_any a bb _ ha hb).mono ?_; rintro e w' ⟨rfl, rfl⟩)
      | (go_at_call 95; refine (sub_any a bb _ ha hb).mono ?_; rintro e w' ⟨rfl, rfl⟩)
      | (go_at_call 93; refine (less_any a bb _ _ ha hb).mono ?_; rintro e w' ⟨rfl, rfl⟩)
      | (go_at_call 92; refine (bit_any _ _).mono ?_; rintro e w' ⟨rfl, rfl⟩)
      | (go_at_call 85; refine (set_any x sb s D _ _ c0 HS1.out hD5).mono ?_; rintro e w2 ⟨rfl, hS2, hk2⟩; have HS2 := Lib.hid hS2; have HK2 := Lib.hid hk2; clear hS2 hk2))
  go_ret
  exact ⟨by rw [HR.out]; rfl, by rw [HR.out]; exact HS2.out, HK1.out.trans HK2.out (fun _ _ h => h)⟩

set_option maxRecDepth 100000 in
set_option maxHeartbeats 2000000 in
theorem sum_24 (x sb b : Nat) (S T D imm nx : Int) (br : Bool) (s : Cp.St) (w : World) (X : XAt w x sb b ⟨24, S, T, D, imm⟩ nx br) (hS : StAt w sb s) (hS5 : 0 ≤ S ∧ S < 32) (hT5 : 0 ≤ T ∧ T < 32) (hD5 : 0 ≤ D ∧ D < 32) (him : 0 ≤ imm ∧ imm < 4294967296) (a bb : Int)
    (ha : 0 ≤ a ∧ a < 4294967296) (hb : 0 ≤ bb ∧ bb < 4294967296) (hav : s.R S.toNat = a) (hbv : s.R T.toNat = bb) (hxs : x ≠ sb) (r : Int × Cp.St) (HR : Hid (r = Cp.sumAt ⟨24, S, T, D, imm⟩ s a bb)) :
    Calls Tryd.prog 78 #[.pointer (some ⟨x, 0, none⟩)] w fun e w' => AluOk w w' sb r e := by
  have HAV := Lib.hid hav
  have HBV := Lib.hid hbv
  have HS := Lib.hid hS
  have HX := Lib.hid X
  obtain ⟨c0, _, c2, c3, c4, _, _, _, _⟩ := X.cells
  clear X hS hav hbv
  go_enter Tryd.func78, Tryd.ntmps78
  go_upto_region 1 with fail
  go_quiet (first | (go_at_call 83; with_reducible exact v_q x sb s S a _ _ c0 HS.out hS5 HAV.out) | (go_at_call 83; with_reducible exact v_q x sb s T bb _ _ c0 HS.out hT5 HBV.out))
  have HX1 := Lib.hid (show XAt (w.drewN nq) x sb b ⟨24, S, T, D, imm⟩ nx br from HX.out)
  have HS1 := Lib.hid (show StAt (w.drewN nq) sb s from HS.out)
  have HK1 := Lib.hid ((Keeps.refl (· = sb) w).drewN nq)
  clear c0 c2 c3 c4 HAV HBV HS HX
  generalize w.drewN nq = w1 at *
  obtain ⟨c0, _, c2, _, _, c5, c6, _, _⟩ := HX1.out.cells
  go_wp2_with (first
      | (go_at_call 94; refine (shift_any _ _ _ _ (by assumption) (by assumption)).mono ?_; rintro e w' ⟨rfl, rfl⟩)
      | (go_at_call 91; refine (add_any a bb _ ha hb).mono ?_; rintro e w' ⟨rfl, rfl⟩)
      | (go_at_call 95; refine (sub_any a bb _ ha hb).mono ?_; rintro e w' ⟨rfl, rfl⟩)
      | (go_at_call 93; refine (less_any a bb _ _ ha hb).mono ?_; rintro e w' ⟨rfl, rfl⟩)
      | (go_at_call 92; refine (bit_any _ _).mono ?_; rintro e w' ⟨rfl, rfl⟩)
      | (go_at_call 85; refine (set_any x sb s D _ _ c0 HS1.out hD5).mono ?_; rintro e w2 ⟨rfl, hS2, hk2⟩; have HS2 := Lib.hid hS2; have HK2 := Lib.hid hk2; clear hS2 hk2))
  go_ret
  exact ⟨by rw [HR.out]; rfl, by rw [HR.out]; exact HS2.out, HK1.out.trans HK2.out (fun _ _ h => h)⟩
end Go.Proofs.YtlbdkcnbgdmpaaaDoor

/- CpuSum2 -/
/- The walks of cpu.sum, one an operation. -/
namespace Go.Proofs.YtlbdkcnbgdmpaaaDoor
open Go.RowKit Go.Deep
set_option linter.unusedVariables false

set_option maxRecDepth 100000 in
set_option maxHeartbeats 2000000 in
theorem sum_25 (x sb b : Nat) (S T D imm nx : Int) (br : Bool) (s : Cp.St) (w : World) (X : XAt w x sb b ⟨25, S, T, D, imm⟩ nx br) (hS : StAt w sb s) (hS5 : 0 ≤ S ∧ S < 32) (hT5 : 0 ≤ T ∧ T < 32) (hD5 : 0 ≤ D ∧ D < 32) (him : 0 ≤ imm ∧ imm < 4294967296) (a bb : Int)
    (ha : 0 ≤ a ∧ a < 4294967296) (hb : 0 ≤ bb ∧ bb < 4294967296) (hav : s.R S.toNat = a) (hbv : s.R T.toNat = bb) (hxs : x ≠ sb) (r : Int × Cp.St) (HR : Hid (r = Cp.sumAt ⟨25, S, T, D, imm⟩ s a bb)) :
    Calls Tryd.prog 78 #[.pointer (some ⟨x, 0, none⟩)] w fun e w' => AluOk w w' sb r e := by
  have HAV := Lib.hid hav
  have HBV := Lib.hid hbv
  have HS := Lib.hid hS
  have HX := Lib.hid X
  obtain ⟨c0, _, c2, c3, c4, _, _, _, _⟩ := X.cells
  clear X hS hav hbv
  go_enter Tryd.func78, Tryd.ntmps78
  go_upto_region 1 with fail
  go_quiet (first | (go_at_call 83; with_reducible exact v_q x sb s S a _ _ c0 HS.out hS5 HAV.out) | (go_at_call 83; with_reducible exact v_q x sb s T bb _ _ c0 HS.out hT5 HBV.out))
  have HX1 := Lib.hid (show XAt (w.drewN nq) x sb b ⟨25, S, T, D, imm⟩ nx br from HX.out)
  have HS1 := Lib.hid (show StAt (w.drewN nq) sb s from HS.out)
  have HK1 := Lib.hid ((Keeps.refl (· = sb) w).drewN nq)
  clear c0 c2 c3 c4 HAV HBV HS HX
  generalize w.drewN nq = w1 at *
  obtain ⟨c0, _, c2, _, _, c5, c6, _, _⟩ := HX1.out.cells
  go_wp2_with (first
      | (go_at_call 94; refine (shift_any _ _ _ _ (by assumption) (by assumption)).mono ?_; rintro e w' ⟨rfl, rfl⟩)
      | (go_at_call 91; refine (add_any a bb _ ha hb).mono ?_; rintro e w' ⟨rfl, rfl⟩)
      | (go_at_call 95; refine (sub_any a bb _ ha hb).mono ?_; rintro e w' ⟨rfl, rfl⟩)
      | (go_at_call 93; refine (less_any a bb _ _ ha hb).mono ?_; rintro e w' ⟨rfl, rfl⟩)
      | (go_at_call 92; refine (bit_any _ _).mono ?_; rintro e w' ⟨rfl, rfl⟩)
      | (go_at_call 85; refine (set_any x sb s D _ _ c0 HS1.out hD5).mono ?_; rintro e w2 ⟨rfl, hS2, hk2⟩; have HS2 := Lib.hid hS2; have HK2 := Lib.hid hk2; clear hS2 hk2))
  go_ret
  exact ⟨by rw [HR.out]; rfl, by rw [HR.out]; exact HS2.out, HK1.out.trans HK2.out (fun _ _ h => h)⟩

set_option maxRecDepth 100000 in
set_option maxHeartbeats 2000000 in
theorem sum_26 (x sb b : Nat) (S T D imm nx : Int) (br : Bool) (s : Cp.St) (w : World) (X : XAt w x sb b ⟨26, S, T, D, imm⟩ nx br) (hS : StAt w sb s) (hS5 : 0 ≤ S ∧ S < 32) (hT5 : 0 ≤ T ∧ T < 32) (hD5 : 0 ≤ D ∧ D < 32) (him : 0 ≤ imm ∧ imm < 4294967296) (a bb : Int)
    (ha : 0 ≤ a ∧ a < 4294967296) (hb : 0 ≤ bb ∧ bb < 4294967296) (hav : s.R S.toNat = a) (hbv : s.R T.toNat = bb) (hxs : x ≠ sb) (r : Int × Cp.St) (HR : Hid (r = Cp.sumAt ⟨26, S, T, D, imm⟩ s a bb)) :
    Calls Tryd.prog 78 #[.pointer (some ⟨x, 0, none⟩)] w fun e w' => AluOk w w' sb r e := by
  have HAV := Lib.hid hav
  have HBV := Lib.hid hbv
  have HS := Lib.hid hS
  have HX := Lib.hid X
  obtain ⟨c0, _, c2, c3, c4, _, _, _, _⟩ := X.cells
  clear X hS hav hbv
  go_enter Tryd.func78, Tryd.ntmps78
  go_upto_region 1 with fail
  go_quiet (first | (go_at_call 83; with_reducible exact v_q x sb s S a _ _ c0 HS.out hS5 HAV.out) | (go_at_call 83; with_reducible exact v_q x sb s T bb _ _ c0 HS.out hT5 HBV.out))
  have HX1 := Lib.hid (show XAt (w.drewN nq) x sb b ⟨26, S, T, D, imm⟩ nx br from HX.out)
  have HS1 := Lib.hid (show StAt (w.drewN nq) sb s from HS.out)
  have HK1 := Lib.hid ((Keeps.refl (· = sb) w).drewN nq)
  clear c0 c2 c3 c4 HAV HBV HS HX
  generalize w.drewN nq = w1 at *
  obtain ⟨c0, _, c2, _, _, c5, c6, _, _⟩ := HX1.out.cells
  go_wp2_with (first
      | (go_at_call 94; refine (shift_any _ _ _ _ (by assumption) (by assumption)).mono ?_; rintro e w' ⟨rfl, rfl⟩)
      | (go_at_call 91; refine (add_any a bb _ ha hb).mono ?_; rintro e w' ⟨rfl, rfl⟩)
      | (go_at_call 95; refine (sub_any a bb _ ha hb).mono ?_; rintro e w' ⟨rfl, rfl⟩)
      | (go_at_call 93; refine (less_any a bb _ _ ha hb).mono ?_; rintro e w' ⟨rfl, rfl⟩)
      | (go_at_call 92; refine (bit_any _ _).mono ?_; rintro e w' ⟨rfl, rfl⟩)
      | (go_at_call 85; refine (set_any x sb s D _ _ c0 HS1.out hD5).mono ?_; rintro e w2 ⟨rfl, hS2, hk2⟩; have HS2 := Lib.hid hS2; have HK2 := Lib.hid hk2; clear hS2 hk2))
  go_ret
  exact ⟨by rw [HR.out]; rfl, by rw [HR.out]; exact HS2.out, HK1.out.trans HK2.out (fun _ _ h => h)⟩

set_option maxRecDepth 100000 in
set_option maxHeartbeats 2000000 in
theorem sum_27 (x sb b : Nat) (S T D imm nx : Int) (br : Bool) (s : Cp.St) (w : World) (X : XAt w x sb b ⟨27, S, T, D, imm⟩ nx br) (hS : StAt w sb s) (hS5 : 0 ≤ S ∧ S < 32) (hT5 : 0 ≤ T ∧ T < 32) (hD5 : 0 ≤ D ∧ D < 32) (him : 0 ≤ imm ∧ imm < 4294967296) (a bb : Int)
    (ha : 0 ≤ a ∧ a < 4294967296) (hb : 0 ≤ bb ∧ bb < 4294967296) (hav : s.R S.toNat = a) (hbv : s.R T.toNat = bb) (hxs : x ≠ sb) (r : Int × Cp.St) (HR : Hid (r = Cp.sumAt ⟨27, S, T, D, imm⟩ s a bb)) :
    Calls Tryd.prog 78 #[.pointer (some ⟨x, 0, none⟩)] w fun e w' => AluOk w w' sb r e := by
  have HAV := Lib.hid hav
  have HBV := Lib.hid hbv
  have HS := Lib.hid hS
  have HX := Lib.hid X
  obtain ⟨c0, _, c2, c3, c4, _, _, _, _⟩ := X.cells
  clear X hS hav hbv
  go_enter Tryd.func78, Tryd.ntmps78
  go_upto_region 1 with fail
  go_quiet (first | (go_at_call 83; with_reducible exact v_q x sb s S a _ _ c0 HS.out hS5 HAV.out) | (go_at_call 83; with_reducible exact v_q x sb s T bb _ _ c0 HS.out hT5 HBV.out))
  have HX1 := Lib.hid (show XAt (w.drewN nq) x sb b ⟨27, S, T, D, imm⟩ nx br from HX.out)
  have HS1 := Lib.hid (show StAt (w.drewN nq) sb s from HS.out)
  have HK1 := Lib.hid ((Keeps.refl (· = sb) w).drewN nq)
  clear c0 c2 c3 c4 HAV HBV HS HX
  generalize w.drewN nq = w1 at *
  obtain ⟨c0, _, c2, _, _, c5, c6, _, _⟩ := HX1.out.cells
  go_wp2_with (first
      | (go_at_call 94; refine (shift_any _ _ _ _ (by assumption) (by assumption)).mono ?_; rintro e w' ⟨rfl, rfl⟩)
      | (go_at_call 91; refine (add_any a bb _ ha hb).mono ?_; rintro e w' ⟨rfl, rfl⟩)
      | (go_at_call 95; refine (sub_any a bb _ ha hb).mono ?_; rintro e w' ⟨rfl, rfl⟩)
      | (go_at_call 93; refine (less_any a bb _ _ ha hb).mono ?_; rintro e w' ⟨rfl, rfl⟩)
      | (go_at_call 92; refine (bit_any _ _).mono ?_; rintro e w' ⟨rfl, rfl⟩)
      | (go_at_call 85; refine (set_any x sb s D _ _ c0 HS1.out hD5).mono ?_; rintro e w2 ⟨rfl, hS2, hk2⟩; have HS2 := Lib.hid hS2; have HK2 := Lib.hid hk2; clear hS2 hk2))
  go_ret
  exact ⟨by rw [HR.out]; rfl, by rw [HR.out]; exact HS2.out, HK1.out.trans HK2.out (fun _ _ h => h)⟩

set_option maxRecDepth 100000 in
set_option maxHeartbeats 2000000 in
theorem sum_28 (x sb b : Nat) (S T D imm nx : Int) (br : Bool) (s : Cp.St) (w : World) (X : XAt w x sb b ⟨28, S, T, D, imm⟩ nx br) (hS : StAt w sb s) (hS5 : 0 ≤ S ∧ S < 32) (hT5 : 0 ≤ T ∧ T < 32) (hD5 : 0 ≤ D ∧ D < 32) (him : 0 ≤ imm ∧ imm < 4294967296) (a bb : Int)
    (ha : 0 ≤ a ∧ a < 4294967296) (hb : 0 ≤ bb ∧ bb < 4294967296) (hav : s.R S.toNat = a) (hbv : s.R T.toNat = bb) (hxs : x ≠ sb) (r : Int × Cp.St) (HR : Hid (r = Cp.sumAt ⟨28, S, T, D, imm⟩ s a bb)) :
    Calls Tryd.prog 78 #[.pointer (some ⟨x, 0, none⟩)] w fun e w' => AluOk w w' sb r e := by
  have HAV := Lib.hid hav
  have HBV := Lib.hid hbv
  have HS := Lib.hid hS
  have HX := Lib.hid X
  obtain ⟨c0, _, c2, c3, c4, _, _, _, _⟩ := X.cells
  clear X hS hav hbv
  go_enter Tryd.func78, Tryd.ntmps78
  go_upto_region 1 with fail
  go_quiet (first | (go_at_call 83; with_reducible exact v_q x sb s S a _ _ c0 HS.out hS5 HAV.out) | (go_at_call 83; with_reducible exact v_q x sb s T bb _ _ c0 HS.out hT5 HBV.out))
  have HX1 := Lib.hid (show XAt (w.drewN nq) x sb b ⟨28, S, T, D, imm⟩ nx br from HX.out)
  have HS1 := Lib.hid (show StAt (w.drewN nq) sb s from HS.out)
  have HK1 := Lib.hid ((Keeps.refl (· = sb) w).drewN nq)
  clear c0 c2 c3 c4 HAV HBV HS HX
  generalize w.drewN nq = w1 at *
  obtain ⟨c0, _, c2, _, _, c5, c6, _, _⟩ := HX1.out.cells
  go_wp2_with (first
      | (go_at_call 94; refine (shift_any _ _ _ _ (by assumption) (by assumption)).mono ?_; rintro e w' ⟨rfl, rfl⟩)
      | (go_at_call 91; refine (add_any a bb _ ha hb).mono ?_; rintro e w' ⟨rfl, rfl⟩)
      | (go_at_call 95; refine (sub_any a bb _ ha hb).mono ?_; rintro e w' ⟨rfl, rfl⟩)
      | (go_at_call 93; refine (less_any a bb _ _ ha hb).mono ?_; rintro e w' ⟨rfl, rfl⟩)
      | (go_at_call 92; refine (bit_any _ _).mono ?_; rintro e w' ⟨rfl, rfl⟩)
      | (go_at_call 85; refine (set_any x sb s D _ _ c0 HS1.out hD5).mono ?_; rintro e w2 ⟨rfl, hS2, hk2⟩; have HS2 := Lib.hid hS2; have HK2 := Lib.hid hk2; clear hS2 hk2))
  go_ret
  exact ⟨by rw [HR.out]; rfl, by rw [HR.out]; exact HS2.out, HK1.out.trans HK2.out (fun _ _ h => h)⟩
end Go.Proofs.YtlbdkcnbgdmpaaaDoor

/- CpuLong0 -/
/- The walks of cpu.long, one an operation. -/
namespace Go.Proofs.YtlbdkcnbgdmpaaaDoor
open Go.RowKit Go.Deep
set_option linter.unusedVariables false

set_option maxRecDepth 100000 in
set_option maxHeartbeats 2000000 in
theorem long_11 (x sb b : Nat) (S T D imm nx : Int) (br : Bool) (s : Cp.St) (w : World) (X : XAt w x sb b ⟨11, S, T, D, imm⟩ nx br) (hS : StAt w sb s) (hS5 : 0 ≤ S ∧ S < 32) (hT5 : 0 ≤ T ∧ T < 32) (hD5 : 0 ≤ D ∧ D < 32) (him : 0 ≤ imm ∧ imm < 4294967296) (a bb : Int)
    (ha : 0 ≤ a ∧ a < 4294967296) (hb : 0 ≤ bb ∧ bb < 4294967296) (hav : s.R S.toNat = a) (hbv : s.R T.toNat = bb) (hxs : x ≠ sb) (r : Int × Cp.St) (HR : Hid (r = Cp.sumAt ⟨11, S, T, D, imm⟩ s a bb)) :
    Calls Tryd.prog 96 #[.pointer (some ⟨x, 0, none⟩)] w fun e w' => AluOk w w' sb r e := by
  have HAV := Lib.hid hav
  have HBV := Lib.hid hbv
  have HS := Lib.hid hS
  have HX := Lib.hid X
  obtain ⟨c0, _, c2, c3, c4, _, _, _, _⟩ := X.cells
  clear X hS hav hbv
  go_enter Tryd.func96, Tryd.ntmps96
  go_upto_region 1 with fail
  go_quiet (first | (go_at_call 83; with_reducible exact v_q x sb s S a _ _ c0 HS.out hS5 HAV.out) | (go_at_call 83; with_reducible exact v_q x sb s T bb _ _ c0 HS.out hT5 HBV.out))
  have HX1 := Lib.hid (show XAt (w.drewN nq) x sb b ⟨11, S, T, D, imm⟩ nx br from HX.out)
  have HS1 := Lib.hid (show StAt (w.drewN nq) sb s from HS.out)
  have HK1 := Lib.hid ((Keeps.refl (· = sb) w).drewN nq)
  clear c0 c2 c3 c4 HAV HBV HS HX
  generalize w.drewN nq = w1 at *
  obtain ⟨c0, _, c2, _, _, c5, c6, _, _⟩ := HX1.out.cells
  obtain ⟨s32, s33, _, _, _, _, _, _, _, _, _⟩ := HS1.out.cells
  have f32 := HS1.out.frozen 32
  have f33 := HS1.out.frozen 33
  go_upto_region 4 with fail
  go_still_tail 13, (by kernel_rfl)
  change wpList _ _ _ _ _ w1.drew
  go_wp2_with fail
  refine (set_any x sb s D _ w1.drew c0 HS1.out hD5).mono ?_
  rintro e w2 ⟨rfl, hS2, hk2⟩
  have HS2 := Lib.hid hS2
  have HK2 := Lib.hid (HK1.out.trans (Keeps.trans ((Keeps.refl (· = sb) w1).drew) hk2 (fun _ _ h => h)) (fun _ _ h => h))
  clear hS2 hk2 c0 c2 s32 s33 f32 f33
  go_wp2_with fail
  go_ret
  exact ⟨by rw [HR.out]; rfl, by rw [HR.out]; exact HS2.out, HK2.out⟩

set_option maxRecDepth 100000 in
set_option maxHeartbeats 2000000 in
theorem long_12 (x sb b : Nat) (S T D imm nx : Int) (br : Bool) (s : Cp.St) (w : World) (X : XAt w x sb b ⟨12, S, T, D, imm⟩ nx br) (hS : StAt w sb s) (hS5 : 0 ≤ S ∧ S < 32) (hT5 : 0 ≤ T ∧ T < 32) (hD5 : 0 ≤ D ∧ D < 32) (him : 0 ≤ imm ∧ imm < 4294967296) (a bb : Int)
    (ha : 0 ≤ a ∧ a < 4294967296) (hb : 0 ≤ bb ∧ bb < 4294967296) (hav : s.R S.toNat = a) (hbv : s.R T.toNat = bb) (hxs : x ≠ sb) (r : Int × Cp.St) (HR : Hid (r = Cp.sumAt ⟨12, S, T, D, imm⟩ s a bb)) :
    Calls Tryd.prog 96 #[.pointer (some ⟨x, 0, none⟩)] w fun e w' => AluOk w w' sb r e := by
  have HAV := Lib.hid hav
  have HBV := Lib.hid hbv
  have HS := Lib.hid hS
  have HX := Lib.hid X
  obtain ⟨c0, _, c2, c3, c4, _, _, _, _⟩ := X.cells
  clear X hS hav hbv
  go_enter Tryd.func96, Tryd.ntmps96
  go_upto_region 1 with fail
  go_quiet (first | (go_at_call 83; with_reducible exact v_q x sb s S a _ _ c0 HS.out hS5 HAV.out) | (go_at_call 83; with_reducible exact v_q x sb s T bb _ _ c0 HS.out hT5 HBV.out))
  have HX1 := Lib.hid (show XAt (w.drewN nq) x sb b ⟨12, S, T, D, imm⟩ nx br from HX.out)
  have HS1 := Lib.hid (show StAt (w.drewN nq) sb s from HS.out)
  have HK1 := Lib.hid ((Keeps.refl (· = sb) w).drewN nq)
  clear c0 c2 c3 c4 HAV HBV HS HX
  generalize w.drewN nq = w1 at *
  obtain ⟨c0, _, c2, _, _, c5, c6, _, _⟩ := HX1.out.cells
  obtain ⟨s32, s33, _, _, _, _, _, _, _, _, _⟩ := HS1.out.cells
  have f32 := HS1.out.frozen 32
  have f33 := HS1.out.frozen 33
  have HS2 := Lib.hid (HS1.out.set 0 (.int .u32 a) (s' := { s with hi := a }) rfl rfl)
  go_wp2_with fail
  go_ret
  exact ⟨by rw [HR.out]; rfl, by rw [HR.out]; exact HS2.out, HK1.out.trans (Keeps.one _ _ _ _) (fun _ _ h => h)⟩

set_option maxRecDepth 100000 in
set_option maxHeartbeats 2000000 in
theorem long_13 (x sb b : Nat) (S T D imm nx : Int) (br : Bool) (s : Cp.St) (w : World) (X : XAt w x sb b ⟨13, S, T, D, imm⟩ nx br) (hS : StAt w sb s) (hS5 : 0 ≤ S ∧ S < 32) (hT5 : 0 ≤ T ∧ T < 32) (hD5 : 0 ≤ D ∧ D < 32) (him : 0 ≤ imm ∧ imm < 4294967296) (a bb : Int)
    (ha : 0 ≤ a ∧ a < 4294967296) (hb : 0 ≤ bb ∧ bb < 4294967296) (hav : s.R S.toNat = a) (hbv : s.R T.toNat = bb) (hxs : x ≠ sb) (r : Int × Cp.St) (HR : Hid (r = Cp.sumAt ⟨13, S, T, D, imm⟩ s a bb)) :
    Calls Tryd.prog 96 #[.pointer (some ⟨x, 0, none⟩)] w fun e w' => AluOk w w' sb r e := by
  have HAV := Lib.hid hav
  have HBV := Lib.hid hbv
  have HS := Lib.hid hS
  have HX := Lib.hid X
  obtain ⟨c0, _, c2, c3, c4, _, _, _, _⟩ := X.cells
  clear X hS hav hbv
  go_enter Tryd.func96, Tryd.ntmps96
  go_upto_region 1 with fail
  go_quiet (first | (go_at_call 83; with_reducible exact v_q x sb s S a _ _ c0 HS.out hS5 HAV.out) | (go_at_call 83; with_reducible exact v_q x sb s T bb _ _ c0 HS.out hT5 HBV.out))
  have HX1 := Lib.hid (show XAt (w.drewN nq) x sb b ⟨13, S, T, D, imm⟩ nx br from HX.out)
  have HS1 := Lib.hid (show StAt (w.drewN nq) sb s from HS.out)
  have HK1 := Lib.hid ((Keeps.refl (· = sb) w).drewN nq)
  clear c0 c2 c3 c4 HAV HBV HS HX
  generalize w.drewN nq = w1 at *
  obtain ⟨c0, _, c2, _, _, c5, c6, _, _⟩ := HX1.out.cells
  obtain ⟨s32, s33, _, _, _, _, _, _, _, _, _⟩ := HS1.out.cells
  have f32 := HS1.out.frozen 32
  have f33 := HS1.out.frozen 33
  go_upto_region 6 with fail
  go_still_tail 13, (by kernel_rfl)
  change wpList _ _ _ _ _ w1.drew
  go_wp2_with fail
  refine (set_any x sb s D _ w1.drew c0 HS1.out hD5).mono ?_
  rintro e w2 ⟨rfl, hS2, hk2⟩
  have HS2 := Lib.hid hS2
  have HK2 := Lib.hid (HK1.out.trans (Keeps.trans ((Keeps.refl (· = sb) w1).drew) hk2 (fun _ _ h => h)) (fun _ _ h => h))
  clear hS2 hk2 c0 c2 s32 s33 f32 f33
  go_wp2_with fail
  go_ret
  exact ⟨by rw [HR.out]; rfl, by rw [HR.out]; exact HS2.out, HK2.out⟩

set_option maxRecDepth 100000 in
set_option maxHeartbeats 2000000 in
theorem long_14 (x sb b : Nat) (S T D imm nx : Int) (br : Bool) (s : Cp.St) (w : World) (X : XAt w x sb b ⟨14, S, T, D, imm⟩ nx br) (hS : StAt w sb s) (hS5 : 0 ≤ S ∧ S < 32) (hT5 : 0 ≤ T ∧ T < 32) (hD5 : 0 ≤ D ∧ D < 32) (him : 0 ≤ imm ∧ imm < 4294967296) (a bb : Int)
    (ha : 0 ≤ a ∧ a < 4294967296) (hb : 0 ≤ bb ∧ bb < 4294967296) (hav : s.R S.toNat = a) (hbv : s.R T.toNat = bb) (hxs : x ≠ sb) (r : Int × Cp.St) (HR : Hid (r = Cp.sumAt ⟨14, S, T, D, imm⟩ s a bb)) :
    Calls Tryd.prog 96 #[.pointer (some ⟨x, 0, none⟩)] w fun e w' => AluOk w w' sb r e := by
  have HAV := Lib.hid hav
  have HBV := Lib.hid hbv
  have HS := Lib.hid hS
  have HX := Lib.hid X
  obtain ⟨c0, _, c2, c3, c4, _, _, _, _⟩ := X.cells
  clear X hS hav hbv
  go_enter Tryd.func96, Tryd.ntmps96
  go_upto_region 1 with fail
  go_quiet (first | (go_at_call 83; with_reducible exact v_q x sb s S a _ _ c0 HS.out hS5 HAV.out) | (go_at_call 83; with_reducible exact v_q x sb s T bb _ _ c0 HS.out hT5 HBV.out))
  have HX1 := Lib.hid (show XAt (w.drewN nq) x sb b ⟨14, S, T, D, imm⟩ nx br from HX.out)
  have HS1 := Lib.hid (show StAt (w.drewN nq) sb s from HS.out)
  have HK1 := Lib.hid ((Keeps.refl (· = sb) w).drewN nq)
  clear c0 c2 c3 c4 HAV HBV HS HX
  generalize w.drewN nq = w1 at *
  obtain ⟨c0, _, c2, _, _, c5, c6, _, _⟩ := HX1.out.cells
  obtain ⟨s32, s33, _, _, _, _, _, _, _, _, _⟩ := HS1.out.cells
  have f32 := HS1.out.frozen 32
  have f33 := HS1.out.frozen 33
  have HS2 := Lib.hid (HS1.out.set 1 (.int .u32 a) (s' := { s with lo := a }) rfl rfl)
  go_wp2_with fail
  go_ret
  exact ⟨by rw [HR.out]; rfl, by rw [HR.out]; exact HS2.out, HK1.out.trans (Keeps.one _ _ _ _) (fun _ _ h => h)⟩
end Go.Proofs.YtlbdkcnbgdmpaaaDoor

/- CpuLong1 -/
/- The walks of cpu.long, one an operation. -/
namespace Go.Proofs.YtlbdkcnbgdmpaaaDoor
open Go.RowKit Go.Deep
set_option linter.unusedVariables false

set_option maxRecDepth 100000 in
set_option maxHeartbeats 4000000 in
theorem long_15 (x sb b : Nat) (S T D imm nx : Int) (br : Bool) (s : Cp.St) (w : World) (X : XAt w x sb b ⟨15, S, T, D, imm⟩ nx br) (hS : StAt w sb s) (hS5 : 0 ≤ S ∧ S < 32) (hT5 : 0 ≤ T ∧ T < 32) (hD5 : 0 ≤ D ∧ D < 32) (him : 0 ≤ imm ∧ imm < 4294967296) (a bb : Int)
    (ha : 0 ≤ a ∧ a < 4294967296) (hb : 0 ≤ bb ∧ bb < 4294967296) (hav : s.R S.toNat = a) (hbv : s.R T.toNat = bb) (hxs : x ≠ sb) (r : Int × Cp.St) (HR : Hid (r = Cp.sumAt ⟨15, S, T, D, imm⟩ s a bb)) :
    Calls Tryd.prog 96 #[.pointer (some ⟨x, 0, none⟩)] w fun e w' => AluOk w w' sb r e := by
  have HAV := Lib.hid hav
  have HBV := Lib.hid hbv
  have HS := Lib.hid hS
  have HX := Lib.hid X
  obtain ⟨c0, _, c2, c3, c4, _, _, _, _⟩ := X.cells
  clear X hS hav hbv
  go_enter Tryd.func96, Tryd.ntmps96
  go_upto_region 1 with fail
  go_quiet (first | (go_at_call 83; with_reducible exact v_q x sb s S a _ _ c0 HS.out hS5 HAV.out) | (go_at_call 83; with_reducible exact v_q x sb s T bb _ _ c0 HS.out hT5 HBV.out))
  have HX1 := Lib.hid (show XAt (w.drewN nq) x sb b ⟨15, S, T, D, imm⟩ nx br from HX.out)
  have HS1 := Lib.hid (show StAt (w.drewN nq) sb s from HS.out)
  have HK1 := Lib.hid ((Keeps.refl (· = sb) w).drewN nq)
  clear c0 c2 c3 c4 HAV HBV HS HX
  generalize w.drewN nq = w1 at *
  obtain ⟨c0, _, c2, _, _, c5, c6, _, _⟩ := HX1.out.cells
  obtain ⟨s32, s33, _, _, _, _, _, _, _, _, _⟩ := HS1.out.cells
  have f32 := HS1.out.frozen 32
  have f33 := HS1.out.frozen 33
  have HS2 := Lib.hid ((HS1.out.set 0 (.int .u32 (Wd.hi a bb true)) (s' := { s with hi := Wd.hi a bb true }) rfl rfl).set 1 (.int .u32 (Wd.lo a bb true)) (s' := { s with hi := Wd.hi a bb true, lo := Wd.lo a bb true }) rfl rfl)
  go_upto_region 13 with fail
  go_region_with (go_at_call 99; with_reducible refine (mul_any a bb true _ ha hb).mono ?_; rintro e w' ⟨rfl, rfl⟩)
  all_goals (
    go_wp2_with fail
    go_ret
    exact ⟨by rw [HR.out]; rfl, by rw [HR.out]; exact StAt.drew2 HS2.out, (HK1.out.trans (Keeps.trans (Keeps.one _ _ _ _) (Keeps.one _ _ _ _) (fun _ _ h => h)) (fun _ _ h => h)).drew⟩)

set_option maxRecDepth 100000 in
set_option maxHeartbeats 4000000 in
theorem long_16 (x sb b : Nat) (S T D imm nx : Int) (br : Bool) (s : Cp.St) (w : World) (X : XAt w x sb b ⟨16, S, T, D, imm⟩ nx br) (hS : StAt w sb s) (hS5 : 0 ≤ S ∧ S < 32) (hT5 : 0 ≤ T ∧ T < 32) (hD5 : 0 ≤ D ∧ D < 32) (him : 0 ≤ imm ∧ imm < 4294967296) (a bb : Int)
    (ha : 0 ≤ a ∧ a < 4294967296) (hb : 0 ≤ bb ∧ bb < 4294967296) (hav : s.R S.toNat = a) (hbv : s.R T.toNat = bb) (hxs : x ≠ sb) (r : Int × Cp.St) (HR : Hid (r = Cp.sumAt ⟨16, S, T, D, imm⟩ s a bb)) :
    Calls Tryd.prog 96 #[.pointer (some ⟨x, 0, none⟩)] w fun e w' => AluOk w w' sb r e := by
  have HAV := Lib.hid hav
  have HBV := Lib.hid hbv
  have HS := Lib.hid hS
  have HX := Lib.hid X
  obtain ⟨c0, _, c2, c3, c4, _, _, _, _⟩ := X.cells
  clear X hS hav hbv
  go_enter Tryd.func96, Tryd.ntmps96
  go_upto_region 1 with fail
  go_quiet (first | (go_at_call 83; with_reducible exact v_q x sb s S a _ _ c0 HS.out hS5 HAV.out) | (go_at_call 83; with_reducible exact v_q x sb s T bb _ _ c0 HS.out hT5 HBV.out))
  have HX1 := Lib.hid (show XAt (w.drewN nq) x sb b ⟨16, S, T, D, imm⟩ nx br from HX.out)
  have HS1 := Lib.hid (show StAt (w.drewN nq) sb s from HS.out)
  have HK1 := Lib.hid ((Keeps.refl (· = sb) w).drewN nq)
  clear c0 c2 c3 c4 HAV HBV HS HX
  generalize w.drewN nq = w1 at *
  obtain ⟨c0, _, c2, _, _, c5, c6, _, _⟩ := HX1.out.cells
  obtain ⟨s32, s33, _, _, _, _, _, _, _, _, _⟩ := HS1.out.cells
  have f32 := HS1.out.frozen 32
  have f33 := HS1.out.frozen 33
  have HS2 := Lib.hid ((HS1.out.set 0 (.int .u32 (Wd.hi a bb false)) (s' := { s with hi := Wd.hi a bb false }) rfl rfl).set 1 (.int .u32 (Wd.lo a bb false)) (s' := { s with hi := Wd.hi a bb false, lo := Wd.lo a bb false }) rfl rfl)
  go_upto_region 13 with fail
  go_region_with (go_at_call 99; with_reducible refine (mul_any a bb false _ ha hb).mono ?_; rintro e w' ⟨rfl, rfl⟩)
  all_goals (
    go_wp2_with fail
    go_ret
    exact ⟨by rw [HR.out]; rfl, by rw [HR.out]; exact StAt.drew2 HS2.out, (HK1.out.trans (Keeps.trans (Keeps.one _ _ _ _) (Keeps.one _ _ _ _) (fun _ _ h => h)) (fun _ _ h => h)).drew⟩)
end Go.Proofs.YtlbdkcnbgdmpaaaDoor

/- CpuLong2 -/
/- The walks of cpu.long, one an operation. -/
namespace Go.Proofs.YtlbdkcnbgdmpaaaDoor
open Go.RowKit Go.Deep
set_option linter.unusedVariables false

theorem sums_17 (S T D imm : Int) (s : Cp.St) (a b : Int) : Cp.sumAt ⟨17, S, T, D, imm⟩ s a b = (-1, if b = 0 then s else { s with lo := Wd.quo a b true, hi := Wd.rst a b true }) := rfl
theorem sumz_17 (S T D imm : Int) (s : Cp.St) (a b : Int) (h : b = 0) : Cp.sumAt ⟨17, S, T, D, imm⟩ s a b = (-1, s) := by rw [sums_17, if_pos h]
theorem sumn_17 (S T D imm : Int) (s : Cp.St) (a b : Int) (h : ¬ b = 0) : Cp.sumAt ⟨17, S, T, D, imm⟩ s a b = (-1, { s with lo := Wd.quo a b true, hi := Wd.rst a b true }) := by rw [sums_17, if_neg h]

set_option maxRecDepth 100000 in
set_option maxHeartbeats 1000000 in
theorem long_17 (x sb b : Nat) (S T D imm nx : Int) (br : Bool) (s : Cp.St) (w : World) (X : XAt w x sb b ⟨17, S, T, D, imm⟩ nx br) (hS : StAt w sb s) (hS5 : 0 ≤ S ∧ S < 32) (hT5 : 0 ≤ T ∧ T < 32) (hD5 : 0 ≤ D ∧ D < 32) (him : 0 ≤ imm ∧ imm < 4294967296) (a bb : Int)
    (ha : 0 ≤ a ∧ a < 4294967296) (hb : 0 ≤ bb ∧ bb < 4294967296) (hav : s.R S.toNat = a) (hbv : s.R T.toNat = bb) (hxs : x ≠ sb) (r : Int × Cp.St) (HR : Hid (r = Cp.sumAt ⟨17, S, T, D, imm⟩ s a bb)) :
    Calls Tryd.prog 96 #[.pointer (some ⟨x, 0, none⟩)] w fun e w' => AluOk w w' sb r e := by
  have HAV := Lib.hid hav
  have HBV := Lib.hid hbv
  have HS := Lib.hid hS
  have HX := Lib.hid X
  obtain ⟨c0, _, c2, c3, c4, _, _, _, _⟩ := X.cells
  clear X hS hav hbv
  go_enter Tryd.func96, Tryd.ntmps96
  go_upto_region 1 with fail
  go_quiet (first | (go_at_call 83; with_reducible exact v_q x sb s S a _ _ c0 HS.out hS5 HAV.out) | (go_at_call 83; with_reducible exact v_q x sb s T bb _ _ c0 HS.out hT5 HBV.out))
  have HX1 := Lib.hid (show XAt (w.drewN nq) x sb b ⟨17, S, T, D, imm⟩ nx br from HX.out)
  have HS1 := Lib.hid (show StAt (w.drewN nq) sb s from HS.out)
  have HK1 := Lib.hid ((Keeps.refl (· = sb) w).drewN nq)
  clear c0 c2 c3 c4 HAV HBV HS HX
  generalize w.drewN nq = w1 at *
  obtain ⟨c0, _, c2, _, _, c5, c6, _, _⟩ := HX1.out.cells
  obtain ⟨s32, s33, _, _, _, _, _, _, _, _, _⟩ := HS1.out.cells
  have f32 := HS1.out.frozen 32
  have f33 := HS1.out.frozen 33
  by_cases hz : bb = 0
  · rw [sumz_17 S T D imm s a bb hz] at HR
    have t1 : (bb != 0) = false := by simp [hz]
    clear hz
    go_wp2_with (go_at_call 100; with_reducible refine (div_any a bb true _ ha hb).mono ?_; rintro e w' ⟨rfl, m, rfl⟩)
    go_ret
    exact ⟨by rw [HR.out]; rfl, by rw [HR.out]; exact HS1.out, HK1.out.drewN _⟩
  · rw [sumn_17 S T D imm s a bb hz] at HR
    have t1 : (bb != 0) = true := by simpa using hz
    clear hz
    go_wp2_with (go_at_call 100; with_reducible refine (div_any a bb true _ ha hb).mono ?_; rintro e w' ⟨rfl, m, rfl⟩)
    have HS1m := Lib.hid (show StAt (w1.drewN m) sb s from HS1.out)
    have HS2 := Lib.hid ((HS1m.out.set 1 (.int .u32 (Wd.quo a bb true)) (s' := { s with lo := Wd.quo a bb true }) rfl rfl).set 0 (.int .u32 (Wd.rst a bb true)) (s' := { s with lo := Wd.quo a bb true, hi := Wd.rst a bb true }) rfl rfl)
    go_region
    all_goals (
      go_wp2_with fail
      go_ret
      exact ⟨by rw [HR.out]; rfl, by rw [HR.out]; exact StAt.drew2 HS2.out, (HK1.out.trans (Keeps.trans (Keeps.trans ((Keeps.refl (· = sb) w1).drewN m) (Keeps.one _ _ _ _) (fun _ _ h => h)) (Keeps.one _ _ _ _) (fun _ _ h => h)) (fun _ _ h => h)).drew⟩)

theorem sums_18 (S T D imm : Int) (s : Cp.St) (a b : Int) : Cp.sumAt ⟨18, S, T, D, imm⟩ s a b = (-1, if b = 0 then s else { s with lo := Wd.quo a b false, hi := Wd.rst a b false }) := rfl
theorem sumz_18 (S T D imm : Int) (s : Cp.St) (a b : Int) (h : b = 0) : Cp.sumAt ⟨18, S, T, D, imm⟩ s a b = (-1, s) := by rw [sums_18, if_pos h]
theorem sumn_18 (S T D imm : Int) (s : Cp.St) (a b : Int) (h : ¬ b = 0) : Cp.sumAt ⟨18, S, T, D, imm⟩ s a b = (-1, { s with lo := Wd.quo a b false, hi := Wd.rst a b false }) := by rw [sums_18, if_neg h]

set_option maxRecDepth 100000 in
set_option maxHeartbeats 1000000 in
theorem long_18 (x sb b : Nat) (S T D imm nx : Int) (br : Bool) (s : Cp.St) (w : World) (X : XAt w x sb b ⟨18, S, T, D, imm⟩ nx br) (hS : StAt w sb s) (hS5 : 0 ≤ S ∧ S < 32) (hT5 : 0 ≤ T ∧ T < 32) (hD5 : 0 ≤ D ∧ D < 32) (him : 0 ≤ imm ∧ imm < 4294967296) (a bb : Int)
    (ha : 0 ≤ a ∧ a < 4294967296) (hb : 0 ≤ bb ∧ bb < 4294967296) (hav : s.R S.toNat = a) (hbv : s.R T.toNat = bb) (hxs : x ≠ sb) (r : Int × Cp.St) (HR : Hid (r = Cp.sumAt ⟨18, S, T, D, imm⟩ s a bb)) :
    Calls Tryd.prog 96 #[.pointer (some ⟨x, 0, none⟩)] w fun e w' => AluOk w w' sb r e := by
  have HAV := Lib.hid hav
  have HBV := Lib.hid hbv
  have HS := Lib.hid hS
  have HX := Lib.hid X
  obtain ⟨c0, _, c2, c3, c4, _, _, _, _⟩ := X.cells
  clear X hS hav hbv
  go_enter Tryd.func96, Tryd.ntmps96
  go_upto_region 1 with fail
  go_quiet (first | (go_at_call 83; with_reducible exact v_q x sb s S a _ _ c0 HS.out hS5 HAV.out) | (go_at_call 83; with_reducible exact v_q x sb s T bb _ _ c0 HS.out hT5 HBV.out))
  have HX1 := Lib.hid (show XAt (w.drewN nq) x sb b ⟨18, S, T, D, imm⟩ nx br from HX.out)
  have HS1 := Lib.hid (show StAt (w.drewN nq) sb s from HS.out)
  have HK1 := Lib.hid ((Keeps.refl (· = sb) w).drewN nq)
  clear c0 c2 c3 c4 HAV HBV HS HX
  generalize w.drewN nq = w1 at *
  obtain ⟨c0, _, c2, _, _, c5, c6, _, _⟩ := HX1.out.cells
  obtain ⟨s32, s33, _, _, _, _, _, _, _, _, _⟩ := HS1.out.cells
  have f32 := HS1.out.frozen 32
  have f33 := HS1.out.frozen 33
  by_cases hz : bb = 0
  · rw [sumz_18 S T D imm s a bb hz] at HR
    have t1 : (bb != 0) = false := by simp [hz]
    clear hz
    go_wp2_with (go_at_call 100; with_reducible refine (div_any a bb false _ ha hb).mono ?_; rintro e w' ⟨rfl, m, rfl⟩)
    go_ret
    exact ⟨by rw [HR.out]; rfl, by rw [HR.out]; exact HS1.out, HK1.out.drewN _⟩
  · rw [sumn_18 S T D imm s a bb hz] at HR
    have t1 : (bb != 0) = true := by simpa using hz
    clear hz
    go_wp2_with (go_at_call 100; with_reducible refine (div_any a bb false _ ha hb).mono ?_; rintro e w' ⟨rfl, m, rfl⟩)
    have HS1m := Lib.hid (show StAt (w1.drewN m) sb s from HS1.out)
    have HS2 := Lib.hid ((HS1m.out.set 1 (.int .u32 (Wd.quo a bb false)) (s' := { s with lo := Wd.quo a bb false }) rfl rfl).set 0 (.int .u32 (Wd.rst a bb false)) (s' := { s with lo := Wd.quo a bb false, hi := Wd.rst a bb false }) rfl rfl)
    go_region
    all_goals (
      go_wp2_with fail
      go_ret
      exact ⟨by rw [HR.out]; rfl, by rw [HR.out]; exact StAt.drew2 HS2.out, (HK1.out.trans (Keeps.trans (Keeps.trans ((Keeps.refl (· = sb) w1).drewN m) (Keeps.one _ _ _ _) (fun _ _ h => h)) (Keeps.one _ _ _ _) (fun _ _ h => h)) (fun _ _ h => h)).drew⟩)
end Go.Proofs.YtlbdkcnbgdmpaaaDoor

/- CpuBits -/
/- Bits of words, said of integers. No program in sight. -/
namespace Go.Proofs.YtlbdkcnbgdmpaaaDoor
open Go.RowKit
set_option linter.unusedVariables false
namespace Cp
theorem or_split (k x y c d : Nat) (hy : y < 2 ^ k) (hd : d < 2 ^ k) : (x * 2 ^ k + y) ||| (c * 2 ^ k + d) = (x ||| c) * 2 ^ k + (y ||| d) := by
  apply Nat.eq_of_testBit_eq
  intro i
  have hyd : y ||| d < 2 ^ k := Nat.or_lt_two_pow hy hd
  rw [Nat.testBit_or, Nat.mul_comm x, Nat.mul_comm c, Nat.mul_comm (x ||| c), Nat.testBit_two_pow_mul_add _ hy, Nat.testBit_two_pow_mul_add _ hd, Nat.testBit_two_pow_mul_add _ hyd]
  split
  · rw [Nat.testBit_or]
  · rw [Nat.testBit_or]
theorem and2 (v : Int) (h : 0 ≤ v ∧ v < 4294967296) : bits .and .u32 v 2 = 2 * (v / 2 % 2) := by
  rw [u32_and v 2 h.1 h.2 (by decide) (by decide)]
  obtain ⟨n, rfl⟩ := Int.eq_ofNat_of_zero_le h.1
  have e := Cd.and_split 2 (n / 4) (n % 4) 0 2 (by omega) (by decide)
  have e2 : n / 4 * 2 ^ 2 + n % 4 = n := by omega
  rw [e2] at e
  show ((n &&& 2 : Nat) : Int) = _
  have e3 : (0 * 2 ^ 2 + 2 : Nat) = 2 := rfl
  rw [e3, Nat.and_zero] at e
  rw [e]
  have : n % 4 = 0 ∨ n % 4 = 1 ∨ n % 4 = 2 ∨ n % 4 = 3 := by omega
  rcases this with h4 | h4 | h4 | h4 <;> rw [h4]
  · show ((0 * 2 ^ 2 + 0 : Nat) : Int) = _; omega
  · show ((0 * 2 ^ 2 + 0 : Nat) : Int) = _; omega
  · show ((0 * 2 ^ 2 + 2 : Nat) : Int) = _; omega
  · show ((0 * 2 ^ 2 + 2 : Nat) : Int) = _; omega
theorem and3 (v : Int) (h : 0 ≤ v ∧ v < 4294967296) : bits .and .u32 v 3 = v % 4 := by
  rw [u32_and v 3 h.1 h.2 (by decide) (by decide)]
  obtain ⟨n, rfl⟩ := Int.eq_ofNat_of_zero_le h.1
  show ((n &&& (2 ^ 2 - 1) : Nat) : Int) = _
  rw [Nat.and_two_pow_sub_one_eq_mod]
  omega
theorem or2 (v : Int) (h : 0 ≤ v ∧ v < 4294967296) : bits .or .u32 v 2 = if v / 2 % 2 = 0 then v + 2 else v := by
  rw [u32_or v 2 h.1 h.2 (by decide) (by decide)]
  obtain ⟨n, rfl⟩ := Int.eq_ofNat_of_zero_le h.1
  have e := or_split 2 (n / 4) (n % 4) 0 2 (by omega) (by decide)
  have e2 : n / 4 * 2 ^ 2 + n % 4 = n := by omega
  rw [e2] at e
  show ((n ||| 2 : Nat) : Int) = _
  have e3 : (0 * 2 ^ 2 + 2 : Nat) = 2 := rfl
  rw [e3, Nat.or_zero] at e
  rw [e]
  have : n % 4 = 0 ∨ n % 4 = 1 ∨ n % 4 = 2 ∨ n % 4 = 3 := by omega
  rcases this with h4 | h4 | h4 | h4 <;> rw [h4]
  · rw [if_pos (by omega)]; show ((n / 4 * 4 + 2 : Nat) : Int) = _; omega
  · rw [if_pos (by omega)]; show ((n / 4 * 4 + 3 : Nat) : Int) = _; omega
  · rw [if_neg (by omega)]; show ((n / 4 * 4 + 2 : Nat) : Int) = _; omega
  · rw [if_neg (by omega)]; show ((n / 4 * 4 + 3 : Nat) : Int) = _; omega
theorem not2 (v : Int) (h : 0 ≤ v ∧ v < 4294967296) (h2 : v / 2 % 2 ≠ 0) : bits .andNot .u32 v 2 = v - 2 := by
  rw [u32_andNot v 2 h.1 h.2 (by decide) (by decide)]
  obtain ⟨n, rfl⟩ := Int.eq_ofNat_of_zero_le h.1
  have e := Cd.and_split 2 (n / 4) (n % 4) 1073741823 1 (by omega) (by decide)
  have e2 : n / 4 * 2 ^ 2 + n % 4 = n := by omega
  rw [e2] at e
  have e3 : (1073741823 * 2 ^ 2 + 1 : Nat) = 4294967295 - 2 := rfl
  have e4 : n / 4 &&& 1073741823 = n / 4 := Cd.and_ones 30 (n / 4) (by omega)
  rw [e3, e4] at e
  show ((n &&& (4294967295 - 2) : Nat) : Int) = _
  rw [e]
  have : n % 4 = 2 ∨ n % 4 = 3 := by omega
  rcases this with h4 | h4 <;> rw [h4]
  · show ((n / 4 * 4 + 0 : Nat) : Int) = _; omega
  · show ((n / 4 * 4 + 1 : Nat) : Int) = _; omega
theorem causeB (c e : Int) (h : 0 ≤ c ∧ c < 4294967296) (he : 0 ≤ e ∧ e < 32) : bits .or .u32 (bits .andNot .u32 c 124) (4 * e) = c - c / 4 % 32 * 4 + 4 * e := by
  obtain ⟨n, rfl⟩ := Int.eq_ofNat_of_zero_le h.1
  obtain ⟨k, rfl⟩ := Int.eq_ofNat_of_zero_le he.1
  have e1 : bits .andNot .u32 (n : Int) 124 = ((n / 128 * 128 + n % 4 : Nat) : Int) := by
    rw [u32_andNot _ _ h.1 h.2 (by decide) (by decide)]
    have a1 := Cd.and_split 2 (n / 128 * 32 + n / 4 % 32) (n % 4) (33554431 * 32 + 0) 3 (by omega) (by decide)
    have a2 := Cd.and_split 5 (n / 128) (n / 4 % 32) 33554431 0 (by omega) (by decide)
    have a3 : n / 128 &&& 33554431 = n / 128 := Cd.and_ones 25 (n / 128) (by omega)
    have a4 : n % 4 &&& 3 = n % 4 := Cd.and_ones 2 (n % 4) (by omega)
    have a5 : (n / 128 * 32 + n / 4 % 32) * 2 ^ 2 + n % 4 = n := by omega
    have a6 : ((33554431 * 32 + 0) * 2 ^ 2 + 3 : Nat) = 4294967295 - 124 := rfl
    rw [show (2 : Nat) ^ 5 = 32 from rfl, Nat.and_zero, a3] at a2
    rw [a5, a6, a2, a4] at a1
    show ((n &&& (4294967295 - 124) : Nat) : Int) = _
    rw [a1]
    omega
  rw [e1, u32_or _ _ (by omega) (by omega) (by omega) (by omega)]
  have b1 := or_split 2 (n / 128 * 32) (n % 4) k 0 (by omega) (by decide)
  have b2 := or_split 5 (n / 128) 0 0 k (by decide) (by omega)
  rw [show (2 : Nat) ^ 5 = 32 from rfl, Nat.or_zero, Nat.zero_or, Nat.zero_mul, Nat.zero_add, Nat.add_zero] at b2
  rw [b2, Nat.or_zero] at b1
  rw [show (((n / 128 * 128 + n % 4 : Nat) : Int)).toNat = n / 128 * 32 * 2 ^ 2 + n % 4 by omega, show (4 * (k : Int)).toNat = k * 2 ^ 2 + 0 by omega, b1]
  omega
theorem cause31 (e : Int) (he : 0 ≤ e ∧ e < 32) : bits .or .u32 (4 * e) 2147483648 = 4 * e + 2147483648 := by
  obtain ⟨k, rfl⟩ := Int.eq_ofNat_of_zero_le he.1
  rw [u32_or _ _ (by omega) (by omega) (by decide) (by decide)]
  have b1 := or_split 31 0 (4 * k) 1 0 (by omega) (by decide)
  rw [Nat.or_zero, Nat.zero_or, Nat.zero_mul, Nat.zero_add] at b1
  rw [show (4 * (k : Int)).toNat = 4 * k by omega]
  show ((4 * k ||| (1 * 2 ^ 31 + 0) : Nat) : Int) = _
  rw [b1]
  omega
theorem jumpB (p im : Int) (h : 0 ≤ p ∧ p < 4294967296) (hi : 0 ≤ im ∧ im < 67108864) : bits .or .u32 (bits .and .u32 p 4026531840) (im * 4) = p / 268435456 * 268435456 + 4 * im := by
  obtain ⟨n, rfl⟩ := Int.eq_ofNat_of_zero_le h.1
  obtain ⟨k, rfl⟩ := Int.eq_ofNat_of_zero_le hi.1
  have e1 : bits .and .u32 (n : Int) 4026531840 = ((n / 268435456 * 268435456 : Nat) : Int) := by
    rw [u32_and _ _ h.1 h.2 (by decide) (by decide)]
    have a1 := Cd.and_split 28 (n / 268435456) (n % 268435456) 15 0 (by omega) (by decide)
    have a3 : n / 268435456 &&& 15 = n / 268435456 := Cd.and_ones 4 _ (by omega)
    have a5 : n / 268435456 * 2 ^ 28 + n % 268435456 = n := by omega
    rw [a5, a3, Nat.and_zero] at a1
    show ((n &&& (15 * 2 ^ 28 + 0) : Nat) : Int) = _
    rw [a1]
    omega
  rw [e1, u32_or _ _ (by omega) (by omega) (by omega) (by omega)]
  have b1 := or_split 28 (n / 268435456) 0 0 (4 * k) (by decide) (by omega)
  rw [Nat.or_zero, Nat.zero_or, Nat.zero_mul, Nat.zero_add, Nat.add_zero] at b1
  rw [show (((n / 268435456 * 268435456 : Nat) : Int)).toNat = n / 268435456 * 2 ^ 28 by omega, show ((k : Int) * 4).toNat = 4 * k by omega, b1]
  omega
end Cp
end Go.Proofs.YtlbdkcnbgdmpaaaDoor
