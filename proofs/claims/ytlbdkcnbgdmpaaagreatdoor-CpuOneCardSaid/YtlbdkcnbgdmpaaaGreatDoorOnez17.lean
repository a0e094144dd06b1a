import Derived.Test.YtlbdkcnbgdmpaaaGreatDoorOnez9
import Derived.StillTailTactics

/- CpuSum0 -/
/- The walks of cpu.sum, one an operation. -/
namespace Go.Proofs.YtlbdkcnbgdmpaaaGreatDoor
open Go.RowKit Go.Deep
set_option linter.unusedVariables false

set_option maxRecDepth 100000 in
set_option maxHeartbeats 2000000 in
theorem sum_1 (x sb b : Nat) (S T D imm nx : Int) (br : Bool) (s : Cp.St) (w : World) (X : XAt w x sb b ⟨1, S, T, D, imm⟩ nx br) (hS : StAt w sb s) (hS5 : 0 ≤ S ∧ S < 32) (hT5 : 0 ≤ T ∧ T < 32) (hD5 : 0 ≤ D ∧ D < 32) (him : 0 ≤ imm ∧ imm < 4294967296) (a bb : Int)
    (ha : 0 ≤ a ∧ a < 4294967296) (hb : 0 ≤ bb ∧ bb < 4294967296) (hav : s.R S.toNat = a) (hbv : s.R T.toNat = bb) (hxs : x ≠ sb) (r : Int × Cp.St) (HR : Hid (r = Cp.sumAt ⟨1, S, T, D, imm⟩ s a bb)) :
    Calls Tryz.prog 60 #[.pointer (some ⟨x, 0, none⟩)] w fun e w' => AluOk w w' sb r e := by
  have HAV := Lib.hid hav
  have HBV := Lib.hid hbv
  have HS := Lib.hid hS
  have HX := Lib.hid X
  obtain ⟨c0, _, c2, c3, c4, _, _, _, _⟩ := X.cells
  clear X hS hav hbv
  go_enter Tryz.func60, Tryz.ntmps60
  go_upto_region 1 with fail
  go_quiet (first | (go_at_call 70; with_reducible exact v_q x sb s S a _ _ c0 HS.out hS5 HAV.out) | (go_at_call 70; with_reducible exact v_q x sb s T bb _ _ c0 HS.out hT5 HBV.out))
  have HX1 := Lib.hid (show XAt (w.drewN nq) x sb b ⟨1, S, T, D, imm⟩ nx br from HX.out)
  have HS1 := Lib.hid (show StAt (w.drewN nq) sb s from HS.out)
  have HK1 := Lib.hid ((Keeps.refl (· = sb) w).drewN nq)
  clear c0 c2 c3 c4 HAV HBV HS HX
  generalize w.drewN nq = w1 at *
  obtain ⟨c0, _, c2, _, _, c5, c6, _, _⟩ := HX1.out.cells
  go_wp2_with (first
      | (go_at_call 81; refine (shift_any _ _ _ _ (by assumption) (by assumption)).mono ?_; rintro e w' ⟨rfl, rfl⟩)
      | (go_at_call 78; refine (add_any a bb _ ha hb).mono ?_; rintro e w' ⟨rfl, rfl⟩)
      | (go_at_call 82; refine (sub_any a bb _ ha hb).mono ?_; rintro e w' ⟨rfl, rfl⟩)
      | (go_at_call 80; refine (less_any a bb _ _ ha hb).mono ?_; rintro e w' ⟨rfl, rfl⟩)
      | (go_at_call 79; refine (bit_any _ _).mono ?_; rintro e w' ⟨rfl, rfl⟩)
      | (go_at_call 72; refine (set_any x sb s D _ _ c0 HS1.out hD5).mono ?_; rintro e w2 ⟨rfl, hS2, hk2⟩; have HS2 := Lib.hid hS2; have HK2 := Lib.hid hk2; clear hS2 hk2))
  go_ret
  exact ⟨by rw [HR.out]; rfl, by rw [HR.out]; exact HS2.out, HK1.out.trans HK2.out (fun _ _ h => h)⟩

set_option maxRecDepth 100000 in
set_option maxHeartbeats 2000000 in
theorem sum_2 (x sb b : Nat) (S T D imm nx : Int) (br : Bool) (s : Cp.St) (w : World) (X : XAt w x sb b ⟨2, S, T, D, imm⟩ nx br) (hS : StAt w sb s) (hS5 : 0 ≤ S ∧ S < 32) (hT5 : 0 ≤ T ∧ T < 32) (hD5 : 0 ≤ D ∧ D < 32) (him : 0 ≤ imm ∧ imm < 4294967296) (a bb : Int)
    (ha : 0 ≤ a ∧ a < 4294967296) (hb : 0 ≤ bb ∧ bb < 4294967296) (hav : s.R S.toNat = a) (hbv : s.R T.toNat = bb) (hxs : x ≠ sb) (r : Int × Cp.St) (HR : Hid (r = Cp.sumAt ⟨2, S, T, D, imm⟩ s a bb)) :
    Calls Tryz.prog 60 #[.pointer (some ⟨x, 0, none⟩)] w fun e w' => AluOk w w' sb r e := by
  have HAV := Lib.hid hav
  have HBV := Lib.hid hbv
  have HS := Lib.hid hS
  have HX := Lib.hid X
  obtain ⟨c0, _, c2, c3, c4, _, _, _, _⟩ := X.cells
  clear X hS hav hbv
  go_enter Tryz.func60, Tryz.ntmps60
  go_upto_region 1 with fail
  go_quiet (first | (go_at_call 70; with_reducible exact v_q x sb s S a _ _ c0 HS.out hS5 HAV.out) | (go_at_call 70; with_reducible exact v_q x sb s T bb _ _ c0 HS.out hT5 HBV.out))
  have HX1 := Lib.hid (show XAt (w.drewN nq) x sb b ⟨2, S, T, D, imm⟩ nx br from HX.out)
  have HS1 := Lib.hid (show StAt (w.drewN nq) sb s from HS.out)
  have HK1 := Lib.hid ((Keeps.refl (· = sb) w).drewN nq)
  clear c0 c2 c3 c4 HAV HBV HS HX
  generalize w.drewN nq = w1 at *
  obtain ⟨c0, _, c2, _, _, c5, c6, _, _⟩ := HX1.out.cells
  go_wp2_with (first
      | (go_at_call 81; refine (shift_any _ _ _ _ (by assumption) (by assumption)).mono ?_; rintro e w' ⟨rfl, rfl⟩)
      | (go_at_call 78; refine (add_any a bb _ ha hb).mono ?_; rintro e w' ⟨rfl, rfl⟩)
      | (go_at_call 82; refine (sub_any a bb _ ha hb).mono ?_; rintro e w' ⟨rfl, rfl⟩)
      | (go_at_call 80; refine (less_any a bb _ _ ha hb).mono ?_; rintro e w' ⟨rfl, rfl⟩)
      | (go_at_call 79; refine (bit_any _ _).mono ?_; rintro e w' ⟨rfl, rfl⟩)
      | (go_at_call 72; refine (set_any x sb s D _ _ c0 HS1.out hD5).mono ?_; rintro e w2 ⟨rfl, hS2, hk2⟩; have HS2 := Lib.hid hS2; have HK2 := Lib.hid hk2; clear hS2 hk2))
  go_ret
  exact ⟨by rw [HR.out]; rfl, by rw [HR.out]; exact HS2.out, HK1.out.trans HK2.out (fun _ _ h => h)⟩

set_option maxRecDepth 100000 in
set_option maxHeartbeats 2000000 in
theorem sum_3 (x sb b : Nat) (S T D imm nx : Int) (br : Bool) (s : Cp.St) (w : World) (X : XAt w x sb b ⟨3, S, T, D, imm⟩ nx br) (hS : StAt w sb s) (hS5 : 0 ≤ S ∧ S < 32) (hT5 : 0 ≤ T ∧ T < 32) (hD5 : 0 ≤ D ∧ D < 32) (him : 0 ≤ imm ∧ imm < 4294967296) (a bb : Int)
    (ha : 0 ≤ a ∧ a < 4294967296) (hb : 0 ≤ bb ∧ bb < 4294967296) (hav : s.R S.toNat = a) (hbv : s.R T.toNat = bb) (hxs : x ≠ sb) (r : Int × Cp.St) (HR : Hid (r = Cp.sumAt ⟨3, S, T, D, imm⟩ s a bb)) :
    Calls Tryz.prog 60 #[.pointer (some ⟨x, 0, none⟩)] w fun e w' => AluOk w w' sb r e := by
  have HAV := Lib.hid hav
  have HBV := Lib.hid hbv
  have HS := Lib.hid hS
  have HX := Lib.hid X
  obtain ⟨c0, _, c2, c3, c4, _, _, _, _⟩ := X.cells
  clear X hS hav hbv
  go_enter Tryz.func60, Tryz.ntmps60
  go_upto_region 1 with fail
  go_quiet (first | (go_at_call 70; with_reducible exact v_q x sb s S a _ _ c0 HS.out hS5 HAV.out) | (go_at_call 70; with_reducible exact v_q x sb s T bb _ _ c0 HS.out hT5 HBV.out))
  have HX1 := Lib.hid (show XAt (w.drewN nq) x sb b ⟨3, S, T, D, imm⟩ nx br from HX.out)
  have HS1 := Lib.hid (show StAt (w.drewN nq) sb s from HS.out)
  have HK1 := Lib.hid ((Keeps.refl (· = sb) w).drewN nq)
  clear c0 c2 c3 c4 HAV HBV HS HX
  generalize w.drewN nq = w1 at *
  obtain ⟨c0, _, c2, _, _, c5, c6, _, _⟩ := HX1.out.cells
  go_wp2_with (first
      | (go_at_call 81; refine (shift_any _ _ _ _ (by assumption) (by assumption)).mono ?_; rintro e w' ⟨rfl, rfl⟩)
      | (go_at_call 78; refine (add_any a bb _ ha hb).mono ?_; rintro e w' ⟨rfl, rfl⟩)
      | (go_at_call 82; refine (sub_any a bb _ ha hb).mono ?_; rintro e w' ⟨rfl, rfl⟩)
      | (go_at_call 80; refine (less_any a bb _ _ ha hb).mono ?_; rintro e w' ⟨rfl, rfl⟩)
      | (go_at_call 79; refine (bit_any _ _).mono ?_; rintro e w' ⟨rfl, rfl⟩)
      | (go_at_call 72; refine (set_any x sb s D _ _ c0 HS1.out hD5).mono ?_; rintro e w2 ⟨rfl, hS2, hk2⟩; have HS2 := Lib.hid hS2; have HK2 := Lib.hid hk2; clear hS2 hk2))
  go_ret
  exact ⟨by rw [HR.out]; rfl, by rw [HR.out]; exact HS2.out, HK1.out.trans HK2.out (fun _ _ h => h)⟩

set_option maxRecDepth 100000 in
set_option maxHeartbeats 2000000 in
theorem sum_4 (x sb b : Nat) (S T D imm nx : Int) (br : Bool) (s : Cp.St) (w : World) (X : XAt w x sb b ⟨4, S, T, D, imm⟩ nx br) (hS : StAt w sb s) (hS5 : 0 ≤ S ∧ S < 32) (hT5 : 0 ≤ T ∧ T < 32) (hD5 : 0 ≤ D ∧ D < 32) (him : 0 ≤ imm ∧ imm < 4294967296) (a bb : Int)
    (ha : 0 ≤ a ∧ a < 4294967296) (hb : 0 ≤ bb ∧ bb < 4294967296) (hav : s.R S.toNat = a) (hbv : s.R T.toNat = bb) (hxs : x ≠ sb) (r : Int × Cp.St) (HR : Hid (r = Cp.sumAt ⟨4, S, T, D, imm⟩ s a bb)) :
    Calls Tryz.prog 60 #[.pointer (some ⟨x, 0, none⟩)] w fun e w' => AluOk w w' sb r e := by
  have HAV := Lib.hid hav
  have HBV := Lib.hid hbv
  have HS := Lib.hid hS
  have HX := Lib.hid X
  obtain ⟨c0, _, c2, c3, c4, _, _, _, _⟩ := X.cells
  clear X hS hav hbv
  go_enter Tryz.func60, Tryz.ntmps60
  go_upto_region 1 with fail
  go_quiet (first | (go_at_call 70; with_reducible exact v_q x sb s S a _ _ c0 HS.out hS5 HAV.out) | (go_at_call 70; with_reducible exact v_q x sb s T bb _ _ c0 HS.out hT5 HBV.out))
  have HX1 := Lib.hid (show XAt (w.drewN nq) x sb b ⟨4, S, T, D, imm⟩ nx br from HX.out)
  have HS1 := Lib.hid (show StAt (w.drewN nq) sb s from HS.out)
  have HK1 := Lib.hid ((Keeps.refl (· = sb) w).drewN nq)
  clear c0 c2 c3 c4 HAV HBV HS HX
  generalize w.drewN nq = w1 at *
  obtain ⟨c0, _, c2, _, _, c5, c6, _, _⟩ := HX1.out.cells
  go_wp2_with (first
      | (go_at_call 81; refine (shift_any _ _ _ _ (by assumption) (by assumption)).mono ?_; rintro e w' ⟨rfl, rfl⟩)
      | (go_at_call 78; refine (add_any a bb _ ha hb).mono ?_; rintro e w' ⟨rfl, rfl⟩)
      | (go_at_call 82; refine (sub_any a bb _ ha hb).mono ?_; rintro e w' ⟨rfl, rfl⟩)
      | (go_at_call 80; refine (less_any a bb _ _ ha hb).mono ?_; rintro e w' ⟨rfl, rfl⟩)
      | (go_at_call 79; refine (bit_any _ _).mono ?_; rintro e w' ⟨rfl, rfl⟩)
      | (go_at_call 72; refine (set_any x sb s D _ _ c0 HS1.out hD5).mono ?_; rintro e w2 ⟨rfl, hS2, hk2⟩; have HS2 := Lib.hid hS2; have HK2 := Lib.hid hk2; clear hS2 hk2))
  go_ret
  exact ⟨by rw [HR.out]; rfl, by rw [HR.out]; exact HS2.out, HK1.out.trans HK2.out (fun _ _ h => h)⟩

set_option maxRecDepth 100000 in
set_option maxHeartbeats 2000000 in
theorem sum_5 (x sb b : Nat) (S T D imm nx : Int) (br : Bool) (s : Cp.St) (w : World) (X : XAt w x sb b ⟨5, S, T, D, imm⟩ nx br) (hS : StAt w sb s) (hS5 : 0 ≤ S ∧ S < 32) (hT5 : 0 ≤ T ∧ T < 32) (hD5 : 0 ≤ D ∧ D < 32) (him : 0 ≤ imm ∧ imm < 4294967296) (a bb : Int)
    (ha : 0 ≤ a ∧ a < 4294967296) (hb : 0 ≤ bb ∧ bb < 4294967296) (hav : s.R S.toNat = a) (hbv : s.R T.toNat = bb) (hxs : x ≠ sb) (r : Int × Cp.St) (HR : Hid (r = Cp.sumAt ⟨5, S, T, D, imm⟩ s a bb)) :
    Calls Tryz.prog 60 #[.pointer (some ⟨x, 0, none⟩)] w fun e w' => AluOk w w' sb r e := by
  have HAV := Lib.hid hav
  have HBV := Lib.hid hbv
  have HS := Lib.hid hS
  have HX := Lib.hid X
  obtain ⟨c0, _, c2, c3, c4, _, _, _, _⟩ := X.cells
  clear X hS hav hbv
  go_enter Tryz.func60, Tryz.ntmps60
  go_upto_region 1 with fail
  go_quiet (first | (go_at_call 70; with_reducible exact v_q x sb s S a _ _ c0 HS.out hS5 HAV.out) | (go_at_call 70; with_reducible exact v_q x sb s T bb _ _ c0 HS.out hT5 HBV.out))
  have HX1 := Lib.hid (show XAt (w.drewN nq) x sb b ⟨5, S, T, D, imm⟩ nx br from HX.out)
  have HS1 := Lib.hid (show StAt (w.drewN nq) sb s from HS.out)
  have HK1 := Lib.hid ((Keeps.refl (· = sb) w).drewN nq)
  clear c0 c2 c3 c4 HAV HBV HS HX
  generalize w.drewN nq = w1 at *
  obtain ⟨c0, _, c2, _, _, c5, c6, _, _⟩ := HX1.out.cells
  go_wp2_with (first
      | (go_at_call 81; refine (shift_any _ _ _ _ (by assumption) (by assumption)).mono ?_; rintro e w' ⟨rfl, rfl⟩)
      | (go_at_call 78; refine (add_any a bb _ ha hb).mono ?_; rintro e w' ⟨rfl, rfl⟩)
      | (go_at_call 82; refine (sub_any a bb _ ha hb).mono ?_; rintro e w' ⟨rfl, rfl⟩)
      | (go_at_call 80; refine (less_any a bb _ _ ha hb).mono ?_; rintro e w' ⟨rfl, rfl⟩)
      | (go_at_call 79; refine (bit_any _ _).mono ?_; rintro e w' ⟨rfl, rfl⟩)
      | (go_at_call 72; refine (set_any x sb s D _ _ c0 HS1.out hD5).mono ?_; rintro e w2 ⟨rfl, hS2, hk2⟩; have HS2 := Lib.hid hS2; have HK2 := Lib.hid hk2; clear hS2 hk2))
  go_ret
  exact ⟨by rw [HR.out]; rfl, by rw [HR.out]; exact HS2.out, HK1.out.trans HK2.out (fun _ _ h => h)⟩

set_option maxRecDepth 100000 in
set_option maxHeartbeats 2000000 in
theorem sum_6 (x sb b : Nat) (S T D imm nx : Int) (br : Bool) (s : Cp.St) (w : World) (X : XAt w x sb b ⟨6, S, T, D, imm⟩ nx br) (hS : StAt w sb s) (hS5 : 0 ≤ S ∧ S < 32) (hT5 : 0 ≤ T ∧ T < 32) (hD5 : 0 ≤ D ∧ D < 32) (him : 0 ≤ imm ∧ imm < 4294967296) (a bb : Int)
    (ha : 0 ≤ a ∧ a < 4294967296) (hb : 0 ≤ bb ∧ bb < 4294967296) (hav : s.R S.toNat = a) (hbv : s.R T.toNat = bb) (hxs : x ≠ sb) (r : Int × Cp.St) (HR : Hid (r = Cp.sumAt ⟨6, S, T, D, imm⟩ s a bb)) :
    Calls Tryz.prog 60 #[.pointer (some ⟨x, 0, none⟩)] w fun e w' => AluOk w w' sb r e := by
  have HAV := Lib.hid hav
  have HBV := Lib.hid hbv
  have HS := Lib.hid hS
  have HX := Lib.hid X
  obtain ⟨c0, _, c2, c3, c4, _, _, _, _⟩ := X.cells
  clear X hS hav hbv
  go_enter Tryz.func60, Tryz.ntmps60
  go_upto_region 1 with fail
  go_quiet (first | (go_at_call 70; with_reducible exact v_q x sb s S a _ _ c0 HS.out hS5 HAV.out) | (go_at_call 70; with_reducible exact v_q x sb s T bb _ _ c0 HS.out hT5 HBV.out))
  have HX1 := Lib.hid (show XAt (w.drewN nq) x sb b ⟨6, S, T, D, imm⟩ nx br from HX.out)
  have HS1 := Lib.hid (show StAt (w.drewN nq) sb s from HS.out)
  have HK1 := Lib.hid ((Keeps.refl (· = sb) w).drewN nq)
  clear c0 c2 c3 c4 HAV HBV HS HX
  generalize w.drewN nq = w1 at *
  obtain ⟨c0, _, c2, _, _, c5, c6, _, _⟩ := HX1.out.cells
  go_wp2_with (first
      | (go_at_call 81; refine (shift_any _ _ _ _ (by assumption) (by assumption)).mono ?_; rintro e w' ⟨rfl, rfl⟩)
      | (go_at_call 78; refine (add_any a bb _ ha hb).mono ?_; rintro e w' ⟨rfl, rfl⟩)
      | (go_at_call 82; refine (sub_any a bb _ ha hb).mono ?_; rintro e w' ⟨rfl, rfl⟩)
      | (go_at_call 80; refine (less_any a bb _ _ ha hb).mono ?_; rintro e w' ⟨rfl, rfl⟩)
      | (go_at_call 79; refine (bit_any _ _).mono ?_; rintro e w' ⟨rfl, rfl⟩)
      | (go_at_call 72; refine (set_any x sb s D _ _ c0 HS1.out hD5).mono ?_; rintro e w2 ⟨rfl, hS2, hk2⟩; have HS2 := Lib.hid hS2; have HK2 := Lib.hid hk2; clear hS2 hk2))
  go_ret
  exact ⟨by rw [HR.out]; rfl, by rw [HR.out]; exact HS2.out, HK1.out.trans HK2.out (fun _ _ h => h)⟩
end Go.Proofs.YtlbdkcnbgdmpaaaGreatDoor

/- CpuSum1 -/
/- The walks of cpu.sum, one an operation. -/
namespace Go.Proofs.YtlbdkcnbgdmpaaaGreatDoor
open Go.RowKit Go.Deep
set_option linter.unusedVariables false

set_option maxRecDepth 100000 in
set_option maxHeartbeats 2000000 in
theorem sum_19 (x sb b : Nat) (S T D imm nx : Int) (br : Bool) (s : Cp.St) (w : World) (X : XAt w x sb b ⟨19, S, T, D, imm⟩ nx br) (hS : StAt w sb s) (hS5 : 0 ≤ S ∧ S < 32) (hT5 : 0 ≤ T ∧ T < 32) (hD5 : 0 ≤ D ∧ D < 32) (him : 0 ≤ imm ∧ imm < 4294967296) (a bb : Int)
    (ha : 0 ≤ a ∧ a < 4294967296) (hb : 0 ≤ bb ∧ bb < 4294967296) (hav : s.R S.toNat = a) (hbv : s.R T.toNat = bb) (hxs : x ≠ sb) (r : Int × Cp.St) (HR : Hid (r = Cp.sumAt ⟨19, S, T, D, imm⟩ s a bb)) :
    Calls Tryz.prog 60 #[.pointer (some ⟨x, 0, none⟩)] w fun e w' => AluOk w w' sb r e := by
  have HAV := Lib.hid hav
  have HBV := Lib.hid hbv
  have HS := Lib.hid hS
  have HX := Lib.hid X
  obtain ⟨c0, _, c2, c3, c4, _, _, _, _⟩ := X.cells
  clear X hS hav hbv
  go_enter Tryz.func60, Tryz.ntmps60
  go_upto_region 1 with fail
  go_quiet (first | (go_at_call 70; with_reducible exact v_q x sb s S a _ _ c0 HS.out hS5 HAV.out) | (go_at_call 70; with_reducible exact v_q x sb s T bb _ _ c0 HS.out hT5 HBV.out))
  have HX1 := Lib.hid (show XAt (w.drewN nq) x sb b ⟨19, S, T, D, imm⟩ nx br from HX.out)
  have HS1 := Lib.hid (show StAt (w.drewN nq) sb s from HS.out)
  have HK1 := Lib.hid ((Keeps.refl (· = sb) w).drewN nq)
  clear c0 c2 c3 c4 HAV HBV HS HX
  generalize w.drewN nq = w1 at *
  obtain ⟨c0, _, c2, _, _, c5, c6, _, _⟩ := HX1.out.cells
  cases hov : Wd.isS (Wd.sg a + Wd.sg bb)
  · rw [show Cp.sumAt _ s a bb = (12, s) by unfold Cp.sumAt Cp.over; simp [hov]] at HR
    go_wp2_with (first
      | (go_at_call 81; refine (shift_any _ _ _ _ (by assumption) (by assumption)).mono ?_; rintro e w' ⟨rfl, rfl⟩)
      | (go_at_call 78; refine (add_any a bb _ ha hb).mono ?_; rintro e w' ⟨rfl, rfl⟩)
      | (go_at_call 82; refine (sub_any a bb _ ha hb).mono ?_; rintro e w' ⟨rfl, rfl⟩)
      | (go_at_call 80; refine (less_any a bb _ _ ha hb).mono ?_; rintro e w' ⟨rfl, rfl⟩)
      | (go_at_call 79; refine (bit_any _ _).mono ?_; rintro e w' ⟨rfl, rfl⟩)
      | (go_at_call 72; refine (set_any x sb s D _ _ c0 HS1.out hD5).mono ?_; rintro e w2 ⟨rfl, hS2, hk2⟩; have HS2 := Lib.hid hS2; have HK2 := Lib.hid hk2; clear hS2 hk2))
    go_ret
    exact ⟨by rw [HR.out]; rfl, by rw [HR.out]; exact HS1.out, HK1.out⟩
  · rw [show Cp.sumAt _ s a bb = (-1, Cp.setR s D (Cp.sumV _ a bb imm)) by unfold Cp.sumAt Cp.over; simp [hov]; rfl] at HR
    go_wp2_with (first
      | (go_at_call 81; refine (shift_any _ _ _ _ (by assumption) (by assumption)).mono ?_; rintro e w' ⟨rfl, rfl⟩)
      | (go_at_call 78; refine (add_any a bb _ ha hb).mono ?_; rintro e w' ⟨rfl, rfl⟩)
      | (go_at_call 82; refine (sub_any a bb _ ha hb).mono ?_; rintro e w' ⟨rfl, rfl⟩)
      | (go_at_call 80; refine (less_any a bb _ _ ha hb).mono ?_; rintro e w' ⟨rfl, rfl⟩)
      | (go_at_call 79; refine (bit_any _ _).mono ?_; rintro e w' ⟨rfl, rfl⟩)
      | (go_at_call 72; refine (set_any x sb s D _ _ c0 HS1.out hD5).mono ?_; rintro e w2 ⟨rfl, hS2, hk2⟩; have HS2 := Lib.hid hS2; have HK2 := Lib.hid hk2; clear hS2 hk2))
    go_ret
    exact ⟨by rw [HR.out]; rfl, by rw [HR.out]; exact HS2.out, HK1.out.trans HK2.out (fun _ _ h => h)⟩

set_option maxRecDepth 100000 in
set_option maxHeartbeats 2000000 in
theorem sum_20 (x sb b : Nat) (S T D imm nx : Int) (br : Bool) (s : Cp.St) (w : World) (X : XAt w x sb b ⟨20, S, T, D, imm⟩ nx br) (hS : StAt w sb s) (hS5 : 0 ≤ S ∧ S < 32) (hT5 : 0 ≤ T ∧ T < 32) (hD5 : 0 ≤ D ∧ D < 32) (him : 0 ≤ imm ∧ imm < 4294967296) (a bb : Int)
    (ha : 0 ≤ a ∧ a < 4294967296) (hb : 0 ≤ bb ∧ bb < 4294967296) (hav : s.R S.toNat = a) (hbv : s.R T.toNat = bb) (hxs : x ≠ sb) (r : Int × Cp.St) (HR : Hid (r = Cp.sumAt ⟨20, S, T, D, imm⟩ s a bb)) :
    Calls Tryz.prog 60 #[.pointer (some ⟨x, 0, none⟩)] w fun e w' => AluOk w w' sb r e := by
  have HAV := Lib.hid hav
  have HBV := Lib.hid hbv
  have HS := Lib.hid hS
  have HX := Lib.hid X
  obtain ⟨c0, _, c2, c3, c4, _, _, _, _⟩ := X.cells
  clear X hS hav hbv
  go_enter Tryz.func60, Tryz.ntmps60
  go_upto_region 1 with fail
  go_quiet (first | (go_at_call 70; with_reducible exact v_q x sb s S a _ _ c0 HS.out hS5 HAV.out) | (go_at_call 70; with_reducible exact v_q x sb s T bb _ _ c0 HS.out hT5 HBV.out))
  have HX1 := Lib.hid (show XAt (w.drewN nq) x sb b ⟨20, S, T, D, imm⟩ nx br from HX.out)
  have HS1 := Lib.hid (show StAt (w.drewN nq) sb s from HS.out)
  have HK1 := Lib.hid ((Keeps.refl (· = sb) w).drewN nq)
  clear c0 c2 c3 c4 HAV HBV HS HX
  generalize w.drewN nq = w1 at *
  obtain ⟨c0, _, c2, _, _, c5, c6, _, _⟩ := HX1.out.cells
  go_wp2_with (first
      | (go_at_call 81; refine (shift_any _ _ _ _ (by assumption) (by assumption)).mono ?_; rintro e w' ⟨rfl, rfl⟩)
      | (go_at_call 78; refine (add_any a bb _ ha hb).mono ?_; rintro e w' ⟨rfl, rfl⟩)
      | (go_at_call 82; refine (sub_any a bb _ ha hb).mono ?_; rintro e w' ⟨rfl, rfl⟩)
      | (go_at_call 80; refine (less_any a bb _ _ ha hb).mono ?_; rintro e w' ⟨rfl, rfl⟩)
      | (go_at_call 79; refine (bit_any _ _).mono ?_; rintro e w' ⟨rfl, rfl⟩)
      | (go_at_call 72; refine (set_any x sb s D _ _ c0 HS1.out hD5).mono ?_; rintro e w2 ⟨rfl, hS2, hk2⟩; have HS2 := Lib.hid hS2; have HK2 := Lib.hid hk2; clear hS2 hk2))
  go_ret
  exact ⟨by rw [HR.out]; rfl, by rw [HR.out]; exact HS2.out, HK1.out.trans HK2.out (fun _ _ h => h)⟩

set_option maxRecDepth 100000 in
set_option maxHeartbeats 2000000 in
theorem sum_21 (x sb b : Nat) (S T D imm nx : Int) (br : Bool) (s : Cp.St) (w : World) (X : XAt w x sb b ⟨21, S, T, D, imm⟩ nx br) (hS : StAt w sb s) (hS5 : 0 ≤ S ∧ S < 32) (hT5 : 0 ≤ T ∧ T < 32) (hD5 : 0 ≤ D ∧ D < 32) (him : 0 ≤ imm ∧ imm < 4294967296) (a bb : Int)
    (ha : 0 ≤ a ∧ a < 4294967296) (hb : 0 ≤ bb ∧ bb < 4294967296) (hav : s.R S.toNat = a) (hbv : s.R T.toNat = bb) (hxs : x ≠ sb) (r : Int × Cp.St) (HR : Hid (r = Cp.sumAt ⟨21, S, T, D, imm⟩ s a bb)) :
    Calls Tryz.prog 60 #[.pointer (some ⟨x, 0, none⟩)] w fun e w' => AluOk w w' sb r e := by
  have HAV := Lib.hid hav
  have HBV := Lib.hid hbv
  have HS := Lib.hid hS
  have HX := Lib.hid X
  obtain ⟨c0, _, c2, c3, c4, _, _, _, _⟩ := X.cells
  clear X hS hav hbv
  go_enter Tryz.func60, Tryz.ntmps60
  go_upto_region 1 with fail
  go_quiet (first | (go_at_call 70; with_reducible exact v_q x sb s S a _ _ c0 HS.out hS5 HAV.out) | (go_at_call 70; with_reducible exact v_q x sb s T bb _ _ c0 HS.out hT5 HBV.out))
  have HX1 := Lib.hid (show XAt (w.drewN nq) x sb b ⟨21, S, T, D, imm⟩ nx br from HX.out)
  have HS1 := Lib.hid (show StAt (w.drewN nq) sb s from HS.out)
  have HK1 := Lib.hid ((Keeps.refl (· = sb) w).drewN nq)
  clear c0 c2 c3 c4 HAV HBV HS HX
  generalize w.drewN nq = w1 at *
  obtain ⟨c0, _, c2, _, _, c5, c6, _, _⟩ := HX1.out.cells
  cases hov : Wd.isS (Wd.sg a - Wd.sg bb)
  · rw [show Cp.sumAt _ s a bb = (12, s) by unfold Cp.sumAt Cp.over; simp [hov]] at HR
    go_wp2_with (first
      | (go_at_call 81; refine (shift_any _ _ _ _ (by assumption) (by assumption)).mono ?_; rintro e w' ⟨rfl, rfl⟩)
      | (go_at_call 78; refine (add_any a bb _ ha hb).mono ?_; rintro e w' ⟨rfl, rfl⟩)
      | (go_at_call 82; refine (sub_any a bb _ ha hb).mono ?_; rintro e w' ⟨rfl, rfl⟩)
      | (go_at_call 80; refine (less_any a bb _ _ ha hb).mono ?_; rintro e w' ⟨rfl, rfl⟩)
      | (go_at_call 79; refine (bit_any _ _).mono ?_; rintro e w' ⟨rfl, rfl⟩)
      | (go_at_call 72; refine (set_any x sb s D _ _ c0 HS1.out hD5).mono ?_; rintro e w2 ⟨rfl, hS2, hk2⟩; have HS2 := Lib.hid hS2; have HK2 := Lib.hid hk2; clear hS2 hk2))
    go_ret
    exact ⟨by rw [HR.out]; rfl, by rw [HR.out]; exact HS1.out, HK1.out⟩
  · rw [show Cp.sumAt _ s a bb = (-1, Cp.setR s D (Cp.sumV _ a bb imm)) by unfold Cp.sumAt Cp.over; simp [hov]; rfl] at HR
    go_wp2_with (first
      | (go_at_call 81; refine (shift_any _ _ _ _ (by assumption) (by assumption)).mono ?_; rintro e w' ⟨rfl, rfl⟩)
      | (go_at_call 78; refine (add_any a bb _ ha hb).mono ?_; rintro e w' ⟨rfl, rfl⟩)
      | (go_at_call 82; refine (sub_any a bb _ ha hb).mono ?_; rintro e w' ⟨rfl, rfl⟩)
      | (go_at_call 80; refine (less_any a bb _ _ ha hb).mono ?_; rintro e w' ⟨rfl, rfl⟩)
      | (go_at_call 79; refine (bit_any _ _).mono ?_; rintro e w' ⟨rfl, rfl⟩)
      | (go_at_call 72; refine (set_any x sb s D _ _ c0 HS1.out hD5).mono ?_; rintro e w2 ⟨rfl, hS2, hk2⟩; have HS2 := Lib.hid hS2; have HK2 := Lib.hid hk2; clear hS2 hk2))
    go_ret
    exact ⟨by rw [HR.out]; rfl, by rw [HR.out]; exact HS2.out, HK1.out.trans HK2.out (fun _ _ h => h)⟩

set_option maxRecDepth 100000 in
set_option maxHeartbeats 2000000 in
theorem sum_22 (x sb b : Nat) (S T D imm nx : Int) (br : Bool) (s : Cp.St) (w : World) (X : XAt w x sb b ⟨22, S, T, D, imm⟩ nx br) (hS : StAt w sb s) (hS5 : 0 ≤ S ∧ S < 32) (hT5 : 0 ≤ T ∧ T < 32) (hD5 : 0 ≤ D ∧ D < 32) (him : 0 ≤ imm ∧ imm < 4294967296) (a bb : Int)
    (ha : 0 ≤ a ∧ a < 4294967296) (hb : 0 ≤ bb ∧ bb < 4294967296) (hav : s.R S.toNat = a) (hbv : s.R T.toNat = bb) (hxs : x ≠ sb) (r : Int × Cp.St) (HR : Hid (r = Cp.sumAt ⟨22, S, T, D, imm⟩ s a bb)) :
    Calls Tryz.prog 60 #[.pointer (some ⟨x, 0, none⟩)] w fun e w' => AluOk w w' sb r e := by
  have HAV := Lib.hid hav
  have HBV := Lib.hid hbv
  have HS := Lib.hid hS
  have HX := Lib.hid X
  obtain ⟨c0, _, c2, c3, c4, _, _, _, _⟩ := X.cells
  clear X hS hav hbv
  go_enter Tryz.func60, Tryz.ntmps60
  go_upto_region 1 with fail
  go_quiet (first | (go_at_call 70; with_reducible exact v_q x sb s S a _ _ c0 HS.out hS5 HAV.out) | (go_at_call 70; with_reducible exact v_q x sb s T bb _ _ c0 HS.out hT5 HBV.out))
  have HX1 := Lib.hid (show XAt (w.drewN nq) x sb b ⟨22, S, T, D, imm⟩ nx br from HX.out)
  have HS1 := Lib.hid (show StAt (w.drewN nq) sb s from HS.out)
  have HK1 := Lib.hid ((Keeps.refl (· = sb) w).drewN nq)
  clear c0 c2 c3 c4 HAV HBV HS HX
  generalize w.drewN nq = w1 at *
  obtain ⟨c0, _, c2, _, _, c5, c6, _, _⟩ := HX1.out.cells
  go_wp2_with (first
      | (go_at_call 81; refine (shift_any _ _ _ _ (by assumption) (by assumption)).mono ?_; rintro e w' ⟨rfl, rfl⟩)
      | (go_at_call 78; refine (add_any a bb _ ha hb).mono ?_; rintro e w' ⟨rfl, rfl⟩)
      | (go_at_call 82; refine (sub_any a bb _ ha hb).mono ?_; rintro e w' ⟨rfl, rfl⟩)
      | (go_at_call 80; refine (less_any a bb _ _ ha hb).mono ?_; rintro e w' ⟨rfl, rfl⟩)
      | (go_at_call 79; refine (bit_any _ _).mono ?_; rintro e w' ⟨rfl, rfl⟩)
      | (go_at_call 72; refine (set_any x sb s D _ _ c0 HS1.out hD5).mono ?_; rintro e w2 ⟨rfl, hS2, hk2⟩; have HS2 := Lib.hid hS2; have HK2 := Lib.hid hk2; clear hS2 hk2))
  go_ret
  exact ⟨by rw [HR.out]; rfl, by rw [HR.out]; exact HS2.out, HK1.out.trans HK2.out (fun _ _ h => h)⟩

set_option maxRecDepth 100000 in
set_option maxHeartbeats 2000000 in
theorem sum_23 (x sb b : Nat) (S T D imm nx : Int) (br : Bool) (s : Cp.St) (w : World) (X : XAt w x sb b ⟨23, S, T, D, imm⟩ nx br) (hS : StAt w sb s) (hS5 : 0 ≤ S ∧ S < 32) (hT5 : 0 ≤ T ∧ T < 32) (hD5 : 0 ≤ D ∧ D < 32) (him : 0 ≤ imm ∧ imm < 4294967296) (a bb : Int)
    (ha : 0 ≤ a ∧ a < 4294967296) (hb : 0 ≤ bb ∧ bb < 4294967296) (hav : s.R S.toNat = a) (hbv : s.R T.toNat = bb) (hxs : x ≠ sb) (r : Int × Cp.St) (HR : Hid (r = Cp.sumAt ⟨23, S, T, D, imm⟩ s a bb)) :
    Calls Tryz.prog 60 #[.pointer (some ⟨x, 0, none⟩)] w fun e w' => AluOk w w' sb r e := by
  have HAV := Lib.hid hav
  have HBV := Lib.hid hbv
  have HS := Lib.hid hS
  have HX := Lib.hid X
  obtain ⟨c0, _, c2, c3, c4, _, _, _, _⟩ := X.cells
  clear X hS hav hbv
  go_enter Tryz.func60, Tryz.ntmps60
  go_upto_region 1 with fail
  go_quiet (first | (go_at_call 70; with_reducible exact v_q x sb s S a _ _ c0 HS.out hS5 HAV.out) | (go_at_call 70; with_reducible exact v_q x sb s T bb _ _ c0 HS.out hT5 HBV.out))
  have HX1 := Lib.hid (show XAt (w.drewN nq) x sb b ⟨23, S, T, D, imm⟩ nx br from HX.out)
  have HS1 := Lib.hid (show StAt (w.drewN nq) sb s from HS.out)
  have HK1 := Lib.hid ((Keeps.refl (· = sb) w).drewN nq)
  clear c0 c2 c3 c4 HAV HBV HS HX
  generalize w.drewN nq = w1 at *
  obtain ⟨c0, _, c2, _, _, c5, c6, _, _⟩ := HX1.out.cells
  go_wp2_with (first
      | (go_at_call 81; refine (shift_any _ _ _ _ (by assumption) (by assumption)).mono ?_; rintro e w' ⟨rfl, rfl⟩)
      | (go_at_call 78; refine (add_any a bb _ ha hb).mono ?_; rintro e w' ⟨rfl, rfl⟩)
      | (go_at_call 82; refine (sub_any a bb _ ha hb).mono ?_; rintro e w' ⟨rfl, rfl⟩)
      | (go_at_call 80; refine (less_any a bb _ _ ha hb).mono ?_; rintro e w' ⟨rfl, rfl⟩)
      | (go_at_call 79; refine (bit_any _ _).mono ?_; rintro e w' ⟨rfl, rfl⟩)
      | (go_at_call 72; refine (set_any x sb s D _ _ c0 HS1.out hD5).mono ?_; rintro e w2 ⟨rfl, hS2, hk2⟩; have HS2 := Lib.hid hS2; have HK2 := Lib.hid hk2; clear hS2 hk2))
  go_ret
  exact ⟨by rw [HR.out]; rfl, by rw [HR.out]; exact HS2.out, HK1.out.trans HK2.out (fun _ _ h => h)⟩

set_option maxRecDepth 100000 in
set_option maxHeartbeats 2000000 in
theorem sum_24 (x sb b : Nat) (S T D imm nx : Int) (br : Bool) (s : Cp.St) (w : World) (X : XAt w x sb b ⟨24, S, T, D, imm⟩ nx br) (hS : StAt w sb s) (hS5 : 0 ≤ S ∧ S < 32) (hT5 : 0 ≤ T ∧ T < 32) (hD5 : 0 ≤ D ∧ D < 32) (him : 0 ≤ imm ∧ imm < 4294967296) (a bb : Int)
    (ha : 0 ≤ a ∧ a < 4294967296) (hb : 0 ≤ bb ∧ bb < 4294967296) (hav : s.R S.toNat = a) (hbv : s.R T.toNat = bb) (hxs : x ≠ sb) (r : Int × Cp.St) (HR : Hid (r = Cp.sumAt ⟨24, S, T, D, imm⟩ s a bb)) :
    Calls Tryz.prog 60 #[.pointer (some ⟨x, 0, none⟩)] w fun e w' => AluOk w w' sb r e := by
  have HAV := Lib.hid hav
  have HBV := Lib.hid hbv
  have HS := Lib.hid hS
  have HX := Lib.hid X
  obtain ⟨c0, _, c2, c3, c4, _, _, _, _⟩ := X.cells
  clear X hS hav hbv
  go_enter Tryz.func60, Tryz.ntmps60
  go_upto_region 1 with fail
  go_quiet (first | (go_at_call 70; with_reducible exact v_q x sb s S a _ _ c0 HS.out hS5 HAV.out) | (go_at_call 70; with_reducible exact v_q x sb s T bb _ _ c0 HS.out hT5 HBV.out))
  have HX1 := Lib.hid (show XAt (w.drewN nq) x sb b ⟨24, S, T, D, imm⟩ nx br from HX.out)
  have HS1 := Lib.hid (show StAt (w.drewN nq) sb s from HS.out)
  have HK1 := Lib.hid ((Keeps.refl (· = sb) w).drewN nq)
  clear c0 c2 c3 c4 HAV HBV HS HX
  generalize w.drewN nq = w1 at *
  obtain ⟨c0, _, c2, _, _, c5, c6, _, _⟩ := HX1.out.cells
  go_wp2_with (first
      | (go_at_call 81; refine (shift_any _ _ _ _ (by assumption) (by assumption)).mono ?_; rintro e w' ⟨rfl, rfl⟩)
      | (go_at_call 78; refine (add_any a bb _ ha hb).mono ?_; rintro e w' ⟨rfl, rfl⟩)
      | (go_at_call 82; refine (sub_any a bb _ ha hb).mono ?_; rintro e w' ⟨rfl, rfl⟩)
      | (go_at_call 80; refine (less_any a bb _ _ ha hb).mono ?_; rintro e w' ⟨rfl, rfl⟩)
      | (go_at_call 79; refine (bit_any _ _).mono ?_; rintro e w' ⟨rfl, rfl⟩)
      | (go_at_call 72; refine (set_any x sb s D _ _ c0 HS1.out hD5).mono ?_; rintro e w2 ⟨rfl, hS2, hk2⟩; have HS2 := Lib.hid hS2; have HK2 := Lib.hid hk2; clear hS2 hk2))
  go_ret
  exact ⟨by rw [HR.out]; rfl, by rw [HR.out]; exact HS2.out, HK1.out.trans HK2.out (fun _ _ h => h)⟩
end Go.Proofs.YtlbdkcnbgdmpaaaGreatDoor

/- CpuSum2 -/
/- The walks of cpu.sum, one an operation. -/
namespace Go.Proofs.YtlbdkcnbgdmpaaaGreatDoor
open Go.RowKit Go.Deep
set_option linter.unusedVariables false

set_option maxRecDepth 100000 in
set_option maxHeartbeats 2000000 in
theorem sum_25 (x sb b : Nat) (S T D imm nx : Int) (br : Bool) (s : Cp.St) (w : World) (X : XAt w x sb b ⟨25, S, T, D, imm⟩ nx br) (hS : StAt w sb s) (hS5 : 0 ≤ S ∧ S < 32) (hT5 : 0 ≤ T ∧ T < 32) (hD5 : 0 ≤ D ∧ D < 32) (him : 0 ≤ imm ∧ imm < 4294967296) (a bb : Int)
    (ha : 0 ≤ a ∧ a < 4294967296) (hb : 0 ≤ bb ∧ bb < 4294967296) (hav : s.R S.toNat = a) (hbv : s.R T.toNat = bb) (hxs : x ≠ sb) (r : Int × Cp.St) (HR : Hid (r = Cp.sumAt ⟨25, S, T, D, imm⟩ s a bb)) :
    Calls Tryz.prog 60 #[.pointer (some ⟨x, 0, none⟩)] w fun e w' => AluOk w w' sb r e := by
  have HAV := Lib.hid hav
  have HBV := Lib.hid hbv
  have HS := Lib.hid hS
  have HX := Lib.hid X
  obtain ⟨c0, _, c2, c3, c4, _, _, _, _⟩ := X.cells
  clear X hS hav hbv
  go_enter Tryz.func60, Tryz.ntmps60
  go_upto_region 1 with fail
  go_quiet (first | (go_at_call 70; with_reducible exact v_q x sb s S a _ _ c0 HS.out hS5 HAV.out) | (go_at_call 70; with_reducible exact v_q x sb s T bb _ _ c0 HS.out hT5 HBV.out))
  have HX1 := Lib.hid (show XAt (w.drewN nq) x sb b ⟨25, S, T, D, imm⟩ nx br from HX.out)
  have HS1 := Lib.hid (show StAt (w.drewN nq) sb s from HS.out)
  have HK1 := Lib.hid ((Keeps.refl (· = sb) w).drewN nq)
  clear c0 c2 c3 c4 HAV HBV HS HX
  generalize w.drewN nq = w1 at *
  obtain ⟨c0, _, c2, _, _, c5, c6, _, _⟩ := HX1.out.cells
  go_wp2_with (first
      | (go_at_call 81; refine (shift_any _ _ _ _ (by assumption) (by assumption)).mono ?_; rintro e w' ⟨rfl, rfl⟩)
      | (go_at_call 78; refine (add_any a bb _ ha hb).mono ?_; rintro e w' ⟨rfl, rfl⟩)
      | (go_at_call 82; refine (sub_any a bb _ ha hb).mono ?_; rintro e w' ⟨rfl, rfl⟩)
      | (go_at_call 80; refine (less_any a bb _ _ ha hb).mono ?_; rintro e w' ⟨rfl, rfl⟩)
      | (go_at_call 79; refine (bit_any _ _).mono ?_; rintro e w' ⟨rfl, rfl⟩)
      | (go_at_call 72; refine (set_any x sb s D _ _ c0 HS1.out hD5).mono ?_; rintro e w2 ⟨rfl, hS2, hk2⟩; have HS2 := Lib.hid hS2; have HK2 := Lib.hid hk2; clear hS2 hk2))
  go_ret
  exact ⟨by rw [HR.out]; rfl, by rw [HR.out]; exact HS2.out, HK1.out.trans HK2.out (fun _ _ h => h)⟩

set_option maxRecDepth 100000 in
set_option maxHeartbeats 2000000 in
theorem sum_26 (x sb b : Nat) (S T D imm nx : Int) (br : Bool) (s : Cp.St) (w : World) (X : XAt w x sb b ⟨26, S, T, D, imm⟩ nx br) (hS : StAt w sb s) (hS5 : 0 ≤ S ∧ S < 32) (hT5 : 0 ≤ T ∧ T < 32) (hD5 : 0 ≤ D ∧ D < 32) (him : 0 ≤ imm ∧ imm < 4294967296) (a bb : Int)
    (ha : 0 ≤ a ∧ a < 4294967296) (hb : 0 ≤ bb ∧ bb < 4294967296) (hav : s.R S.toNat = a) (hbv : s.R T.toNat = bb) (hxs : x ≠ sb) (r : Int × Cp.St) (HR : Hid (r = Cp.sumAt ⟨26, S, T, D, imm⟩ s a bb)) :
    Calls Tryz.prog 60 #[.pointer (some ⟨x, 0, none⟩)] w fun e w' => AluOk w w' sb r e := by
  have HAV := Lib.hid hav
  have HBV := Lib.hid hbv
  have HS := Lib.hid hS
  have HX := Lib.hid X
  obtain ⟨c0, _, c2, c3, c4, _, _, _, _⟩ := X.cells
  clear X hS hav hbv
  go_enter Tryz.func60, Tryz.ntmps60
  go_upto_region 1 with fail
  go_quiet (first | (go_at_call 70; with_reducible exact v_q x sb s S a _ _ c0 HS.out hS5 HAV.out) | (go_at_call 70; with_reducible exact v_q x sb s T bb _ _ c0 HS.out hT5 HBV.out))
  have HX1 := Lib.hid (show XAt (w.drewN nq) x sb b ⟨26, S, T, D, imm⟩ nx br from HX.out)
  have HS1 := Lib.hid (show StAt (w.drewN nq) sb s from HS.out)
  have HK1 := Lib.hid ((Keeps.refl (· = sb) w).drewN nq)
  clear c0 c2 c3 c4 HAV HBV HS HX
  generalize w.drewN nq = w1 at *
  obtain ⟨c0, _, c2, _, _, c5, c6, _, _⟩ := HX1.out.cells
  go_wp2_with (first
      | (go_at_call 81; refine (shift_any _ _ _ _ (by assumption) (by assumption)).mono ?_; rintro e w' ⟨rfl, rfl⟩)
      | (go_at_call 78; refine (add_any a bb _ ha hb).mono ?_; rintro e w' ⟨rfl, rfl⟩)
      | (go_at_call 82; refine (sub_any a bb _ ha hb).mono ?_; rintro e w' ⟨rfl, rfl⟩)
      | (go_at_call 80; refine (less_any a bb _ _ ha hb).mono ?_; rintro e w' ⟨rfl, rfl⟩)
      | (go_at_call 79; refine (bit_any _ _).mono ?_; rintro e w' ⟨rfl, rfl⟩)
      | (go_at_call 72; refine (set_any x sb s D _ _ c0 HS1.out hD5).mono ?_; rintro e w2 ⟨rfl, hS2, hk2⟩; have HS2 := Lib.hid hS2; have HK2 := Lib.hid hk2; clear hS2 hk2))
  go_ret
  exact ⟨by rw [HR.out]; rfl, by rw [HR.out]; exact HS2.out, HK1.out.trans HK2.out (fun _ _ h => h)⟩

set_option maxRecDepth 100000 in
set_option maxHeartbeats 2000000 in
theorem sum_27 (x sb b : Nat) (S T D imm nx : Int) (br : Bool) (s : Cp.St) (w : World) (X : XAt w x sb b ⟨27, S, T, D, imm⟩ nx br) (hS : StAt w sb s) (hS5 : 0 ≤ S ∧ S < 32) (hT5 : 0 ≤ T ∧ T < 32) (hD5 : 0 ≤ D ∧ D < 32) (him : 0 ≤ imm ∧ imm < 4294967296) (a bb : Int)
    (ha : 0 ≤ a ∧ a < 4294967296) (hb : 0 ≤ bb ∧ bb < 4294967296) (hav : s.R S.toNat = a) (hbv : s.R T.toNat = bb) (hxs : x ≠ sb) (r : Int × Cp.St) (HR : Hid (r = Cp.sumAt ⟨27, S, T, D, imm⟩ s a bb)) :
    Calls Tryz.prog 60 #[.pointer (some ⟨x, 0, none⟩)] w fun e w' => AluOk w w' sb r e := by
  have HAV := Lib.hid hav
  have HBV := Lib.hid hbv
  have HS := Lib.hid hS
  have HX := Lib.hid X
  obtain ⟨c0, _, c2, c3, c4, _, _, _, _⟩ := X.cells
  clear X hS hav hbv
  go_enter Tryz.func60, Tryz.ntmps60
  go_upto_region 1 with fail
  go_quiet (first | (go_at_call 70; with_reducible exact v_q x sb s S a _ _ c0 HS.out hS5 HAV.out) | (go_at_call 70; with_reducible exact v_q x sb s T bb _ _ c0 HS.out hT5 HBV.out))
  have HX1 := Lib.hid (show XAt (w.drewN nq) x sb b ⟨27, S, T, D, imm⟩ nx br from HX.out)
  have HS1 := Lib.hid (show StAt (w.drewN nq) sb s from HS.out)
  have HK1 := Lib.hid ((Keeps.refl (· = sb) w).drewN nq)
  clear c0 c2 c3 c4 HAV HBV HS HX
  generalize w.drewN nq = w1 at *
  obtain ⟨c0, _, c2, _, _, c5, c6, _, _⟩ := HX1.out.cells
  go_wp2_with (first
      | (go_at_call 81; refine (shift_any _ _ _ _ (by assumption) (by assumption)).mono ?_; rintro e w' ⟨rfl, rfl⟩)
      | (go_at_call 78; refine (add_any a bb _ ha hb).mono ?_; rintro e w' ⟨rfl, rfl⟩)
      | (go_at_call 82; refine (sub_any a bb _ ha hb).mono ?_; rintro e w' ⟨rfl, rfl⟩)
      | (go_at_call 80; refine (less_any a bb _ _ ha hb).mono ?_; rintro e w' ⟨rfl, rfl⟩)
      | (go_at_call 79; refine (bit_any _ _).mono ?_; rintro e w' ⟨rfl, rfl⟩)
      | (go_at_call 72; refine (set_any x sb s D _ _ c0 HS1.out hD5).mono ?_; rintro e w2 ⟨rfl, hS2, hk2⟩; have HS2 := Lib.hid hS2; have HK2 := Lib.hid hk2; clear hS2 hk2))
  go_ret
  exact ⟨by rw [HR.out]; rfl, by rw [HR.out]; exact HS2.out, HK1.out.trans HK2.out (fun _ _ h => h)⟩

set_option maxRecDepth 100000 in
set_option maxHeartbeats 2000000 in
theorem sum_28 (x sb b : Nat) (S T D imm nx : Int) (br : Bool) (s : Cp.St) (w : World) (X : XAt w x sb b ⟨28, S, T, D, imm⟩ nx br) (hS : StAt w sb s) (hS5 : 0 ≤ S ∧ S < 32) (hT5 : 0 ≤ T ∧ T < 32) (hD5 : 0 ≤ D ∧ D < 32) (him : 0 ≤ imm ∧ imm < 4294967296) (a bb : Int)
    (ha : 0 ≤ a ∧ a < 4294967296) (hb : 0 ≤ bb ∧ bb < 4294967296) (hav : s.R S.toNat = a) (hbv : s.R T.toNat = bb) (hxs : x ≠ sb) (r : Int × Cp.St) (HR : Hid (r = Cp.sumAt ⟨28, S, T, D, imm⟩ s a bb)) :
    Calls Tryz.prog 60 #[.pointer (some ⟨x, 0, none⟩)] w fun e w' => AluOk w w' sb r e := by
  have HAV := Lib.hid hav
  have HBV := Lib.hid hbv
  have HS := Lib.hid hS
  have HX := Lib.hid X
  obtain ⟨c0, _, c2, c3, c4, _, _, _, _⟩ := X.cells
  clear X hS hav hbv
  go_enter Tryz.func60, Tryz.ntmps60
  go_upto_region 1 with fail
  go_quiet (first | (go_at_call 70; with_reducible exact v_q x sb s S a _ _ c0 HS.out hS5 HAV.out) | (go_at_call 70; with_reducible exact v_q x sb s T bb _ _ c0 HS.out hT5 HBV.out))
  have HX1 := Lib.hid (show XAt (w.drewN nq) x sb b ⟨28, S, T, D, imm⟩ nx br from HX.out)
  have HS1 := Lib.hid (show StAt (w.drewN nq) sb s from HS.out)
  have HK1 := Lib.hid ((Keeps.refl (· = sb) w).drewN nq)
  clear c0 c2 c3 c4 HAV HBV HS HX
  generalize w.drewN nq = w1 at *
  obtain ⟨c0, _, c2, _, _, c5, c6, _, _⟩ := HX1.out.cells
  go_wp2_with (first
      | (go_at_call 81; refine (shift_any _ _ _ _ (by assumption) (by assumption)).mono ?_; rintro e w' ⟨rfl, rfl⟩)
      | (go_at_call 78; refine (add_any a bb _ ha hb).mono ?_; rintro e w' ⟨rfl, rfl⟩)
      | (go_at_call 82; refine (sub_any a bb _ ha hb).mono ?_; rintro e w' ⟨rfl, rfl⟩)
      | (go_at_call 80; refine (less_any a bb _ _ ha hb).mono ?_; rintro e w' ⟨rfl, rfl⟩)
      | (go_at_call 79; refine (bit_any _ _).mono ?_; rintro e w' ⟨rfl, rfl⟩)
      | (go_at_call 72; refine (set_any x sb s D _ _ c0 HS1.out hD5).mono ?_; rintro e w2 ⟨rfl, hS2, hk2⟩; have HS2 := Lib.hid hS2; have HK2 := Lib.hid hk2; clear hS2 hk2))
  go_ret
  exact ⟨by rw [HR.out]; rfl, by rw [HR.out]; exact HS2.out, HK1.out.trans HK2.out (fun _ _ h => h)⟩
end Go.Proofs.YtlbdkcnbgdmpaaaGreatDoor

/- CpuLong0 -/
/- The walks of cpu.long, one an operation. -/
namespace Go.Proofs.YtlbdkcnbgdmpaaaGreatDoor
open Go.RowKit Go.Deep
set_option linter.unusedVariables false

set_option maxRecDepth 100000 in
set_option maxHeartbeats 2000000 in
theorem long_11 (x sb b : Nat) (S T D imm nx : Int) (br : Bool) (s : Cp.St) (w : World) (X : XAt w x sb b ⟨11, S, T, D, imm⟩ nx br) (hS : StAt w sb s) (hS5 : 0 ≤ S ∧ S < 32) (hT5 : 0 ≤ T ∧ T < 32) (hD5 : 0 ≤ D ∧ D < 32) (him : 0 ≤ imm ∧ imm < 4294967296) (a bb : Int)
    (ha : 0 ≤ a ∧ a < 4294967296) (hb : 0 ≤ bb ∧ bb < 4294967296) (hav : s.R S.toNat = a) (hbv : s.R T.toNat = bb) (hxs : x ≠ sb) (r : Int × Cp.St) (HR : Hid (r = Cp.sumAt ⟨11, S, T, D, imm⟩ s a bb)) :
    Calls Tryz.prog 83 #[.pointer (some ⟨x, 0, none⟩)] w fun e w' => AluOk w w' sb r e := by
  have HAV := Lib.hid hav
  have HBV := Lib.hid hbv
  have HS := Lib.hid hS
  have HX := Lib.hid X
  obtain ⟨c0, _, c2, c3, c4, _, _, _, _⟩ := X.cells
  clear X hS hav hbv
  go_enter Tryz.func83, Tryz.ntmps83
  go_upto_region 1 with fail
  go_quiet (first | (go_at_call 70; with_reducible exact v_q x sb s S a _ _ c0 HS.out hS5 HAV.out) | (go_at_call 70; with_reducible exact v_q x sb s T bb _ _ c0 HS.out hT5 HBV.out))
  have HX1 := Lib.hid (show XAt (w.drewN nq) x sb b ⟨11, S, T, D, imm⟩ nx br from HX.out)
  have HS1 := Lib.hid (show StAt (w.drewN nq) sb s from HS.out)
  have HK1 := Lib.hid ((Keeps.refl (· = sb) w).drewN nq)
  clear c0 c2 c3 c4 HAV HBV HS HX
  generalize w.drewN nq = w1 at *
  obtain ⟨c0, _, c2, _, _, c5, c6, _, _⟩ := HX1.out.cells
  obtain ⟨s32, s33, _, _, _, _, _, _, _, _, _⟩ := HS1.out.cells
  have f32 := HS1.out.frozen 32
  have f33 := HS1.out.frozen 33
  go_upto_region 4 with fail
  go_still_tail 13, (by kernel_rfl)
  change wpList _ _ _ _ _ w1.drew
  go_wp2_with fail
  refine (set_any x sb s D _ w1.drew c0 HS1.out hD5).mono ?_
  rintro e w2 ⟨rfl, hS2, hk2⟩
  have HS2 := Lib.hid hS2
  have HK2 := Lib.hid (HK1.out.trans (Keeps.trans ((Keeps.refl (· = sb) w1).drew) hk2 (fun _ _ h => h)) (fun _ _ h => h))
  clear hS2 hk2 c0 c2 s32 s33 f32 f33
  go_wp2_with fail
  go_ret
  exact ⟨by rw [HR.out]; rfl, by rw [HR.out]; exact HS2.out, HK2.out⟩

set_option maxRecDepth 100000 in
set_option maxHeartbeats 2000000 in
theorem long_12 (x sb b : Nat) (S T D imm nx : Int) (br : Bool) (s : Cp.St) (w : World) (X : XAt w x sb b ⟨12, S, T, D, imm⟩ nx br) (hS : StAt w sb s) (hS5 : 0 ≤ S ∧ S < 32) (hT5 : 0 ≤ T ∧ T < 32) (hD5 : 0 ≤ D ∧ D < 32) (him : 0 ≤ imm ∧ imm < 4294967296) (a bb : Int)
    (ha : 0 ≤ a ∧ a < 4294967296) (hb : 0 ≤ bb ∧ bb < 4294967296) (hav : s.R S.toNat = a) (hbv : s.R T.toNat = bb) (hxs : x ≠ sb) (r : Int × Cp.St) (HR : Hid (r = Cp.sumAt ⟨12, S, T, D, imm⟩ s a bb)) :
    Calls Tryz.prog 83 #[.pointer (some ⟨x, 0, none⟩)] w fun e w' => AluOk w w' sb r e := by
  have HAV := Lib.hid hav
  have HBV := Lib.hid hbv
  have HS := Lib.hid hS
  have HX := Lib.hid X
  obtain ⟨c0, _, c2, c3, c4, _, _, _, _⟩ := X.cells
  clear X hS hav hbv
  go_enter Tryz.func83, Tryz.ntmps83
  go_upto_region 1 with fail
  go_quiet (first | (go_at_call 70; with_reducible exact v_q x sb s S a _ _ c0 HS.out hS5 HAV.out) | (go_at_call 70; with_reducible exact v_q x sb s T bb _ _ c0 HS.out hT5 HBV.out))
  have HX1 := Lib.hid (show XAt (w.drewN nq) x sb b ⟨12, S, T, D, imm⟩ nx br from HX.out)
  have HS1 := Lib.hid (show StAt (w.drewN nq) sb s from HS.out)
  have HK1 := Lib.hid ((Keeps.refl (· = sb) w).drewN nq)
  clear c0 c2 c3 c4 HAV HBV HS HX
  generalize w.drewN nq = w1 at *
  obtain ⟨c0, _, c2, _, _, c5, c6, _, _⟩ := HX1.out.cells
  obtain ⟨s32, s33, _, _, _, _, _, _, _, _, _⟩ := HS1.out.cells
  have f32 := HS1.out.frozen 32
  have f33 := HS1.out.frozen 33
  have HS2 := Lib.hid (HS1.out.set 0 (.int .u32 a) (s' := { s with hi := a }) rfl rfl)
  go_wp2_with fail
  go_ret
  exact ⟨by rw [HR.out]; rfl, by rw [HR.out]; exact HS2.out, HK1.out.trans (Keeps.one _ _ _ _) (fun _ _ h => h)⟩

set_option maxRecDepth 100000 in
set_option maxHeartbeats 2000000 in
theorem long_13 (x sb b : Nat) (S T D imm nx : Int) (br : Bool) (s : Cp.St) (w : World) (X : XAt w x sb b ⟨13, S, T, D, imm⟩ nx br) (hS : StAt w sb s) (hS5 : 0 ≤ S ∧ S < 32) (hT5 : 0 ≤ T ∧ T < 32) (hD5 : 0 ≤ D ∧ D < 32) (him : 0 ≤ imm ∧ imm < 4294967296) (a bb : Int)
    (ha : 0 ≤ a ∧ a < 4294967296) (hb : 0 ≤ bb ∧ bb < 4294967296) (hav : s.R S.toNat = a) (hbv : s.R T.toNat = bb) (hxs : x ≠ sb) (r : Int × Cp.St) (HR : Hid (r = Cp.sumAt ⟨13, S, T, D, imm⟩ s a bb)) :
    Calls Tryz.prog 83 #[.pointer (some ⟨x, 0, none⟩)] w fun e w' => AluOk w w' sb r e := by
  have HAV := Lib.hid hav
  have HBV := Lib.hid hbv
  have HS := Lib.hid hS
  have HX := Lib.hid X
  obtain ⟨c0, _, c2, c3, c4, _, _, _, _⟩ := X.cells
  clear X hS hav hbv
  go_enter Tryz.func83, Tryz.ntmps83
  go_upto_region 1 with fail
  go_quiet (first | (go_at_call 70; with_reducible exact v_q x sb s S a _ _ c0 HS.out hS5 HAV.out) | (go_at_call 70; with_reducible exact v_q x sb s T bb _ _ c0 HS.out hT5 HBV.out))
  have HX1 := Lib.hid (show XAt (w.drewN nq) x sb b ⟨13, S, T, D, imm⟩ nx br from HX.out)
  have HS1 := Lib.hid (show StAt (w.drewN nq) sb s from HS.out)
  have HK1 := Lib.hid ((Keeps.refl (· = sb) w).drewN nq)
  clear c0 c2 c3 c4 HAV HBV HS HX
  generalize w.drewN nq = w1 at *
  obtain ⟨c0, _, c2, _, _, c5, c6, _, _⟩ := HX1.out.cells
  obtain ⟨s32, s33, _, _, _, _, _, _, _, _, _⟩ := HS1.out.cells
  have f32 := HS1.out.frozen 32
  have f33 := HS1.out.frozen 33
  go_upto_region 6 with fail
  go_still_tail 13, (by kernel_rfl)
  change wpList _ _ _ _ _ w1.drew
  go_wp2_with fail
  refine (set_any x sb s D _ w1.drew c0 HS1.out hD5).mono ?_
  rintro e w2 ⟨rfl, hS2, hk2⟩
  have HS2 := Lib.hid hS2
  have HK2 := Lib.hid (HK1.out.trans (Keeps.trans ((Keeps.refl (· = sb) w1).drew) hk2 (fun _ _ h => h)) (fun _ _ h => h))
  clear hS2 hk2 c0 c2 s32 s33 f32 f33
  go_wp2_with fail
  go_ret
  exact ⟨by rw [HR.out]; rfl, by rw [HR.out]; exact HS2.out, HK2.out⟩

set_option maxRecDepth 100000 in
set_option maxHeartbeats 2000000 in
theorem long_14 (x sb b : Nat) (S T D imm nx : Int) (br : Bool) (s : Cp.St) (w : World) (X : XAt w x sb b ⟨14, S, T, D, imm⟩ nx br) (hS : StAt w sb s) (hS5 : 0 ≤ S ∧ S < 32) (hT5 : 0 ≤ T ∧ T < 32) (hD5 : 0 ≤ D ∧ D < 32) (him : 0 ≤ imm ∧ imm < 4294967296) (a bb : Int)
    (ha : 0 ≤ a ∧ a < 4294967296) (hb : 0 ≤ bb ∧ bb < 4294967296) (hav : s.R S.toNat = a) (hbv : s.R T.toNat = bb) (hxs : x ≠ sb) (r : Int × Cp.St) (HR : Hid (r = Cp.sumAt ⟨14, S, T, D, imm⟩ s a bb)) :
    Calls Tryz.prog 83 #[.pointer (some ⟨x, 0, none⟩)] w fun e w' => AluOk w w' sb r e := by
  have HAV := Lib.hid hav
  have HBV := Lib.hid hbv
  have HS := Lib.hid hS
  have HX := Lib.hid X
  obtain ⟨c0, _, c2, c3, c4, _, _, _, _⟩ := X.cells
  clear X hS hav hbv
  go_enter Tryz.func83, Tryz.ntmps83
  go_upto_region 1 with fail
  go_quiet (first | (go_at_call 70; with_reducible exact v_q x sb s S a _ _ c0 HS.out hS5 HAV.out) | (go_at_call 70; with_reducible exact v_q x sb s T bb _ _ c0 HS.out hT5 HBV.out))
  have HX1 := Lib.hid (show XAt (w.drewN nq) x sb b ⟨14, S, T, D, imm⟩ nx br from HX.out)
  have HS1 := Lib.hid (show StAt (w.drewN nq) sb s from HS.out)
  have HK1 := Lib.hid ((Keeps.refl (· = sb) w).drewN nq)
  clear c0 c2 c3 c4 HAV HBV HS HX
  generalize w.drewN nq = w1 at *
  obtain ⟨c0, _, c2, _, _, c5, c6, _, _⟩ := HX1.out.cells
  obtain ⟨s32, s33, _, _, _, _, _, _, _, _, _⟩ := HS1.out.cells
  have f32 := HS1.out.frozen 32
  have f33 := HS1.out.frozen 33
  have HS2 := Lib.hid (HS1.out.set 1 (.int .u32 a) (s' := { s with lo := a }) rfl rfl)
  go_wp2_with fail
  go_ret
  exact ⟨by rw [HR.out]; rfl, by rw [HR.out]; exact HS2.out, HK1.out.trans (Keeps.one _ _ _ _) (fun _ _ h => h)⟩
end Go.Proofs.YtlbdkcnbgdmpaaaGreatDoor

/- CpuLong1 -/
/- The walks of cpu.long, one an operation. -/
namespace Go.Proofs.YtlbdkcnbgdmpaaaGreatDoor
open Go.RowKit Go.Deep
set_option linter.unusedVariables false

set_option maxRecDepth 100000 in
set_option maxHeartbeats 4000000 in
theorem long_15 (x sb b : Nat) (S T D imm nx : Int) (br : Bool) (s : Cp.St) (w : World) (X : XAt w x sb b ⟨15, S, T, D, imm⟩ nx br) (hS : StAt w sb s) (hS5 : 0 ≤ S ∧ S < 32) (hT5 : 0 ≤ T ∧ T < 32) (hD5 : 0 ≤ D ∧ D < 32) (him : 0 ≤ imm ∧ imm < 4294967296) (a bb : Int)
    (ha : 0 ≤ a ∧ a < 4294967296) (hb : 0 ≤ bb ∧ bb < 4294967296) (hav : s.R S.toNat = a) (hbv : s.R T.toNat = bb) (hxs : x ≠ sb) (r : Int × Cp.St) (HR : Hid (r = Cp.sumAt ⟨15, S, T, D, imm⟩ s a bb)) :
    Calls Tryz.prog 83 #[.pointer (some ⟨x, 0, none⟩)] w fun e w' => AluOk w w' sb r e := by
  have HAV := Lib.hid hav
  have HBV := Lib.hid hbv
  have HS := Lib.hid hS
  have HX := Lib.hid X
  obtain ⟨c0, _, c2, c3, c4, _, _, _, _⟩ := X.cells
  clear X hS hav hbv
  go_enter Tryz.func83, Tryz.ntmps83
  go_upto_region 1 with fail
  go_quiet (first | (go_at_call 70; with_reducible exact v_q x sb s S a _ _ c0 HS.out hS5 HAV.out) | (go_at_call 70; with_reducible exact v_q x sb s T bb _ _ c0 HS.out hT5 HBV.out))
  have HX1 := Lib.hid (show XAt (w.drewN nq) x sb b ⟨15, S, T, D, imm⟩ nx br from HX.out)
  have HS1 := Lib.hid (show StAt (w.drewN nq) sb s from HS.out)
  have HK1 := Lib.hid ((Keeps.refl (· = sb) w).drewN nq)
  clear c0 c2 c3 c4 HAV HBV HS HX
  generalize w.drewN nq = w1 at *
  obtain ⟨c0, _, c2, _, _, c5, c6, _, _⟩ := HX1.out.cells
  obtain ⟨s32, s33, _, _, _, _, _, _, _, _, _⟩ := HS1.out.cells
  have f32 := HS1.out.frozen 32
  have f33 := HS1.out.frozen 33
  have HS2 := Lib.hid ((HS1.out.set 0 (.int .u32 (Wd.hi a bb true)) (s' := { s with hi := Wd.hi a bb true }) rfl rfl).set 1 (.int .u32 (Wd.lo a bb true)) (s' := { s with hi := Wd.hi a bb true, lo := Wd.lo a bb true }) rfl rfl)
  go_upto_region 13 with fail
  go_region_with (go_at_call 92; with_reducible refine (mul_any a bb true _ ha hb).mono ?_; rintro e w' ⟨rfl, rfl⟩)
  all_goals (
    go_wp2_with fail
    go_ret
    exact ⟨by rw [HR.out]; rfl, by rw [HR.out]; exact StAt.drew2 HS2.out, (HK1.out.trans (Keeps.trans (Keeps.one _ _ _ _) (Keeps.one _ _ _ _) (fun _ _ h => h)) (fun _ _ h => h)).drew⟩)

set_option maxRecDepth 100000 in
set_option maxHeartbeats 4000000 in
theorem long_16 (x sb b : Nat) (S T D imm nx : Int) (br : Bool) (s : Cp.St) (w : World) (X : XAt w x sb b ⟨16, S, T, D, imm⟩ nx br) (hS : StAt w sb s) (hS5 : 0 ≤ S ∧ S < 32) (hT5 : 0 ≤ T ∧ T < 32) (hD5 : 0 ≤ D ∧ D < 32) (him : 0 ≤ imm ∧ imm < 4294967296) (a bb : Int)
    (ha : 0 ≤ a ∧ a < 4294967296) (hb : 0 ≤ bb ∧ bb < 4294967296) (hav : s.R S.toNat = a) (hbv : s.R T.toNat = bb) (hxs : x ≠ sb) (r : Int × Cp.St) (HR : Hid (r = Cp.sumAt ⟨16, S, T, D, imm⟩ s a bb)) :
    Calls Tryz.prog 83 #[.pointer (some ⟨x, 0, none⟩)] w fun e w' => AluOk w w' sb r e := by
  have HAV := Lib.hid hav
  have HBV := Lib.hid hbv
  have HS := Lib.hid hS
  have HX := Lib.hid X
  obtain ⟨c0, _, c2, c3, c4, _, _, _, _⟩ := X.cells
  clear X hS hav hbv
  go_enter Tryz.func83, Tryz.ntmps83
  go_upto_region 1 with fail
  go_quiet (first | (go_at_call 70; with_reducible exact v_q x sb s S a _ _ c0 HS.out hS5 HAV.out) | (go_at_call 70; with_reducible exact v_q x sb s T bb _ _ c0 HS.out hT5 HBV.out))
  have HX1 := Lib.hid (show XAt (w.drewN nq) x sb b ⟨16, S, T, D, imm⟩ nx br from HX.out)
  have HS1 := Lib.hid (show StAt (w.drewN nq) sb s from HS.out)
  have HK1 := Lib.hid ((Keeps.refl (· = sb) w).drewN nq)
  clear c0 c2 c3 c4 HAV HBV HS HX
  generalize w.drewN nq = w1 at *
  obtain ⟨c0, _, c2, _, _, c5, c6, _, _⟩ := HX1.out.cells
  obtain ⟨s32, s33, _, _, _, _, _, _, _, _, _⟩ := HS1.out.cells
  have f32 := HS1.out.frozen 32
  have f33 := HS1.out.frozen 33
  have HS2 := Lib.hid ((HS1.out.set 0 (.int .u32 (Wd.hi a bb false)) (s' := { s with hi := Wd.hi a bb false }) rfl rfl).set 1 (.int .u32 (Wd.lo a bb false)) (s' := { s with hi := Wd.hi a bb false, lo := Wd.lo a bb false }) rfl rfl)
  go_upto_region 13 with fail
  go_region_with (go_at_call 92; with_reducible refine (mul_any a bb false _ ha hb).mono ?_; rintro e w' ⟨rfl, rfl⟩)
  all_goals (
    go_wp2_with fail
    go_ret
    exact ⟨by rw [HR.out]; rfl, by rw [HR.out]; exact StAt.drew2 HS2.out, (HK1.out.trans (Keeps.trans (Keeps.one _ _ _ _) (Keeps.one _ _ _ _) (fun _ _ h => h)) (fun _ _ h => h)).drew⟩)
end Go.Proofs.YtlbdkcnbgdmpaaaGreatDoor

/- CpuLong2 -/
/- The walks of cpu.long, one an operation. -/
namespace Go.Proofs.YtlbdkcnbgdmpaaaGreatDoor
open Go.RowKit Go.Deep
set_option linter.unusedVariables false

theorem sums_17 (S T D imm : Int) (s : Cp.St) (a b : Int) : Cp.sumAt ⟨17, S, T, D, imm⟩ s a b = (-1, if b = 0 then s else { s with lo := Wd.quo a b true, hi := Wd.rst a b true }) := rfl
theorem sumz_17 (S T D imm : Int) (s : Cp.St) (a b : Int) (h : b = 0) : Cp.sumAt ⟨17, S, T, D, imm⟩ s a b = (-1, s) := by rw [sums_17, if_pos h]
theorem sumn_17 (S T D imm : Int) (s : Cp.St) (a b : Int) (h : ¬ b = 0) : Cp.sumAt ⟨17, S, T, D, imm⟩ s a b = (-1, { s with lo := Wd.quo a b true, hi := Wd.rst a b true }) := by rw [sums_17, if_neg h]

set_option maxRecDepth 100000 in
set_option maxHeartbeats 1000000 in
theorem long_17 (x sb b : Nat) (S T D imm nx : Int) (br : Bool) (s : Cp.St) (w : World) (X : XAt w x sb b ⟨17, S, T, D, imm⟩ nx br) (hS : StAt w sb s) (hS5 : 0 ≤ S ∧ S < 32) (hT5 : 0 ≤ T ∧ T < 32) (hD5 : 0 ≤ D ∧ D < 32) (him : 0 ≤ imm ∧ imm < 4294967296) (a bb : Int)
    (ha : 0 ≤ a ∧ a < 4294967296) (hb : 0 ≤ bb ∧ bb < 4294967296) (hav : s.R S.toNat = a) (hbv : s.R T.toNat = bb) (hxs : x ≠ sb) (r : Int × Cp.St) (HR : Hid (r = Cp.sumAt ⟨17, S, T, D, imm⟩ s a bb)) :
    Calls Tryz.prog 83 #[.pointer (some ⟨x, 0, none⟩)] w fun e w' => AluOk w w' sb r e := by
  have HAV := Lib.hid hav
  have HBV := Lib.hid hbv
  have HS := Lib.hid hS
  have HX := Lib.hid X
  obtain ⟨c0, _, c2, c3, c4, _, _, _, _⟩ := X.cells
  clear X hS hav hbv
  go_enter Tryz.func83, Tryz.ntmps83
  go_upto_region 1 with fail
  go_quiet (first | (go_at_call 70; with_reducible exact v_q x sb s S a _ _ c0 HS.out hS5 HAV.out) | (go_at_call 70; with_reducible exact v_q x sb s T bb _ _ c0 HS.out hT5 HBV.out))
  have HX1 := Lib.hid (show XAt (w.drewN nq) x sb b ⟨17, S, T, D, imm⟩ nx br from HX.out)
  have HS1 := Lib.hid (show StAt (w.drewN nq) sb s from HS.out)
  have HK1 := Lib.hid ((Keeps.refl (· = sb) w).drewN nq)
  clear c0 c2 c3 c4 HAV HBV HS HX
  generalize w.drewN nq = w1 at *
  obtain ⟨c0, _, c2, _, _, c5, c6, _, _⟩ := HX1.out.cells
  obtain ⟨s32, s33, _, _, _, _, _, _, _, _, _⟩ := HS1.out.cells
  have f32 := HS1.out.frozen 32
  have f33 := HS1.out.frozen 33
  by_cases hz : bb = 0
  · rw [sumz_17 S T D imm s a bb hz] at HR
    have t1 : (bb != 0) = false := by simp [hz]
    clear hz
    go_wp2_with (go_at_call 93; with_reducible refine (div_any a bb true _ ha hb).mono ?_; rintro e w' ⟨rfl, m, rfl⟩)
    go_ret
    exact ⟨by rw [HR.out]; rfl, by rw [HR.out]; exact HS1.out, HK1.out.drewN _⟩
  · rw [sumn_17 S T D imm s a bb hz] at HR
    have t1 : (bb != 0) = true := by simpa using hz
    clear hz
    go_wp2_with (go_at_call 93; with_reducible refine (div_any a bb true _ ha hb).mono ?_; rintro e w' ⟨rfl, m, rfl⟩)
    have HS1m := Lib.hid (show StAt (w1.drewN m) sb s from HS1.out)
    have HS2 := Lib.hid ((HS1m.out.set 1 (.int .u32 (Wd.quo a bb true)) (s' := { s with lo := Wd.quo a bb true }) rfl rfl).set 0 (.int .u32 (Wd.rst a bb true)) (s' := { s with lo := Wd.quo a bb true, hi := Wd.rst a bb true }) rfl rfl)
    go_region
    all_goals (
      go_wp2_with fail
      go_ret
      exact ⟨by rw [HR.out]; rfl, by rw [HR.out]; exact StAt.drew2 HS2.out, (HK1.out.trans (Keeps.trans (Keeps.trans ((Keeps.refl (· = sb) w1).drewN m) (Keeps.one _ _ _ _) (fun _ _ h => h)) (Keeps.one _ _ _ _) (fun _ _ h => h)) (fun _ _ h => h)).drew⟩)

theorem sums_18 (S T D imm : Int) (s : Cp.St) (a b : Int) : Cp.sumAt ⟨18, S, T, D, imm⟩ s a b = (-1, if b = 0 then s else { s with lo := Wd.quo a b false, hi := Wd.rst a b false }) := rfl
theorem sumz_18 (S T D imm : Int) (s : Cp.St) (a b : Int) (h : b = 0) : Cp.sumAt ⟨18, S, T, D, imm⟩ s a b = (-1, s) := by rw [sums_18, if_pos h]
theorem sumn_18 (S T D imm : Int) (s : Cp.St) (a b : Int) (h : ¬ b = 0) : Cp.sumAt ⟨18, S, T, D, imm⟩ s a b = (-1, { s with lo := Wd.quo a b false, hi := Wd.rst a b false }) := by rw [sums_18, if_neg h]

set_option maxRecDepth 100000 in
set_option maxHeartbeats 1000000 in
theorem long_18 (x sb b : Nat) (S T D imm nx : Int) (br : Bool) (s : Cp.St) (w : World) (X : XAt w x sb b ⟨18, S, T, D, imm⟩ nx br) (hS : StAt w sb s) (hS5 : 0 ≤ S ∧ S < 32) (hT5 : 0 ≤ T ∧ T < 32) (hD5 : 0 ≤ D ∧ D < 32) (him : 0 ≤ imm ∧ imm < 4294967296) (a bb : Int)
    (ha : 0 ≤ a ∧ a < 4294967296) (hb : 0 ≤ bb ∧ bb < 4294967296) (hav : s.R S.toNat = a) (hbv : s.R T.toNat = bb) (hxs : x ≠ sb) (r : Int × Cp.St) (HR : Hid (r = Cp.sumAt ⟨18, S, T, D, imm⟩ s a bb)) :
    Calls Tryz.prog 83 #[.pointer (some ⟨x, 0, none⟩)] w fun e w' => AluOk w w' sb r e := by
  have HAV := Lib.hid hav
  have HBV := Lib.hid hbv
  have HS := Lib.hid hS
  have HX := Lib.hid X
  obtain ⟨c0, _, c2, c3, c4, _, _, _, _⟩ := X.cells
  clear X hS hav hbv
  go_enter Tryz.func83, Tryz.ntmps83
  go_upto_region 1 with fail
  go_quiet (first | (go_at_call 70; with_reducible exact v_q x sb s S a _ _ c0 HS.out hS5 HAV.out) | (go_at_call 70; with_reducible exact v_q x sb s T bb _ _ c0 HS.out hT5 HBV.out))
  have HX1 := Lib.hid (show XAt (w.drewN nq) x sb b ⟨18, S, T, D, imm⟩ nx br from HX.out)
  have HS1 := Lib.hid (show StAt (w.drewN nq) sb s from HS.out)
  have HK1 := Lib.hid ((Keeps.refl (· = sb) w).drewN nq)
  clear c0 c2 c3 c4 HAV HBV HS HX
  generalize w.drewN nq = w1 at *
  obtain ⟨c0, _, c2, _, _, c5, c6, _, _⟩ := HX1.out.cells
  obtain ⟨s32, s33, _, _, _, _, _, _, _, _, _⟩ := HS1.out.cells
  have f32 := HS1.out.frozen 32
  have f33 := HS1.out.frozen 33
  by_cases hz : bb = 0
  · rw [sumz_18 S T D imm s a bb hz] at HR
    have t1 : (bb != 0) = false := by simp [hz]
    clear hz
    go_wp2_with (go_at_call 93; with_reducible refine (div_any a bb false _ ha hb).mono ?_; rintro e w' ⟨rfl, m, rfl⟩)
    go_ret
    exact ⟨by rw [HR.out]; rfl, by rw [HR.out]; exact HS1.out, HK1.out.drewN _⟩
  · rw [sumn_18 S T D imm s a bb hz] at HR
    have t1 : (bb != 0) = true := by simpa using hz
    clear hz
    go_wp2_with (go_at_call 93; with_reducible refine (div_any a bb false _ ha hb).mono ?_; rintro e w' ⟨rfl, m, rfl⟩)
    have HS1m := Lib.hid (show StAt (w1.drewN m) sb s from HS1.out)
    have HS2 := Lib.hid ((HS1m.out.set 1 (.int .u32 (Wd.quo a bb false)) (s' := { s with lo := Wd.quo a bb false }) rfl rfl).set 0 (.int .u32 (Wd.rst a bb false)) (s' := { s with lo := Wd.quo a bb false, hi := Wd.rst a bb false }) rfl rfl)
    go_region
    all_goals (
      go_wp2_with fail
      go_ret
      exact ⟨by rw [HR.out]; rfl, by rw [HR.out]; exact StAt.drew2 HS2.out, (HK1.out.trans (Keeps.trans (Keeps.trans ((Keeps.refl (· = sb) w1).drewN m) (Keeps.one _ _ _ _) (fun _ _ h => h)) (Keeps.one _ _ _ _) (fun _ _ h => h)) (fun _ _ h => h)).drew⟩)
end Go.Proofs.YtlbdkcnbgdmpaaaGreatDoor
