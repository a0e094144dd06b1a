import Derived.Test.YtlbdkcnbgdmpaaaDoorWaitsz7
import Derived.StillTailTactics
import Derived.Test.YtlbdkcnbgdmpaaaDoorWaitsz8
import Derived.Test.YtlbdkcnbgdmpaaaDoorWaitsz3
import Derived.Test.YtlbdkcnbgdmpaaaDoorWaitsz5
import Derived.Test.YtlbdkcnbgdmpaaaDoorWaitsz2

/- CpuSum0 -/
/- The walks of cpu.sum, one an operation. -/
namespace Go.Proofs.YtlbdkcnbgdmpaaaDoor
open Go.RowKit Go.Deep
set_option linter.unusedVariables false

set_option maxRecDepth 100000 in
set_option maxHeartbeats 2000000 in
theorem sum_1 (x sb b : Nat) (S T D imm nx : Int) (br : Bool) (s : Cp.St) (w : World) (X : XAt w x sb b ⟨1, S, T, D, imm⟩ nx br) (hS : StAt w sb s) (hS5 : 0 ≤ S ∧ S < 32) (hT5 : 0 ≤ T ∧ T < 32) (hD5 : 0 ≤ D ∧ D < 32) (him : 0 ≤ imm ∧ imm < 4294967296) (a bb : Int)
    (ha : 0 ≤ a ∧ a < 4294967296) (hb : 0 ≤ bb ∧ bb < 4294967296) (hav : s.R S.toNat = a) (hbv : s.R T.toNat = bb) (hxs : x ≠ sb) (r : Int × Cp.St) (HR : Hid (r = Cp.sumAt ⟨1, S, T, D, imm⟩ s a bb)) :
    Calls Tryd.prog 78 #[.pointer (some ⟨x, 0, none⟩)] w fun e w' => AluOk w w' sb r e := by
  have HAV := Lib.hid hav
  have HBV := Lib.hid hbv
  have HS := Lib.hid hS
  have HX := Lib.hid X
  obtain ⟨c0, _, c2, c3, c4, _, _, _, _⟩ := X.cells
  clear X hS hav hbv
  go_enter Tryd.func78, Tryd.ntmps78
  go_upto_region 1 with fail
  go_quiet (first | (go_at_call 83; with_reducible exact v_q x sb s S a _ _ c0 HS.out hS5 HAV.out) | (go_at_call 83; with_reducible exact v_q x sb s T bb _ _ c0 HS.out hT5 HBV.out))
  have HX1 := Lib.hid (show XAt (w.drewN nq) x sb b ⟨1, S, T, D, imm⟩ nx br from HX.out)
  have HS1 := Lib.hid (show StAt (w.drewN nq) sb s from HS.out)
  have HK1 := Lib.hid ((Keeps.refl (· = sb) w).drewN nq)
  clear c0 c2 c3 c4 HAV HBV HS HX
  generalize w.drewN nq = w1 at *
  obtain ⟨c0, _, c2, _, _, c5, c6, _, _⟩ := HX1.out.cells
  go_wp2_with (first
      | (go_at_call 94; refine (shift_any _ _ _ _ (by assumption) (by assumption)).mono ?_; rintro e w' ⟨rfl, rfl⟩)
      | (go_at_call 91; refine (add_any a bb _ ha hb).mono ?_; rintro e w' ⟨rfl, rfl⟩)
      | (go_at_call 95; refine (sub_any a bb _ ha hb).mono ?_; rintro e w' ⟨rfl, rfl⟩)
      | (go_at_call 93; refine (less_any a bb _ _ ha hb).mono ?_; rintro e w' ⟨rfl, rfl⟩)
      | (go_at_call 92; refine (bit_any _ _).mono ?_; rintro e w' ⟨rfl, rfl⟩)
      | (go_at_call 85; refine (set_any x sb s D _ _ c0 HS1.out hD5).mono ?_; rintro e w2 ⟨rfl, hS2, hk2⟩; have HS2 := Lib.hid hS2; have HK2 := Lib.hid hk2; clear hS2 hk2))
  go_ret
  exact ⟨by rw [HR.out]; rfl, by rw [HR.out]; exact HS2.out, HK1.out.trans HK2.out (fun _ _ h => h)⟩

set_option maxRecDepth 100000 in
set_option maxHeartbeats 2000000 in
theorem sum_2 (x sb b : Nat) (S T D imm nx : Int) (br : Bool) (s : Cp.St) (w : World) (X : XAt w x sb b ⟨2, S, T, D, imm⟩ nx br) (hS : StAt w sb s) (hS5 : 0 ≤ S ∧ S < 32) (hT5 : 0 ≤ T ∧ T < 32) (hD5 : 0 ≤ D ∧ D < 32) (him : 0 ≤ imm ∧ imm < 4294967296) (a bb : Int)
    (ha : 0 ≤ a ∧ a < 4294967296) (hb : 0 ≤ bb ∧ bb < 4294967296) (hav : s.R S.toNat = a) (hbv : s.R T.toNat = bb) (hxs : x ≠ sb) (r : Int × Cp.St) (HR : Hid (r = Cp.sumAt ⟨2, S, T, D, imm⟩ s a bb)) :
    Calls Tryd.prog 78 #[.pointer (some ⟨x, 0, none⟩)] w fun e w' => AluOk w w' sb r e := by
  have HAV := Lib.hid hav
  have HBV := Lib.hid hbv
  have HS := Lib.hid hS
  have HX := Lib.hid X
  obtain ⟨c0, _, c2, c3, c4, _, _, _, _⟩ := X.cells
  clear X hS hav hbv
  go_enter Tryd.func78, Tryd.ntmps78
  go_upto_region 1 with fail
  go_quiet (first | (go_at_call 83; with_reducible exact v_q x sb s S a _ _ c0 HS.out hS5 HAV.out) | (go_at_call 83; with_reducible exact v_q x sb s T bb _ _ c0 HS.out hT5 HBV.out))
  have HX1 := Lib.hid (show XAt (w.drewN nq) x sb b ⟨2, S, T, D, imm⟩ nx br from HX.out)
  have HS1 := Lib.hid (show StAt (w.drewN nq) sb s from HS.out)
  have HK1 := Lib.hid ((Keeps.refl (· = sb) w).drewN nq)
  clear c0 c2 c3 c4 HAV HBV HS HX
  generalize w.drewN nq = w1 at *
  obtain ⟨c0, _, c2, _, _, c5, c6, _, _⟩ := HX1.out.cells
  go_wp2_with (first
      | (go_at_call 94; refine (shift_any _ _ _ _ (by assumption) (by assumption)).mono ?_; rintro e w' ⟨rfl, rfl⟩)
      | (go_at_call 91; refine (add_any a bb _ ha hb).mono ?_; rintro e w' ⟨rfl, rfl⟩)
      | (go_at_call 95; refine (sub_any a bb _ ha hb).mono ?_; rintro e w' ⟨rfl, rfl⟩)
      | (go_at_call 93; refine (less_any a bb _ _ ha hb).mono ?_; rintro e w' ⟨rfl, rfl⟩)
      | (go_at_call 92; refine (bit_any _ _).mono ?_; rintro e w' ⟨rfl, rfl⟩)
      | (go_at_call 85; refine (set_any x sb s D _ _ c0 HS1.out hD5).mono ?_; rintro e w2 ⟨rfl, hS2, hk2⟩; have HS2 := Lib.hid hS2; have HK2 := Lib.hid hk2; clear hS2 hk2))
  go_ret
  exact ⟨by rw [HR.out]; rfl, by rw [HR.out]; exact HS2.out, HK1.out.trans HK2.out (fun _ _ h => h)⟩

set_option maxRecDepth 100000 in
set_option maxHeartbeats 2000000 in
theorem sum_3 (x sb b : Nat) (S T D imm nx : Int) (br : Bool) (s : Cp.St) (w : World) (X : XAt w x sb b ⟨3, S, T, D, imm⟩ nx br) (hS : StAt w sb s) (hS5 : 0 ≤ S ∧ S < 32) (hT5 : 0 ≤ T ∧ T < 32) (hD5 : 0 ≤ D ∧ D < 32) (him : 0 ≤ imm ∧ imm < 4294967296) (a bb : Int)
    (ha : 0 ≤ a ∧ a < 4294967296) (hb : 0 ≤ bb ∧ bb < 4294967296) (hav : s.R S.toNat = a) (hbv : s.R T.toNat = bb) (hxs : x ≠ sb) (r : Int × Cp.St) (HR : Hid (r = Cp.sumAt ⟨3, S, T, D, imm⟩ s a bb)) :
    Calls Tryd.prog 78 #[.pointer (some ⟨x, 0, none⟩)] w fun e w' => AluOk w w' sb r e := by
  have HAV := Lib.hid hav
  have HBV := Lib.hid hbv
  have HS := Lib.hid hS
  have HX := Lib.hid X
  obtain ⟨c0, _, c2, c3, c4, _, _, _, _⟩ := X.cells
  clear X hS hav hbv
  go_enter Tryd.func78, Tryd.ntmps78
  go_upto_region 1 with fail
  go_quiet (first | (go_at_call 83; with_reducible exact v_q x sb s S a _ _ c0 HS.out hS5 HAV.out) | (go_at_call 83; with_reducible exact v_q x sb s T bb _ _ c0 HS.out hT5 HBV.out))
  have HX1 := Lib.hid (show XAt (w.drewN nq) x sb b ⟨3, S, T, D, imm⟩ nx br from HX.out)
  have HS1 := Lib.hid (show StAt (w.drewN nq) sb s from HS.out)
  have HK1 := Lib.hid ((Keeps.refl (· = sb) w).drewN nq)
  clear c0 c2 c3 c4 HAV HBV HS HX
  generalize w.drewN nq = w1 at *
  obtain ⟨c0, _, c2, _, _, c5, c6, _, _⟩ := HX1.out.cells
  go_wp2_with (first
      | (go_at_call 94; refine (shift_any _ _ _ _ (by assumption) (by assumption)).mono ?_; rintro e w' ⟨rfl, rfl⟩)
      | (go_at_call 91; refine (add_any a bb _ ha hb).mono ?_; rintro e w' ⟨rfl, rfl⟩)
      | (go_at_call 95; refine (sub_any a bb _ ha hb).mono ?_; rintro e w' ⟨rfl, rfl⟩)
      | (go_at_call 93; refine (less_any a bb _ _ ha hb).mono ?_; rintro e w' ⟨rfl, rfl⟩)
      | (go_at_call 92; refine (bit_any _ _).mono ?_; rintro e w' ⟨rfl, rfl⟩)
      | (go_at_call 85; refine (set_any x sb s D _ _ c0 HS1.out hD5).mono ?_; rintro e w2 ⟨rfl, hS2, hk2⟩; have HS2 := Lib.hid hS2; have HK2 := Lib.hid hk2; clear hS2 hk2))
  go_ret
  exact ⟨by rw [HR.out]; rfl, by rw [HR.out]; exact HS2.out, HK1.out.trans HK2.out (fun _ _ h => h)⟩

set_option maxRecDepth 100000 in
set_option maxHeartbeats 2000000 in
theorem sum_4 (x sb b : Nat) (S T D imm nx : Int) (br : Bool) (s : Cp.St) (w : World) (X : XAt w x sb b ⟨4, S, T, D, imm⟩ nx br) (hS : StAt w sb s) (hS5 : 0 ≤ S ∧ S < 32) (hT5 : 0 ≤ T ∧ T < 32) (hD5 : 0 ≤ D ∧ D < 32) (him : 0 ≤ imm ∧ imm < 4294967296) (a bb : Int)
    (ha : 0 ≤ a ∧ a < 4294967296) (hb : 0 ≤ bb ∧ bb < 4294967296) (hav : s.R S.toNat = a) (hbv : s.R T.toNat = bb) (hxs : x ≠ sb) (r : Int × Cp.St) (HR : Hid (r = Cp.sumAt ⟨4, S, T, D, imm⟩ s a bb)) :
    Calls Tryd.prog 78 #[.pointer (some ⟨x, 0, none⟩)] w fun e w' => AluOk w w' sb r e := by
  have HAV := Lib.hid hav
  have HBV := Lib.hid hbv
  have HS := Lib.hid hS
  have HX := Lib.hid X
  obtain ⟨c0, _, c2, c3, c4, _, _, _, _⟩ := X.cells
  clear X hS hav hbv
  go_enter Tryd.func78, Tryd.ntmps78
  go_upto_region 1 with fail
  go_quiet (first | (go_at_call 83; with_reducible exact v_q x sb s S a _ _ c0 HS.out hS5 HAV.out) | (go_at_call 83; with_reducible exact v_q x sb s T bb _ _ c0 HS.out hT5 HBV.out))
  have HX1 := Lib.hid (show XAt (w.drewN nq) x sb b ⟨4, S, T, D, imm⟩ nx br from HX.out)
  have HS1 := Lib.hid (show StAt (w.drewN nq) sb s from HS.out)
  have HK1 := Lib.hid ((Keeps.refl (· = sb) w).drewN nq)
  clear c0 c2 c3 c4 HAV HBV HS HX
  generalize w.drewN nq = w1 at *
  obtain ⟨c0, _, c2, _, _, c5, c6, _, _⟩ := HX1.out.cells
  go_wp2_with (first
      | (go_at_call 94; refine (shift_any _ _ _ _ (by assumption) (by assumption)).mono ?_; rintro e w' ⟨rfl, rfl⟩)
      | (go_at_call 91; refine (add_any a bb _ ha hb).mono ?_; rintro e w' ⟨rfl, rfl⟩)
      | (go_at_call 95; refine (sub_any a bb _ ha hb).mono ?_; rintro e w' ⟨rfl, rfl⟩)
      | (go_at_call 93; refine (less_any a bb _ _ ha hb).mono ?_; rintro e w' ⟨rfl, rfl⟩)
      | (go_at_call 92; refine (bit_any _ _).mono ?_; rintro e w' ⟨rfl, rfl⟩)
      | (go_at_call 85; refine (set_any x sb s D _ _ c0 HS1.out hD5).mono ?_; rintro e w2 ⟨rfl, hS2, hk2⟩; have HS2 := Lib.hid hS2; have HK2 := Lib.hid hk2; clear hS2 hk2))
  go_ret
  exact ⟨by rw [HR.out]; rfl, by rw [HR.out]; exact HS2.out, HK1.out.trans HK2.out (fun _ _ h => h)⟩

set_option maxRecDepth 100000 in
set_option maxHeartbeats 2000000 in
theorem sum_5 (x sb b : Nat) (S T D imm nx : Int) (br : Bool) (s : Cp.St) (w : World) (X : XAt w x sb b ⟨5, S, T, D, imm⟩ nx br) (hS : StAt w sb s) (hS5 : 0 ≤ S ∧ S < 32) (hT5 : 0 ≤ T ∧ T < 32) (hD5 : 0 ≤ D ∧ D < 32) (him : 0 ≤ imm ∧ imm < 4294967296) (a bb : Int)
    (ha : 0 ≤ a ∧ a < 4294967296) (hb : 0 ≤ bb ∧ bb < 4294967296) (hav : s.R S.toNat = a) (hbv : s.R T.toNat = bb) (hxs : x ≠ sb) (r : Int × Cp.St) (HR : Hid (r = Cp.sumAt ⟨5, S, T, D, imm⟩ s a bb)) :
    Calls Tryd.prog 78 #[.pointer (some ⟨x, 0, none⟩)] w fun e w' => AluOk w w' sb r e := by
  have HAV := Lib.hid hav
  have HBV := Lib.hid hbv
  have HS := Lib.hid hS
  have HX := Lib.hid X
  obtain ⟨c0, _, c2, c3, c4, _, _, _, _⟩ := X.cells
  clear X hS hav hbv
  go_enter Tryd.func78, Tryd.ntmps78
  go_upto_region 1 with fail
  go_quiet (first | (go_at_call 83; with_reducible exact v_q x sb s S a _ _ c0 HS.out hS5 HAV.out) | (go_at_call 83; with_reducible exact v_q x sb s T bb _ _ c0 HS.out hT5 HBV.out))
  have HX1 := Lib.hid (show XAt (w.drewN nq) x sb b ⟨5, S, T, D, imm⟩ nx br from HX.out)
  have HS1 := Lib.hid (show StAt (w.drewN nq) sb s from HS.out)
  have HK1 := Lib.hid ((Keeps.refl (· = sb) w).drewN nq)
  clear c0 c2 c3 c4 HAV HBV HS HX
  generalize w.drewN nq = w1 at *
  obtain ⟨c0, _, c2, _, _, c5, c6, _, _⟩ := HX1.out.cells
  go_wp2_with (first
      | (go_at_call 94; refine (shift_any _ _ _ _ (by assumption) (by assumption)).mono ?_; rintro e w' ⟨rfl, rfl⟩)
      | (go_at_call 91; refine (add_any a bb _ ha hb).mono ?_; rintro e w' ⟨rfl, rfl⟩)
      | (go_at_call 95; refine (sub_any a bb _ ha hb).mono ?_; rintro e w' ⟨rfl, rfl⟩)
      | (go_at_call 93; refine (less_any a bb _ _ ha hb).mono ?_; rintro e w' ⟨rfl, rfl⟩)
      | (go_at_call 92; refine (bit_any _ _).mono ?_; rintro e w' ⟨rfl, rfl⟩)
      | (go_at_call 85; refine (set_any x sb s D _ _ c0 HS1.out hD5).mono ?_; rintro e w2 ⟨rfl, hS2, hk2⟩; have HS2 := Lib.hid hS2; have HK2 := Lib.hid hk2; clear hS2 hk2))
  go_ret
  exact ⟨by rw [HR.out]; rfl, by rw [HR.out]; exact HS2.out, HK1.out.trans HK2.out (fun _ _ h => h)⟩

set_option maxRecDepth 100000 in
set_option maxHeartbeats 2000000 in
theorem sum_6 (x sb b : Nat) (S T D imm nx : Int) (br : Bool) (s : Cp.St) (w : World) (X : XAt w x sb b ⟨6, S, T, D, imm⟩ nx br) (hS : StAt w sb s) (hS5 : 0 ≤ S ∧ S < 32) (hT5 : 0 ≤ T ∧ T < 32) (hD5 : 0 ≤ D ∧ D < 32) (him : 0 ≤ imm ∧ imm < 4294967296) (a bb : Int)
    (ha : 0 ≤ a ∧ a < 4294967296) (hb : 0 ≤ bb ∧ bb < 4294967296) (hav : s.R S.toNat = a) (hbv : s.R T.toNat = bb) (hxs : x ≠ sb) (r : Int × Cp.St) (HR : Hid (r = Cp.sumAt ⟨6, S, T, D, imm⟩ s a bb)) :
    Calls Tryd.prog 78 #[.pointer (some ⟨x, 0, none⟩)] w fun e w' => AluOk w w' sb r e := by
  have HAV := Lib.hid hav
  have HBV := Lib.hid hbv
  have HS := Lib.hid hS
  have HX := Lib.hid X
  obtain ⟨c0, _, c2, c3, c4, _, _, _, _⟩ := X.cells
  clear X hS hav hbv
  go_enter Tryd.func78, Tryd.ntmps78
  go_upto_region 1 with fail
  go_quiet (first | (go_at_call 83; with_reducible exact v_q x sb s S a _ _ c0 HS.out hS5 HAV.out) | (go_at_call 83; with_reducible exact v_q x sb s T bb _ _ c0 HS.out hT5 HBV.out))
  have HX1 := Lib.hid (show XAt (w.drewN nq) x sb b ⟨6, S, T, D, imm⟩ nx br from HX.out)
  have HS1 := Lib.hid (show StAt (w.drewN nq) sb s from HS.out)
  have HK1 := Lib.hid ((Keeps.refl (· = sb) w).drewN nq)
  clear c0 c2 c3 c4 HAV HBV HS HX
  generalize w.drewN nq = w1 at *
  obtain ⟨c0, _, c2, _, _, c5, c6, _, _⟩ := HX1.out.cells
  go_wp2_with (first
      | (go_at_call 94; refine (shift_any _ _ _ _ (by assumption) (by assumption)).mono ?_; rintro e w' ⟨rfl, rfl⟩)
      | (go_at_call 91; refine (add_any a bb _ ha hb).mono ?_; rintro e w' ⟨rfl, rfl⟩)
      | (go_at_call 95; refine (sub_any a bb _ ha hb).mono ?_; rintro e w' ⟨rfl, rfl⟩)
      | (go_at_call 93; refine (less_any a bb _ _ ha hb).mono ?_; rintro e w' ⟨rfl, rfl⟩)
      | (go_at_call 92; refine (bit_any _ _).mono ?_; rintro e w' ⟨rfl, rfl⟩)
      | (go_at_call 85; refine (set_any x sb s D _ _ c0 HS1.out hD5).mono ?_; rintro e w2 ⟨rfl, hS2, hk2⟩; have HS2 := Lib.hid hS2; have HK2 := Lib.hid hk2; clear hS2 hk2))
  go_ret
  exact ⟨by rw [HR.out]; rfl, by rw [HR.out]; exact HS2.out, HK1.out.trans HK2.out (fun _ _ h => h)⟩
end Go.Proofs.YtlbdkcnbgdmpaaaDoor

/- CpuWaitStep -/
/- cpu.Step where nothing is done: the shift of register 0; an interrupt. -/
namespace Go.Proofs.YtlbdkcnbgdmpaaaDoor
open Go.RowKit Go.Deep
set_option linter.unusedVariables false

/-- the instruction of a word of zeros -/
def sll0 : Cd.Ins := ⟨1, 0, 0, 0, 0⟩
theorem dec0 : Cd.decOf 0 = sll0 := by kernel_rfl
theorem do_sll0 (s : Cp.St) (B : Sb) (nx : Int) : Cp.doIt sll0 s B nx false = ⟨-1, s, B, nx, false⟩ := rfl
set_option maxRecDepth 100000 in
set_option maxHeartbeats 2000000 in
theorem do_goes0 (sb b : Nat) (O : Nat → Prop) (s : Cp.St) (B : Sb) (ea : Nat → Addr) (hs : Cp.Rng s) (hOs : ¬ O sb) : DoGoes sb b O s B ea sll0 := by
  intro x w E X hS hB hxs hOx
  have HS := Lib.hid hS
  have HX := Lib.hid X
  have HB := Lib.hid hB
  have h0 : 0 ≤ s.R 0 ∧ s.R 0 < 4294967296 := hs.R 0 (by omega)
  obtain ⟨_, _, c2, _, _, _, _, _, _⟩ := X.cells
  have HT := Lib.hid (show ((⟨(Cd.kindS (Cd.kd 1)).toArray⟩ : ByteArray).toList == [98, 114, 97, 110, 99, 104]) = false ∧ ((⟨(Cd.kindS (Cd.kd 1)).toArray⟩ : ByteArray).toList == [108, 111, 97, 100]) = false ∧ ((⟨(Cd.kindS (Cd.kd 1)).toArray⟩ : ByteArray).toList == [115, 116, 111, 114, 101]) = false ∧ ((⟨(Cd.kindS (Cd.kd 1)).toArray⟩ : ByteArray).toList == [116, 114, 97, 112]) = false by decide +kernel)
  have HF := Lib.hid (show ((⟨(Cd.row 1).fields.toArray⟩ : ByteArray).toList == [83, 84, 105]) = false by decide +kernel)
  clear X hS hB E hs
  go_enter Tryd.func58, Tryd.ntmps58
  go_wp2_with fail
  refine (Kind_any 1 (by omega) _).mono ?_
  rintro e w1 ⟨rfl, hk1⟩
  have HS1 := Lib.hid (HS.out.keep hk1 (fun h => h))
  have HX1 := Lib.hid (HX.out.keep hk1 (fun h => h))
  have HB1 := Lib.hid (HB.out.keep hk1 (fun _ _ h => h))
  have HK1 := Lib.hid hk1
  clear c2 hk1
  have c2 := HX1.out.cells.2.2.1
  obtain ⟨t1, t2, t3, t4⟩ := HT.out
  generalize (⟨(Cd.kindS (Cd.kd 1)).toArray⟩ : ByteArray) = ks at *
  go_wp2_with fail
  refine (Fields_any 1 (by omega) _).mono ?_
  rintro e w2 ⟨rfl, hk2⟩
  have HS2 := Lib.hid (HS1.out.keep hk2 (fun h => h))
  have HX2 := Lib.hid (HX1.out.keep hk2 (fun h => h))
  have HB2 := Lib.hid (HB1.out.keep hk2 (fun _ _ h => h))
  have HK2 := Lib.hid (HK1.out.trans hk2 (fun _ _ h => h))
  clear c2 hk2 t1 t2 t3 t4
  have c2 := HX2.out.cells.2.2.1
  have t5 := HF.out
  generalize (⟨(Cd.row 1).fields.toArray⟩ : ByteArray) = fs at *
  go_wp2_with fail
  refine (sum_1 x sb b 0 0 0 0 _ _ s w2 HX2.out HS2.out (by omega) (by omega) (by omega) (by omega) _ _ h0 h0 rfl rfl hxs (-1, s) (Lib.hid rfl)).mono ?_
  intro e w3 h
  have H := Lib.hid h
  obtain rfl := h.e
  clear h c2
  go_wp2_with fail
  go_ret
  rw [do_sll0]
  exact ⟨rfl, H.out.st, HX2.out.keep H.out.k hxs, O, HB2.out.keep H.out.k (fun k hk e => hOs (e ▸ hk)), Grew.refl _ _, Keeps.trans (HK2.out.mono (fun _ _ h => h.elim)) H.out.k (fun k _ h => .inl h)⟩

/-- Step, whatever one leaves -/
theorem step_none (sb : Option Addr) (b : Option Addr) (w : World) (h : sb = none ∨ b = none) :
    Calls Tryd.prog 26 #[.pointer sb, .pointer b] w fun e w' => e = .returned (.int .i64 (-1)) ∧ w = w' := by
  rcases h with rfl | rfl
  · go_enter Tryd.func26, Tryd.ntmps26
    go_wp2_with fail
    go_ret
    exact ⟨rfl, rfl⟩
  · cases sb
    all_goals
      go_enter Tryd.func26, Tryd.ntmps26
      go_wp2_with fail
      go_ret
      exact ⟨rfl, rfl⟩
set_option maxRecDepth 100000 in
set_option maxHeartbeats 2000000 in
theorem step_any (sb b : Nat) (O : Nat → Prop) (s : Cp.St) (B : Sb) (w : World) (o : Int × Cp.St × Sb) (hc : Cp.Rng o.2.1) (he : o.1 = -1 ∨ (0 ≤ o.1 ∧ o.1 < 32)) (hOs : ¬ O sb) (hlt : sb < w.heap.size)
    (hone : Calls Tryd.prog 42 #[.pointer (some ⟨sb, 0, none⟩), .pointer (some ⟨b, 0, none⟩)] w fun e w' => StepOk w w' sb b O o e)
    (r : Int × Cp.St × Sb) (hr : Hid (r = (o.1, { (if o.1 = -1 then o.2.1 else Cp.enter o.2.1 o.1) with count := (if o.1 = -1 then o.2.1 else Cp.enter o.2.1 o.1).count + 1 }, o.2.2))) :
    Calls Tryd.prog 26 #[.pointer (some ⟨sb, 0, none⟩), .pointer (some ⟨b, 0, none⟩)] w fun e w' => StepOk w w' sb b O r e := by
  have HO := Lib.hid hone
  have HC := Lib.hid hc
  have hct := hc.count
  clear hone hc
  obtain ⟨e0, s0, B0⟩ := o
  simp only at he hct
  go_enter Tryd.func26, Tryd.ntmps26
  go_wp2_with fail
  refine HO.out.mono ?_
  intro e w1 h
  have H := Lib.hid h
  obtain rfl := h.e
  obtain ⟨O', hB1, hG1, hK1⟩ := h.k
  have HB1 := Lib.hid hB1
  have HG1 := Lib.hid hG1
  have HK1 := Lib.hid hK1
  have hO' : ¬ O' sb := fun h2 => by
    rcases hG1 sb h2 with h3 | h3
    · exact hOs h3
    · omega
  clear h hB1 hG1 hK1
  by_cases h1 : e0 = -1
  · subst h1
    have HR := Lib.hid (show r = (-1, { s0 with count := s0.count + 1 }, B0) from hr.out)
    have hst := H.out.st
    simp only at hst
    have s42 := hst.cells.2.2.2.2.2.2.2.2.2.2
    have f42 := hst.frozen 42
    have HSET := Lib.hid (hst.set 10 (.int .i64 (s0.count + 1)) (s' := { s0 with count := s0.count + 1 }) rfl rfl)
    clear hst
    go_wp2_with fail
    go_ret
    refine ⟨by rw [HR.out]; rfl, by rw [HR.out]; exact HSET.out, O', ?_, HG1.out, HK1.out.trans (Keeps.one _ _ _ _) (fun k _ h => .inl h)⟩
    rw [HR.out]
    exact HB1.out.keep (Keeps.one _ _ _ _) (fun k hk e => hO' (e ▸ hk))
  · have t1 : (e0 != -1) = true := by simpa using h1
    have HR := Lib.hid (show r = (e0, { (Cp.enter s0 e0) with count := (Cp.enter s0 e0).count + 1 }, B0) by rw [hr.out, if_neg h1])
    have hst := H.out.st
    simp only at hst
    have he2 : 0 ≤ e0 ∧ e0 < 32 := by omega
    have hcn : (Cp.enter s0 e0).count = s0.count := by unfold Cp.enter; split <;> rfl
    have HST := Lib.hid hst
    clear h1 hst
    go_wp2_with fail
    refine (enter_any sb s0 e0 w1 HST.out HC.out he2 _ (Lib.hid rfl)).mono ?_
    rintro e w2 ⟨rfl, hS2, hk2⟩
    have hs42 := hS2.cells.2.2.2.2.2.2.2.2.2.2
    rw [hcn] at hs42
    have f42 := hS2.frozen 42
    have HSET := Lib.hid (hS2.set 10 (.int .i64 (s0.count + 1)) (s' := { (Cp.enter s0 e0) with count := s0.count + 1 }) rfl rfl)
    rw [hcn] at HR
    have HK2 := Lib.hid hk2
    clear hS2 hk2 hcn
    generalize Cp.enter s0 e0 = s1 at *
    go_wp2_with fail
    go_ret
    refine ⟨by rw [HR.out]; rfl, by rw [HR.out]; exact HSET.out, O', ?_, HG1.out, (HK1.out.trans HK2.out (fun k _ h => .inl h)).trans (Keeps.one _ _ _ _) (fun k _ h => .inl h)⟩
    rw [HR.out]
    exact (HB1.out.keep HK2.out (fun k hk e => hO' (e ▸ hk))).keep (Keeps.one _ _ _ _) (fun k hk e => hO' (e ▸ hk))
theorem cpuNew_any (pc : Int) (w : World) (hpc : 0 ≤ pc ∧ pc < 4294967296) :
    Calls Tryd.prog 27 #[.int .u32 pc] w fun e w' => e = .returned (.pointer (some ⟨w.heap.size, 0, none⟩)) ∧ StAt w' w.heap.size ⟨fun _ => 0, 0, 0, pc, Cp.u (pc + 4), false, 0, 0, 0, 0, 0, 0⟩ ∧ Keeps (fun _ => False) w w' := by
  go_enter Tryd.func27, Tryd.ntmps27
  go_wp2_with fail
  go_ret
  exact ⟨rfl, blk_alloc_new w _, (Keeps.refl _ w).alloc _⟩
end Go.Proofs.YtlbdkcnbgdmpaaaDoor

/- Bused -/
/- The walk of bused. -/
namespace Go.Proofs.YtlbdkcnbgdmpaaaDoor
open Go.RowKit Go.Deep
set_option linter.unusedVariables false

theorem owns_some {w : World} {base : Nat} {e : TypeId} {size : Nat} {v : Value} {n : Nat} {xs : List Value} (h : w.ownsRow base e size v n xs) (hn : 0 < n) :
    ∃ g cap, v = .slice (some ⟨g, 0, none⟩) n cap ∧ base ≤ g ∧ n ≤ cap ∧ cap ≤ maxLen ∧ ∀ j u, xs[j]? = some u → w.cell? ⟨g, j, none⟩ = some u := by
  have hc := fun g j u => World.ownsRow.cells h (g := g) (j := j) (u := u)
  rcases h.2 with ⟨h3, h4⟩ | ⟨g, cp, cur, h3, h5, h6, h7, h8, _⟩
  · omega
  · refine ⟨g, cp, h3, h5, h7, h8, fun j u hu => ?_⟩
    have := hc g j u (by rw [h3]; rfl) hu
    rwa [Addr.add_lit, Nat.zero_add] at this

end Go.Proofs.YtlbdkcnbgdmpaaaDoor

/- AsBus -/
/- The walks of coded, sameTrace, asBus, Copy of a bus; new buses. -/
namespace Go.Proofs.YtlbdkcnbgdmpaaaDoor
open Go.RowKit Go.Deep
set_option linter.unusedVariables false

theorem coded_any (c : Nat) (hc : c ≤ 10) (w : World) (ea : Nat → Addr) (E : ErrsAll w ea) :
    Calls Tryd.prog 16 #[errOf ea c, .int .i64 c] w fun e w' => e = .returned (.bool true) ∧ Keeps (fun _ => False) w w' := by
  by_cases h0 : c = 0
  · subst h0
    show Calls _ _ #[.nilIface, .int .i64 0] w _
    go_enter Tryd.func16, Tryd.ntmps16
    go_wp2_with fail
    refine (code_nil _).mono ?_
    rintro e w' ⟨rfl, rfl⟩
    go_wp2_with fail
    go_ret
    exact ⟨rfl, Keeps.refl _ _⟩
  · rw [errOf_ne h0]
    have h1 : 1 ≤ c := by omega
    have HE := Lib.hid E
    clear h0 E
    unfold errV
    go_enter Tryd.func16, Tryd.ntmps16
    go_wp2_with fail
    refine (code_sent c h1 hc _ ea HE.out).mono ?_
    rintro e w' ⟨rfl, hk⟩
    go_wp2_with fail
    go_ret
    exact ⟨rfl, hk⟩

/-- a slice of accesses as it lies -/
def TrAt (w : World) (A : Option Addr) (n cap : Nat) (tr : List Value) : Prop := n ≤ cap ∧ cap ≤ maxLen ∧ (n = 0 ∨ ∃ g, A = some ⟨g, 0, none⟩ ∧ ∀ j u, tr[j]? = some u → w.cell? ⟨g, j, none⟩ = some u)
theorem TrAt.of_owns {w : World} {base : Nat} {e : TypeId} {v : Value} {n : Nat} {xs : List Value} (h : w.ownsRow base e 4 v n xs) : ∃ A cap, v = .slice A n cap ∧ TrAt w A n cap xs := by
  by_cases h0 : n = 0
  · rcases h.2 with ⟨h1, h2⟩ | ⟨g, cap, cur, h1, h2, h3, h4, h5, _⟩
    · exact ⟨none, 0, by rw [h1, h2], by omega, by omega, .inl h0⟩
    · exact ⟨_, cap, h1, h4, h5, .inl h0⟩
  · obtain ⟨g, cap, h1, _, h3, h4, h5⟩ := owns_some h (by omega)
    exact ⟨_, cap, h1, h3, h4, .inr ⟨g, rfl, h5⟩⟩
theorem TrAt.keep {w w' : World} {A : Option Addr} {n cap : Nat} {tr : List Value} (h : TrAt w A n cap tr) (k : Keeps (fun _ => False) w w') : TrAt w' A n cap tr := by
  obtain ⟨h1, h2, h3 | ⟨g, h3, h4⟩⟩ := h
  · exact ⟨h1, h2, .inl h3⟩
  · exact ⟨h1, h2, .inr ⟨g, h3, fun j u hu => k.cell' (h4 j u hu) (fun f => f)⟩⟩

set_option maxRecDepth 100000 in
set_option maxHeartbeats 1000000 in
theorem sameTrace_same (A B : Option Addr) (n ca cb : Nat) (tr : List Value) (w : World) (h1 : TrAt w A n ca tr) (h2 : TrAt w B n cb tr) (hacc : AccRow tr n) (hn : n < 1000000) :
    Calls Tryd.prog 30 #[.slice A n ca, .slice B n cb] w fun e w' => e = .returned (.bool true) ∧ Keeps (fun _ => False) w w' := by
  have b1 := h1.1
  have b2 := h2.1
  have b3 : ca ≤ 9223372036854775807 := by have := h1.2.1; unfold maxLen at this; omega
  have b4 : cb ≤ 9223372036854775807 := by have := h2.2.1; unfold maxLen at this; omega
  have H1 := Lib.hid h1
  have H2 := Lib.hid h2
  have HA := Lib.hid hacc
  clear h1 h2 hacc
  go_enter Tryd.func30, Tryd.ntmps30
  go_wp2_with fail
  go_loopw [5] (fun s5 wr => ∃ i : Nat, i ≤ n ∧ s5 = .int .i64 i ∧ Keeps (fun _ => False) w wr) (fun s5 _ => n - (intOf s5).toNat)
  case atStart => exact ⟨0, by omega, rfl, Keeps.refl _ w⟩
  case round =>
    obtain ⟨i, hi, rfl, hK⟩ := hrel
    by_cases hlt : i < n
    · obtain ⟨c, s, a, v, e1, e2, e3, e4⟩ := HA.out.2 i hlt
      obtain ⟨ga, rfl, hca⟩ : ∃ g, A = some ⟨g, 0, none⟩ ∧ ∀ j u, tr[j]? = some u → wr.cell? ⟨g, j, none⟩ = some u := by
        obtain ⟨_, _, h3 | h3⟩ := H1.out.keep hK
        · omega
        · exact h3
      obtain ⟨gb, rfl, hcb⟩ : ∃ g, B = some ⟨g, 0, none⟩ ∧ ∀ j u, tr[j]? = some u → wr.cell? ⟨g, j, none⟩ = some u := by
        obtain ⟨_, _, h3 | h3⟩ := H2.out.keep hK
        · omega
        · exact h3
      have p1 := hca _ _ e1
      have p2 := hca _ _ e2
      have p3 := hca _ _ e3
      have p4 := hca _ _ e4
      have r1 := hcb _ _ e1
      have r2 := hcb _ _ e2
      have r3 := hcb _ _ e3
      have r4 := hcb _ _ e4
      clear hca hcb e1 e2 e3 e4
      go_wp2_with fail
      go_quiet (fail)
      go_wp2_with fail
      go_roundw
      case rel => exact ⟨i + 1, by omega, by go_num, hK.drewN _⟩
      case measure => simp [intOf]; omega
    · obtain rfl : i = n := by omega
      go_wp2_with fail
      go_ret
      exact ⟨rfl, hK⟩

/-- a new bus' state -/
def s0 (n : Nat) (ws : Nat → Int) : Sb := ⟨ramOf n ws, [], 0, 0, []⟩
theorem bus_new (len cap : Nat) (A : Option Addr) (w : World) (ws : Nat → Int) (hR : Reads w A len cap (fun i => .int .u32 (ws i))) (hc : cap ≤ 9223372036854775807) (hr : ∀ i, i < len → 0 ≤ ws i ∧ ws i < 4294967296) :
    Calls Tryd.prog 23 #[.slice A len cap] w fun e w' => ∃ b O, e = .returned (.pointer (some ⟨b, 0, none⟩)) ∧ BInv b O w' (s0 (min len 4096) ws) ∧ Keeps (fun _ => False) w w' ∧ ∀ k, O k → w.heap.size ≤ k := by
  refine (busNew_any len cap A w ws hR hc hr).mono fun e w' ⟨b, r, pb, pw, ph, he, h⟩ => ⟨b, fun k => k = b ∨ k = r ∨ k = pb ∨ k = pw ∨ k = ph, he, ⟨r, pb, pw, ph, 16384, .slice none 0 0, .slice none 0 0, ?_⟩, h.keeps, fun k hk => by have := h.new; omega⟩
  exact {
    bus := h.bus
    ram := h.ram
    watch := h.watch
    hits := h.hits
    own := by simp
    own1 := fun k hk => by cases hk
    own2 := fun k hk => by cases hk
    sep := h.apart
    lt := fun k hk => by
      have g1 := (Array.getElem?_eq_some_iff.1 h.bus.box).1
      have g2 := (Array.getElem?_eq_some_iff.1 h.ram.box).1
      have g3 := h.ram.bytes.lt
      have g4 := (Array.getElem?_eq_some_iff.1 h.watch).1
      have g5 := (Array.getElem?_eq_some_iff.1 h.hits).1
      omega
    acc := ⟨rfl, fun i hi => by cases hi⟩ }
/-- memories that are alike -/
theorem alike_ram (a wb : Nat) (m : Nat → Int) (w wc : World) (hr : wc.rowIs a 23 4096 (fun i => .int .u32 (be m (4 * i) 4))) (hw : RowTo w wb 23 4096 (fun i => .int .u32 (be m (4 * i) 4))) (hk : Keeps (fun _ => False) w wc) :
    Calls Tryd.prog 14 #[.slice (some ⟨a, 0, none⟩) 4096 4096, .slice (some ⟨wb, 0, none⟩) 4096 4096] wc fun e w' => e = .returned (.int .i64 1) ∧ Keeps (fun _ => False) wc w' :=
  alike_same a wb 4096 4096 4096 (fun i => be m (4 * i) 4) wc (by omega) (by omega) (by omega) (fun i hi => hr.cell hi) (fun i hi => (hk.rowTo hw (fun h => h)).cell hi)
end Go.Proofs.YtlbdkcnbgdmpaaaDoor

/- Waits -/
/- The closed fact stepped; the walk of the law CpuWaits. -/
namespace Go.Proofs.YtlbdkcnbgdmpaaaDoor
open Go.RowKit Go.Deep
set_option linter.unusedVariables false

/-- the instruction of stepped -/
def addi7 : Cd.Ins := ⟨36, 0, 1, 0, 7⟩
theorem dec7 : Cd.decOf 604045319 = addi7 := by kernel_rfl
theorem ok7 : Cd.Ok addi7 := dec7 ▸ Cd.ok_dec _
theorem do_addi7 (s : Cp.St) (B : Sb) (nx : Int) : Cp.doIt addi7 s B nx false = ⟨(Cp.atOnce addi7 s).1, (Cp.atOnce addi7 s).2, B, nx, false⟩ := rfl
set_option maxRecDepth 100000 in
set_option maxHeartbeats 2000000 in
theorem do_goes7 (sb b : Nat) (O : Nat → Prop) (s : Cp.St) (B : Sb) (ea : Nat → Addr) (hs : Cp.Rng s) (hOs : ¬ O sb) : DoGoes sb b O s B ea addi7 := by
  intro x w E X hS hB hxs hOx
  have HS := Lib.hid hS
  have HX := Lib.hid X
  have HB := Lib.hid hB
  have HG := Lib.hid hs
  obtain ⟨_, _, c2, _, _, _, _, _, _⟩ := X.cells
  have HT := Lib.hid (show ((⟨(Cd.kindS (Cd.kd 36)).toArray⟩ : ByteArray).toList == [98, 114, 97, 110, 99, 104]) = false ∧ ((⟨(Cd.kindS (Cd.kd 36)).toArray⟩ : ByteArray).toList == [108, 111, 97, 100]) = false ∧ ((⟨(Cd.kindS (Cd.kd 36)).toArray⟩ : ByteArray).toList == [115, 116, 111, 114, 101]) = false ∧ ((⟨(Cd.kindS (Cd.kd 36)).toArray⟩ : ByteArray).toList == [116, 114, 97, 112]) = false by decide +kernel)
  have HF := Lib.hid (show ((⟨(Cd.row 36).fields.toArray⟩ : ByteArray).toList == [83, 84, 105]) = true by decide +kernel)
  clear X hS hB E hs
  go_enter Tryd.func58, Tryd.ntmps58
  go_wp2_with fail
  refine (Kind_any 36 (by omega) _).mono ?_
  rintro e w1 ⟨rfl, hk1⟩
  have HS1 := Lib.hid (HS.out.keep hk1 (fun h => h))
  have HX1 := Lib.hid (HX.out.keep hk1 (fun h => h))
  have HB1 := Lib.hid (HB.out.keep hk1 (fun _ _ h => h))
  have HK1 := Lib.hid hk1
  clear c2 hk1
  have c2 := HX1.out.cells.2.2.1
  obtain ⟨t1, t2, t3, t4⟩ := HT.out
  generalize (⟨(Cd.kindS (Cd.kd 36)).toArray⟩ : ByteArray) = ks at *
  go_wp2_with fail
  refine (Fields_any 36 (by omega) _).mono ?_
  rintro e w2 ⟨rfl, hk2⟩
  have HS2 := Lib.hid (HS1.out.keep hk2 (fun h => h))
  have HX2 := Lib.hid (HX1.out.keep hk2 (fun h => h))
  have HB2 := Lib.hid (HB1.out.keep hk2 (fun _ _ h => h))
  have HK2 := Lib.hid (HK1.out.trans hk2 (fun _ _ h => h))
  clear c2 hk2 t1 t2 t3 t4
  have c2 := HX2.out.cells.2.2.1
  have t5 := HF.out
  generalize (⟨(Cd.row 36).fields.toArray⟩ : ByteArray) = fs at *
  go_wp2_with fail
  refine (atOnce_any x sb b addi7 _ _ s w2 HX2.out HS2.out HG.out ok7 (by decide) hxs _ (Lib.hid rfl)).mono ?_
  intro e w3 h
  have H := Lib.hid h
  obtain rfl := h.e
  clear h c2
  go_wp2_with fail
  go_ret
  rw [do_addi7]
  exact ⟨rfl, H.out.st, HX2.out.keep H.out.k hxs, O, HB2.out.keep H.out.k (fun k hk e => hOs (e ▸ hk)), Grew.refl _ _, Keeps.trans (HK2.out.mono (fun _ _ h => h.elim)) H.out.k (fun k _ h => .inl h)⟩

theorem rng_new (pc : Int) (h : 0 ≤ pc ∧ pc < 4294967296) : Cp.Rng ⟨fun _ => 0, 0, 0, pc, Cp.u (pc + 4), false, 0, 0, 0, 0, 0, 0⟩ :=
  ⟨fun _ _ => Cp.W_0, Cp.W_0, Cp.W_0, h, Cp.W_u _, Cp.W_0, Cp.W_0, Cp.W_0, Cp.W_0, Cp.W_0, ⟨Int.le_refl _, (show (0 : Int) < 4611686018427387904 by decide)⟩⟩
theorem rightC4' (a : Int) (h0 : 0 ≤ a) (h1 : a % 4 = 0) (h2 : a < 16384) : rightC a 4 = 0 := by
  unfold rightC
  rw [if_neg (by omega), if_neg (by omega), if_neg (by omega)]
/-- the state of stepped before and behind -/
def st0 (pc : Int) : Cp.St := ⟨fun _ => 0, 0, 0, pc, Cp.u (pc + 4), false, 0, 0, 0, 0, 0, 0⟩
def bus7 : Sb := s0 (min 1 4096) (fun _ => 604045319)
theorem bus7_word : be bus7.m (0 : Int).toNat 4 = 604045319 := by kernel_rfl
def st7 : Cp.St := { Cp.setR (st0 0) 1 7 with pc := 4, next := 8, slot := false, count := 1 }
theorem ins7 : Cp.ins addi7 (st0 0) bus7 = (-1, { Cp.setR (st0 0) 1 7 with pc := 4, next := 8, slot := false }, bus7) := rfl
set_option maxRecDepth 100000 in
set_option maxHeartbeats 2000000 in
theorem stepped_any (w : World) (ea : Nat → Addr) (E : Errs3 w ea) :
    Calls Tryd.prog 22 #[] w fun e w' => e = .returned (.bool true) ∧ Keeps (fun _ => False) w w' := by
  have HE := Lib.hid E
  clear E
  go_enter Tryd.func22, Tryd.ntmps22
  go_wp2_with fail
  refine (cpuNew_any 0 _ (by omega)).mono ?_
  rintro e w1 ⟨rfl, hS1, hk1⟩
  have HS1 := Lib.hid (show StAt w1 w.heap.size (st0 0) from hS1)
  have HK1 := Lib.hid hk1
  clear hS1 hk1
  have HSL := Lib.hid HS1.out.lt
  go_wp2_with fail
  have ka := (Keeps.refl (fun _ => False) w1).alloc (.cells #[.int .u32 604045319] 23)
  refine (bus_new 1 1 _ _ (fun _ => 604045319) ⟨by omega, .inr ⟨_, _, rfl, by simp, fun i hi => ?_⟩⟩ (by omega) (fun _ _ => by omega)).mono ?_
  · obtain rfl : i = 0 := by omega
    simp [World.cell?_alloc_new]
  rintro e w2 ⟨b, O, rfl, hB, hk2, hO⟩
  have hk12 := ka.trans hk2 (fun _ _ h => h)
  have HS2 := Lib.hid (HS1.out.keep hk12 (fun h => h))
  have HB2 := Lib.hid (show BInv b O w2 bus7 from hB)
  have HK2 := Lib.hid (HK1.out.trans hk12 (fun _ _ h => h))
  have HE2 := Lib.hid (HE.out.keep HK2.out ⟨fun h => h, fun h => h, fun h => h⟩)
  have hs1 : (w1.alloc (.cells #[.int .u32 604045319] 23)).heap.size = w1.heap.size + 1 := by simp
  have hOs : ¬ O w.heap.size := fun h => by have := hO _ h; have := HSL.out; omega
  have hOw : ∀ k, O k → w.heap.size ≤ k := fun k h => by have := hO _ h; have := HSL.out; omega
  have HOW := Lib.hid hOw
  clear hB hk2 hk12 ka hO hs1 hOw
  generalize hsb : w.heap.size = sb at *
  have HSB := Lib.hid hsb
  clear hsb
  have hone := one_ins sb b O (st0 0) bus7 w2 ea HE2.out HS2.out HB2.out (rng_new 0 (by omega)) hOs rfl (rightC4' 0 (by omega) (by omega) (by omega)) 604045319 bus7_word (by omega) addi7 dec7 (do_goes7 sb b O (st0 0) bus7 ea (rng_new 0 (by omega)) hOs) _ (Lib.hid rfl)
  rw [ins7] at hone
  have hrng : Cp.Rng { Cp.setR (st0 0) 1 7 with pc := 4, next := 8, slot := false } := by
    refine ⟨fun k hk => ?_, Cp.W_0, Cp.W_0, (show Cp.W 4 by unfold Cp.W; omega), (show Cp.W 8 by unfold Cp.W; omega), Cp.W_0, Cp.W_0, Cp.W_0, Cp.W_0, Cp.W_0, ⟨Int.le_refl _, (show (0 : Int) < 4611686018427387904 by decide)⟩⟩
    show Cp.W (if k = 1 then 7 else 0)
    unfold Cp.W
    split <;> omega
  have hst := step_any sb b O (st0 0) bus7 w2 (-1, { Cp.setR (st0 0) 1 7 with pc := 4, next := 8, slot := false }, bus7) hrng (.inl rfl) hOs HS2.out.lt hone (-1, st7, bus7) (Lib.hid (by rw [if_pos rfl]; rfl))
  have HST := Lib.hid hst
  clear hst hone hrng
  go_wp2_with fail
  refine HST.out.mono ?_
  intro e w3 h
  obtain rfl := h.e
  have hS3 := h.st
  obtain ⟨_, _, _, hK3⟩ := h.k
  have HK3 := Lib.hid (HK2.out.trans hK3 (fun k hk h => by
    rcases h with h | h
    · have := HSB.out; omega
    · have := HOW.out k h; have := HSB.out; omega))
  obtain ⟨_, _, s34, s35, _, _, _, _, _, _, s42⟩ := hS3.cells
  have r1 := hS3.reg 1 (by omega)
  clear h hS3 hK3
  have r1' : w3.cell? ⟨sb, 1, none⟩ = some (.int .u32 7) := r1
  have s34' : w3.cell? ⟨sb, 34, none⟩ = some (.int .u32 4) := s34
  have s35' : w3.cell? ⟨sb, 35, none⟩ = some (.int .u32 8) := s35
  have s42' : w3.cell? ⟨sb, 42, none⟩ = some (.int .i64 1) := s42
  clear r1 s34 s35 s42
  go_wp2_with fail
  go_ret
  exact ⟨rfl, HK3.out⟩
end Go.Proofs.YtlbdkcnbgdmpaaaDoor

/- CpuWaits -/
/- The walk of the law CpuWaits. -/
namespace Go.Proofs.YtlbdkcnbgdmpaaaDoor
open Go.RowKit Go.Deep
set_option linter.unusedVariables false

/-- the state behind k steps that did nothing -/
def stW (c st : Int) (k : Nat) : Cp.St := ⟨fun _ => 0, 0, 0, 1024 + 4 * k, 1028 + 4 * k, false, st, 0, 0, 0, c, k⟩
def busW : Sb := s0 (min 0 4096) (fun _ => 0)
theorem busW_word (a : Nat) : be busW.m a 4 = 0 := by
  show 256 * (256 * (256 * (256 * 0 + busW.m (a + 0)) + busW.m (a + 1)) + busW.m (a + 2)) + busW.m (a + 3) = 0
  have h : ∀ j, busW.m j = 0 := fun j => by
    have e : busW.m j = if j < 4 * (min 0 4096) then Wb 0 (j % 4) else 0 := rfl
    rw [e, if_neg (by simp)]
  rw [h, h, h, h]; rfl
theorem rngW (c st : Int) (k : Nat) (hc : 0 ≤ c ∧ c < 4294967296) (hs : 0 ≤ st ∧ st < 4294967296) (hk : k ≤ 200) : Cp.Rng (stW c st k) :=
  ⟨fun _ _ => Cp.W_0, Cp.W_0, Cp.W_0, (show Cp.W (1024 + 4 * k) by unfold Cp.W; omega), (show Cp.W (1028 + 4 * k) by unfold Cp.W; omega), hs, Cp.W_0, Cp.W_0, Cp.W_0, hc, ⟨(show (0 : Int) ≤ k by omega), (show (k : Int) < 4611686018427387904 by omega)⟩⟩
theorem insW (c st : Int) (k : Nat) (hk : k ≤ 200) : Cp.ins sll0 (stW c st k) busW = (-1, { stW c st (k + 1) with count := k }, busW) := by
  unfold Cp.ins
  rw [do_sll0]
  show (((-1 : Int)), (if (-1 : Int) = -1 ∧ (1 : Nat) ≠ 45 then { stW c st k with pc := 1028 + 4 * (k : Int), next := Cp.u ((1028 + 4 * (k : Int)) + 4), slot := false } else _), busW) = _
  rw [if_pos ⟨rfl, by decide⟩]
  have e1 : (1028 : Int) + 4 * (k : Int) = 1024 + 4 * ((k + 1 : Nat) : Int) := by push_cast; omega
  have e2 : Cp.u ((1028 + 4 * (k : Int)) + 4) = 1028 + 4 * ((k + 1 : Nat) : Int) := by unfold Cp.u; push_cast; omega
  rw [e2, e1]
  rfl
theorem wait_step (sb b : Nat) (O : Nat → Prop) (c st : Int) (k : Nat) (w : World) (ea : Nat → Addr) (E : Errs3 w ea) (hS : StAt w sb (stW c st k)) (hB : BInv b O w busW) (hOs : ¬ O sb) (hc : 0 ≤ c ∧ c < 4294967296) (hs : 0 ≤ st ∧ st < 4294967296) (hk : k < 200) (hd : Cp.due (stW c st k) = false) :
    Calls Tryd.prog 26 #[.pointer (some ⟨sb, 0, none⟩), .pointer (some ⟨b, 0, none⟩)] w fun e w' => StepOk w w' sb b O (-1, stW c st (k + 1), busW) e := by
  have hg := rngW c st k hc hs (by omega)
  have hg2 := rngW c st (k + 1) hc hs (by omega)
  have hp : (stW c st k).pc = 1024 + 4 * k := rfl
  have hone := one_ins sb b O (stW c st k) busW w ea E hS hB hg hOs hd (rightC4' _ (by rw [hp]; omega) (by rw [hp]; omega) (by rw [hp]; omega)) 0 (busW_word _) (by omega) sll0 dec0 (do_goes0 sb b O _ busW ea hg hOs) _ (Lib.hid rfl)
  rw [insW c st k (by omega)] at hone
  refine step_any sb b O (stW c st k) busW w (-1, { stW c st (k + 1) with count := k }, busW) ⟨hg2.R, hg2.hi, hg2.lo, hg2.pc, hg2.next, hg2.status, hg2.cause, hg2.epc, hg2.bad, hg2.compare, hg.count⟩ (.inl rfl) hOs hS.lt hone _ (Lib.hid ?_)
  rw [if_pos rfl]
  rfl
theorem wait_due (sb b : Nat) (O : Nat → Prop) (c : Int) (k : Nat) (w : World) (hS : StAt w sb (stW c 1 k)) (hB : BInv b O w busW) (hOs : ¬ O sb) (hc : 0 ≤ c ∧ c < 4294967296) (hk : k < 200) (hd : Cp.due (stW c 1 k) = true) :
    Calls Tryd.prog 26 #[.pointer (some ⟨sb, 0, none⟩), .pointer (some ⟨b, 0, none⟩)] w fun e w' => StepOk w w' sb b O (0, ⟨fun _ => 0, 0, 0, 384, 388, false, 3, 0, 1024 + 4 * k, 0, c, (k : Int) + 1⟩, busW) e := by
  have hg := rngW c 1 k hc (by omega) (by omega)
  refine step_any sb b O (stW c 1 k) busW w (0, stW c 1 k, busW) hg (.inr ⟨(show (0 : Int) ≤ 0 by decide), (show (0 : Int) < 32 by decide)⟩) hOs hS.lt ?_ _ (Lib.hid ?_)
  · exact (one_due sb b (stW c 1 k) w hS hg hd).mono fun e w' ⟨he, hw⟩ => by
      subst hw
      exact ⟨he, hS, O, hB, Grew.refl _ _, Keeps.refl _ _⟩
  · rw [if_neg (show ¬ (0 : Int) = -1 by decide)]
    rfl

/-- where the law stands -/
def WRel (w wr : World) (sb b : Nat) (c st : Int) (k : Nat) : Prop :=
  StAt wr sb (stW c st k) ∧ w.heap.size ≤ sb ∧ Keeps (fun _ => False) w wr ∧ ∃ O, BInv b O wr busW ∧ ¬ O sb ∧ ∀ j, O j → w.heap.size ≤ j
theorem WRel.step {w wr w' : World} {sb b : Nat} {c st : Int} {k : Nat} {O : Nat → Prop} {q : Int × Cp.St × Sb} {e : Ending} (hS : StAt wr sb (stW c st k)) (hsb : w.heap.size ≤ sb) (hK : Keeps (fun _ => False) w wr) (hOs : ¬ O sb) (hO : ∀ j, O j → w.heap.size ≤ j) (hq : q = (-1, stW c st (k + 1), busW)) (h : StepOk wr w' sb b O q e) : WRel w w' sb b c st (k + 1) := by
  subst hq
  obtain ⟨O', h1, h2, h3⟩ := h.k
  refine ⟨h.st, hsb, hK.trans h3 (fun j hj e => ?_), O', h1, fun h4 => ?_, fun j hj => ?_⟩
  · rcases e with e | e
    · omega
    · have := hO j e; omega
  · rcases h2 sb h4 with h5 | h5
    · exact hOs h5
    · have := hS.lt; omega
  · rcases h2 j hj with h5 | h5
    · exact hO j h5
    · have := hK.size; omega

set_option maxRecDepth 100000 in
set_option maxHeartbeats 4000000 in
theorem cpuWaits_any (c status n : Int) (w : World) (ea : Nat → Addr) (E : Errs3 w ea) (hc : 0 ≤ c ∧ c < 4294967296) (hs : 0 ≤ status ∧ status < 4294967296) :
    Calls Tryd.prog 6 #[.int .u32 c, .int .u32 status, .int .i64 n] w fun e w' => e = .returned (.bool true) ∧ Keeps (fun _ => False) w w' := by
  by_cases h1 : n < 0
  · go_enter Tryd.func6, Tryd.ntmps6
    go_wp2_with fail
    refine (stepped_any _ ea E).mono ?_
    rintro e w1 ⟨rfl, hK1⟩
    clear E
    go_wp2_with fail
    go_ret
    exact ⟨rfl, hK1⟩
  by_cases h2 : 200 < n
  · go_enter Tryd.func6, Tryd.ntmps6
    go_wp2_with fail
    refine (stepped_any _ ea E).mono ?_
    rintro e w1 ⟨rfl, hK1⟩
    clear E
    go_wp2_with fail
    go_ret
    exact ⟨rfl, hK1⟩
  by_cases h3 : 1048576 < c
  · go_enter Tryd.func6, Tryd.ntmps6
    go_wp2_with fail
    refine (stepped_any _ ea E).mono ?_
    rintro e w1 ⟨rfl, hK1⟩
    clear E
    go_wp2_with fail
    go_ret
    exact ⟨rfl, hK1⟩
  obtain ⟨nn, rfl⟩ := Int.eq_ofNat_of_zero_le (show 0 ≤ n by omega)
  have HE := Lib.hid E
  clear E
  go_enter Tryd.func6, Tryd.ntmps6
  go_wp2_with fail
  refine (stepped_any _ ea HE.out).mono ?_
  rintro e w1 ⟨rfl, hK1⟩
  go_wp2_with fail
  refine (cpuNew_any 1024 _ (by omega)).mono ?_
  rintro e w2 ⟨rfl, hS2, hk2⟩
  have HS2 := Lib.hid hS2
  have HK2 := Lib.hid (hK1.trans hk2 (fun _ _ h => h))
  have HSB := Lib.hid hK1.size
  clear hS2 hk2 hK1
  generalize w1.heap.size = sb at *
  go_wp2_with fail
  refine (bus_new 0 0 none _ (fun _ => 0) ⟨by omega, .inl rfl⟩ (by omega) (fun _ _ => by omega)).mono ?_
  rintro e w3 ⟨b, O, rfl, hB, hk3, hO⟩
  have HB3 := Lib.hid (show BInv b O w3 busW from hB)
  have HS3 := Lib.hid (HS2.out.keep hk3 (fun h => h))
  have HK3 := Lib.hid (HK2.out.trans hk3 (fun _ _ h => h))
  have hOs : ¬ O sb := fun h => by have := hO _ h; have := HS2.out.lt; omega
  have HO := Lib.hid (fun j (h : O j) => show w.heap.size ≤ j by have := hO _ h; have := HK2.out.size; omega)
  clear hB hk3 hO
  obtain ⟨_, _, _, _, _, s37, _, _, _, s41, _⟩ := HS3.out.cells
  have f37 := HS3.out.frozen 37
  have f41 := HS3.out.frozen 41
  have HS4 := Lib.hid ((HS3.out.set 9 (.int .u32 c) (s' := ⟨fun _ => 0, 0, 0, 1024, Cp.u (1024 + 4), false, 0, 0, 0, 0, c, 0⟩) rfl rfl).set 5 (.int .u32 (status % 4)) (s' := stW c (status % 4) 0) rfl rfl)
  go_wp2_with fail
  have HST := Lib.hid (show WRel w ((w3.setCell ⟨sb, 41, none⟩ (.int .u32 c)).setCell ⟨sb, 37, none⟩ (.int .u32 (status % 4))) sb b c (status % 4) 0 from
    ⟨HS4.out, HSB.out, Keeps.trans (Keeps.trans HK3.out (Keeps.one _ _ _ _) (fun j hj e => by have := HSB.out; omega)) (Keeps.one _ _ _ _) (fun j hj e => by have := HSB.out; omega), O,
      (HB3.out.keep (Keeps.trans (Keeps.one _ _ _ _) (Keeps.one _ _ _ _) (fun _ _ h => h)) (fun j hj e => hOs (e ▸ hj))), hOs, HO.out⟩)
  have hst4 : 0 ≤ status % 4 ∧ status % 4 < 4 := by omega
  clear s37 s41 f37 f41
  generalize (w3.setCell ⟨sb, 41, none⟩ (.int .u32 c)).setCell ⟨sb, 37, none⟩ (.int .u32 (status % 4)) = w4 at *
  generalize status % 4 = st at *
  go_loopw [10] (fun s10 wr => ∃ k : Nat, k ≤ nn ∧ s10 = .int .i64 k ∧ WRel w wr sb b c st k) (fun s10 _ => nn - (intOf s10).toNat)
  case atStart => exact ⟨0, by omega, rfl, HST.out⟩
  case round =>
    clear HST
    obtain ⟨k, hk, rfl, hS, hsb, hK, O, hB, hOs, hO⟩ := hrel
    have HS := Lib.hid hS
    have HK := Lib.hid hK
    have HB := Lib.hid hB
    have HO := Lib.hid hO
    have HEr := Lib.hid (HE.out.keep hK ⟨fun h => h, fun h => h, fun h => h⟩)
    have s34 : wr.cell? ⟨sb, 34, none⟩ = some (.int .u32 (1024 + 4 * k)) := hS.cells.2.2.1
    have s37 : wr.cell? ⟨sb, 37, none⟩ = some (.int .u32 st) := hS.cells.2.2.2.2.2.1
    have s42 : wr.cell? ⟨sb, 42, none⟩ = some (.int .i64 k) := hS.cells.2.2.2.2.2.2.2.2.2.2
    clear hS hK hB hO
    by_cases hlt : k < nn
    · by_cases hdue : c ≠ 0 ∧ c ≤ k ∧ st = 1
      · obtain ⟨d1, d2, rfl⟩ := hdue
        have t1 : decide (0 < c) = true := by simp; omega
        have t2 : decide (c ≤ (k : Int)) = true := by simp; omega
        have hd : Cp.due (stW c 1 k) = true := by
          show decide (c ≠ 0 ∧ c ≤ (k : Int) ∧ (1 : Int) % 4 = 1) = true
          exact decide_eq_true ⟨d1, d2, by decide⟩
        go_wp2_with fail
        refine (wait_due sb b O c k wr HS.out HB.out hOs hc (by omega) hd).mono ?_
        intro e w5 h
        obtain rfl := h.e
        have hS5 := h.st
        obtain ⟨_, _, _, hK5⟩ := h.k
        have HK5 := Lib.hid (HK.out.trans hK5 (fun j hj e => by
          rcases e with e | e
          · omega
          · have := HO.out j e; omega))
        have u34 : w5.cell? ⟨sb, 34, none⟩ = some (.int .u32 384) := hS5.cells.2.2.1
        have u37 : w5.cell? ⟨sb, 37, none⟩ = some (.int .u32 3) := hS5.cells.2.2.2.2.2.1
        have u38 : w5.cell? ⟨sb, 38, none⟩ = some (.int .u32 0) := hS5.cells.2.2.2.2.2.2.1
        have u42 : w5.cell? ⟨sb, 42, none⟩ = some (.int .i64 ((k : Int) + 1)) := hS5.cells.2.2.2.2.2.2.2.2.2.2
        clear h hS5 hK5 s34 s37 s42
        go_wp2_with fail
        go_ret
        exact ⟨rfl, HK5.out⟩
      · have hd : Cp.due (stW c st k) = false := by
          show decide (c ≠ 0 ∧ c ≤ (k : Int) ∧ st % 4 = 1) = false
          exact decide_eq_false (by omega)
        have HSTEP := Lib.hid (wait_step sb b O c st k wr ea HEr.out HS.out HB.out hOs hc (by omega) (by omega) hd)
        clear hd
        by_cases d1 : c = 0
        · have t1 : decide (0 < c) = false := by simp; omega
          clear hdue d1
          go_wp2_with fail
          refine HSTEP.out.mono ?_
          intro e w5 h
          have HW := Lib.hid (WRel.step HS.out hsb HK.out hOs HO.out rfl h)
          obtain rfl := h.e
          clear h s34 s37 s42
          go_wp2_with fail
          go_roundw
          case rel => exact ⟨k + 1, by omega, by go_num, HW.out⟩
          case measure => simp [intOf]; omega
        · have t1 : decide (0 < c) = true := by simp; omega
          by_cases d2 : c ≤ k
          · have t2 : decide (c ≤ (k : Int)) = true := by simp; omega
            have t3 : (st == 1) = false := by simp; omega
            clear hdue
            go_wp2_with fail
            refine HSTEP.out.mono ?_
            intro e w5 h
            have HW := Lib.hid (WRel.step HS.out hsb HK.out hOs HO.out rfl h)
            obtain rfl := h.e
            clear h s34 s37 s42
            go_wp2_with fail
            go_roundw
            case rel => exact ⟨k + 1, by omega, by go_num, HW.out⟩
            case measure => simp [intOf]; omega
          · have t2 : decide (c ≤ (k : Int)) = false := by simp; omega
            clear hdue
            go_wp2_with fail
            refine HSTEP.out.mono ?_
            intro e w5 h
            have HW := Lib.hid (WRel.step HS.out hsb HK.out hOs HO.out rfl h)
            obtain rfl := h.e
            clear h s34 s37 s42
            go_wp2_with fail
            go_roundw
            case rel => exact ⟨k + 1, by omega, by go_num, HW.out⟩
            case measure => simp [intOf]; omega
    · obtain rfl : k = nn := by omega
      go_wp2_with fail
      go_ret
      exact ⟨rfl, HK.out⟩
end Go.Proofs.YtlbdkcnbgdmpaaaDoor
