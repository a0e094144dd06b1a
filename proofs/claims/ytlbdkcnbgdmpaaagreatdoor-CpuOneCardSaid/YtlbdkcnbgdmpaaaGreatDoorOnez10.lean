import Derived.Test.YtlbdkcnbgdmpaaaGreatDoorOnez9

/- Rsum1 -/
/- The reference's processor: the walks of sum, one an operation (1). Printed by gen/rsum.py. -/
namespace Go.Proofs.YtlbdkcnbgdmpaaaGreatDoor
open Go.RowKit Go.Deep
set_option linter.unusedVariables false

set_option maxRecDepth 100000 in
set_option maxHeartbeats 2000000 in
theorem rsum_19 (sb : Nat) (S T D imm : Int) (s : Cp.St) (w : World) (hS : StAt w sb s) (hS5 : 0 ≤ S ∧ S < 32) (hT5 : 0 ≤ T ∧ T < 32) (hD5 : 0 ≤ D ∧ D < 32) (him : 0 ≤ imm ∧ imm < 4294967296) (a bb : Int)
    (ha : 0 ≤ a ∧ a < 4294967296) (hb : 0 ≤ bb ∧ bb < 4294967296) (hav : s.R S.toNat = a) (hbv : s.R T.toNat = bb) (h0 : s.R 0 = 0) (v : Int) (HV : Hid (Cp.sumK (Cp.kindK 19) a bb = v)) (hov : Wd.isS (Wd.sg a + Wd.sg bb) = true) :
    Calls Tryz.prog 88 #[.pointer (some ⟨sb, 0, none⟩), .agg (insC ⟨19, S, T, D, imm⟩)] w fun e w' => RfOk w w' sb (-1, Cp.setR s D v) e := by
  obtain ⟨S, rfl⟩ := Int.eq_ofNat_of_zero_le hS5.1
  obtain ⟨T, rfl⟩ := Int.eq_ofNat_of_zero_le hT5.1
  obtain ⟨D, rfl⟩ := Int.eq_ofNat_of_zero_le hD5.1
  rw [Int.toNat_natCast] at hav hbv
  have HO := Lib.hid (ref_open hS ⟨19, S, T, D, imm⟩)
  have HE := Lib.hid (Cp.ends_put (D : Int) v h0 (by omega))
  have HAV := Lib.hid hav
  have HBV := Lib.hid hbv
  have HZ := Lib.hid h0
  clear hS hav hbv h0
  have h1 := Wd.sg_bd a ha.1 ha.2
  have h2 := Wd.sg_bd bb hb.1 hb.2
  have HG1 := Lib.hid (fun w => signed_any a w ha)
  have HG2 := Lib.hid (fun w => signed_any bb w hb)
  have HG3 := Lib.hid (fun w => isSigned_any (Wd.sg a + Wd.sg bb) w)
  rw [hov] at HG3
  clear hov
  generalize Wd.sg a = ga at *
  generalize Wd.sg bb = gb at *
  unfold insC
  go_enter Tryz.func88, Tryz.ntmps88
  go_upto_region 1 with fail
  obtain ⟨hS1, hI1, hk1⟩ := HO.out
  simp only at hS1 hI1 hk1
  generalize w.alloc _ = w1 at *
  generalize w.heap.size = x at *
  have HS1 := Lib.hid hS1
  have HI1 := Lib.hid hI1
  have HK1 := Lib.hid hk1
  have HW := Lib.hid (fun d => (⟨HS1.out.drewN d, HI1.out.drewN d, HK1.out.drewN d⟩ : StAt (w1.drewN d) sb s ∧ IAt (w1.drewN d) x ⟨19, S, T, D, imm⟩ ∧ Keeps (· = sb) w (w1.drewN d)))
  obtain ⟨i0, i1, i2, i3, i4⟩ := hI1.cells
  have rS := hS1.reg S (by omega)
  rw [HAV.out] at rS
  have hS6 : (S : Int) < 32 := by omega
  have hT6 : (T : Int) < 32 := by omega
  have hD6 : (D : Int) < 32 := by omega
  clear hS1 hI1 hk1
  go_quiet (fail)
  obtain ⟨hS1, hI1, hk1⟩ := HW.out nq
  clear i0 i1 i2 i3 i4 rS HS1 HI1 HK1 HO HW
  generalize w1.drewN nq = w2 at *
  have HW := Lib.hid (fun d => (⟨hS1.drewN d, hI1.drewN d, hk1.drewN d⟩ : StAt (w2.drewN d) sb s ∧ IAt (w2.drewN d) x ⟨19, S, T, D, imm⟩ ∧ Keeps (· = sb) w (w2.drewN d)))
  obtain ⟨i0, i1, i2, i3, i4⟩ := hI1.cells
  have rT := hS1.reg T (by omega)
  rw [HBV.out] at rT
  clear hS1 hI1 hk1
  go_upto_region 2 with fail
  go_quiet (fail)
  obtain ⟨hS1, hI1, hk1⟩ := HW.out nq
  clear i0 i1 i2 i3 i4 rT HW
  generalize w2.drewN nq = w3 at *
  have HS2 := Lib.hid hS1
  have HK2 := Lib.hid hk1
  have HI2 := Lib.hid hI1
  obtain ⟨i0, i1, i2, i3, i4⟩ := hI1.cells
  have f2 := hS1.frozen D
  have r2 := hS1.reg D (by omega)
  obtain ⟨s32, s33, _, _, _, _, _, _, _, _, _⟩ := hS1.cells
  have f32 := hS1.frozen 32
  have f33 := hS1.frozen 33
  clear hS1 hk1 hI1
  go_wp2_with fail
  refine (HG1.out _).mono ?_
  rintro e w' ⟨rfl, rfl⟩
  go_wp2_with fail
  refine (HG2.out _).mono ?_
  rintro e w' ⟨rfl, rfl⟩
  go_wp2_with fail
  refine (HG3.out _).mono ?_
  rintro e w' ⟨rfl, rfl⟩
  go_upto_region 63 with fail
  refine wp_region_still_tail 12 (by kernel_rfl) (by kernel_rfl) ?_
  simp only [List.take_succ_cons, List.take_zero, List.drop_succ_cons, List.drop_zero]
  repeat still_step
  still_call (kindOf2_still 19 (by omega) _)
  repeat still_step
  still_call (sumOf_still 19 (by omega) a bb v _ ha hb HV.out)
  repeat still_step
  refine wpStill_nil ?_
  change wpList _ _ _ _ _ (World.drew _)
  go_wp2_with fail
  go_ret
  exact ⟨rfl, ⟨_, StAt.put (s := s) (show StAt _ sb s from HS2.out) D hD5 v, HE.out⟩, (HK2.out.drew).trans (Keeps.one _ _ _ _) (fun _ _ h => h)⟩

set_option maxRecDepth 100000 in
set_option maxHeartbeats 2000000 in
theorem rsum_19b (sb : Nat) (S T D imm : Int) (s : Cp.St) (w : World) (hS : StAt w sb s) (hS5 : 0 ≤ S ∧ S < 32) (hT5 : 0 ≤ T ∧ T < 32) (hD5 : 0 ≤ D ∧ D < 32) (him : 0 ≤ imm ∧ imm < 4294967296) (a bb : Int)
    (ha : 0 ≤ a ∧ a < 4294967296) (hb : 0 ≤ bb ∧ bb < 4294967296) (hav : s.R S.toNat = a) (hbv : s.R T.toNat = bb) (h0 : s.R 0 = 0) (hov : Wd.isS (Wd.sg a + Wd.sg bb) = false) :
    Calls Tryz.prog 88 #[.pointer (some ⟨sb, 0, none⟩), .agg (insC ⟨19, S, T, D, imm⟩)] w fun e w' => RfOk w w' sb (12, s) e := by
  obtain ⟨S, rfl⟩ := Int.eq_ofNat_of_zero_le hS5.1
  obtain ⟨T, rfl⟩ := Int.eq_ofNat_of_zero_le hT5.1
  obtain ⟨D, rfl⟩ := Int.eq_ofNat_of_zero_le hD5.1
  rw [Int.toNat_natCast] at hav hbv
  have HO := Lib.hid (ref_open hS ⟨19, S, T, D, imm⟩)
  have HAV := Lib.hid hav
  have HBV := Lib.hid hbv
  have HZ := Lib.hid h0
  clear hS hav hbv h0
  have h1 := Wd.sg_bd a ha.1 ha.2
  have h2 := Wd.sg_bd bb hb.1 hb.2
  have HG1 := Lib.hid (fun w => signed_any a w ha)
  have HG2 := Lib.hid (fun w => signed_any bb w hb)
  have HG3 := Lib.hid (fun w => isSigned_any (Wd.sg a + Wd.sg bb) w)
  rw [hov] at HG3
  clear hov
  generalize Wd.sg a = ga at *
  generalize Wd.sg bb = gb at *
  unfold insC
  go_enter Tryz.func88, Tryz.ntmps88
  go_upto_region 1 with fail
  obtain ⟨hS1, hI1, hk1⟩ := HO.out
  simp only at hS1 hI1 hk1
  generalize w.alloc _ = w1 at *
  generalize w.heap.size = x at *
  have HS1 := Lib.hid hS1
  have HI1 := Lib.hid hI1
  have HK1 := Lib.hid hk1
  have HW := Lib.hid (fun d => (⟨HS1.out.drewN d, HI1.out.drewN d, HK1.out.drewN d⟩ : StAt (w1.drewN d) sb s ∧ IAt (w1.drewN d) x ⟨19, S, T, D, imm⟩ ∧ Keeps (· = sb) w (w1.drewN d)))
  obtain ⟨i0, i1, i2, i3, i4⟩ := hI1.cells
  have rS := hS1.reg S (by omega)
  rw [HAV.out] at rS
  have hS6 : (S : Int) < 32 := by omega
  have hT6 : (T : Int) < 32 := by omega
  have hD6 : (D : Int) < 32 := by omega
  clear hS1 hI1 hk1
  go_quiet (fail)
  obtain ⟨hS1, hI1, hk1⟩ := HW.out nq
  clear i0 i1 i2 i3 i4 rS HS1 HI1 HK1 HO HW
  generalize w1.drewN nq = w2 at *
  have HW := Lib.hid (fun d => (⟨hS1.drewN d, hI1.drewN d, hk1.drewN d⟩ : StAt (w2.drewN d) sb s ∧ IAt (w2.drewN d) x ⟨19, S, T, D, imm⟩ ∧ Keeps (· = sb) w (w2.drewN d)))
  obtain ⟨i0, i1, i2, i3, i4⟩ := hI1.cells
  have rT := hS1.reg T (by omega)
  rw [HBV.out] at rT
  clear hS1 hI1 hk1
  go_upto_region 2 with fail
  go_quiet (fail)
  obtain ⟨hS1, hI1, hk1⟩ := HW.out nq
  clear i0 i1 i2 i3 i4 rT HW
  generalize w2.drewN nq = w3 at *
  have HS2 := Lib.hid hS1
  have HK2 := Lib.hid hk1
  have HI2 := Lib.hid hI1
  obtain ⟨i0, i1, i2, i3, i4⟩ := hI1.cells
  obtain ⟨s32, s33, _, _, _, _, _, _, _, _, _⟩ := hS1.cells
  have f32 := hS1.frozen 32
  have f33 := hS1.frozen 33
  clear hS1 hk1 hI1
  go_wp2_with fail
  refine (HG1.out _).mono ?_
  rintro e w' ⟨rfl, rfl⟩
  go_wp2_with fail
  refine (HG2.out _).mono ?_
  rintro e w' ⟨rfl, rfl⟩
  go_wp2_with fail
  refine (HG3.out _).mono ?_
  rintro e w' ⟨rfl, rfl⟩
  go_wp2_with fail
  go_ret
  exact ⟨rfl, ⟨s, HS2.out, Cp.ends_bad 12 (by decide)⟩, HK2.out⟩

set_option maxRecDepth 100000 in
set_option maxHeartbeats 2000000 in
theorem rsum_21 (sb : Nat) (S T D imm : Int) (s : Cp.St) (w : World) (hS : StAt w sb s) (hS5 : 0 ≤ S ∧ S < 32) (hT5 : 0 ≤ T ∧ T < 32) (hD5 : 0 ≤ D ∧ D < 32) (him : 0 ≤ imm ∧ imm < 4294967296) (a bb : Int)
    (ha : 0 ≤ a ∧ a < 4294967296) (hb : 0 ≤ bb ∧ bb < 4294967296) (hav : s.R S.toNat = a) (hbv : s.R T.toNat = bb) (h0 : s.R 0 = 0) (v : Int) (HV : Hid (Cp.sumK (Cp.kindK 21) a bb = v)) (hov : Wd.isS (Wd.sg a - Wd.sg bb) = true) :
    Calls Tryz.prog 88 #[.pointer (some ⟨sb, 0, none⟩), .agg (insC ⟨21, S, T, D, imm⟩)] w fun e w' => RfOk w w' sb (-1, Cp.setR s D v) e := by
  obtain ⟨S, rfl⟩ := Int.eq_ofNat_of_zero_le hS5.1
  obtain ⟨T, rfl⟩ := Int.eq_ofNat_of_zero_le hT5.1
  obtain ⟨D, rfl⟩ := Int.eq_ofNat_of_zero_le hD5.1
  rw [Int.toNat_natCast] at hav hbv
  have HO := Lib.hid (ref_open hS ⟨21, S, T, D, imm⟩)
  have HE := Lib.hid (Cp.ends_put (D : Int) v h0 (by omega))
  have HAV := Lib.hid hav
  have HBV := Lib.hid hbv
  have HZ := Lib.hid h0
  clear hS hav hbv h0
  have h1 := Wd.sg_bd a ha.1 ha.2
  have h2 := Wd.sg_bd bb hb.1 hb.2
  have HG1 := Lib.hid (fun w => signed_any a w ha)
  have HG2 := Lib.hid (fun w => signed_any bb w hb)
  have HG3 := Lib.hid (fun w => isSigned_any (Wd.sg a - Wd.sg bb) w)
  rw [hov] at HG3
  clear hov
  generalize Wd.sg a = ga at *
  generalize Wd.sg bb = gb at *
  unfold insC
  go_enter Tryz.func88, Tryz.ntmps88
  go_upto_region 1 with fail
  obtain ⟨hS1, hI1, hk1⟩ := HO.out
  simp only at hS1 hI1 hk1
  generalize w.alloc _ = w1 at *
  generalize w.heap.size = x at *
  have HS1 := Lib.hid hS1
  have HI1 := Lib.hid hI1
  have HK1 := Lib.hid hk1
  have HW := Lib.hid (fun d => (⟨HS1.out.drewN d, HI1.out.drewN d, HK1.out.drewN d⟩ : StAt (w1.drewN d) sb s ∧ IAt (w1.drewN d) x ⟨21, S, T, D, imm⟩ ∧ Keeps (· = sb) w (w1.drewN d)))
  obtain ⟨i0, i1, i2, i3, i4⟩ := hI1.cells
  have rS := hS1.reg S (by omega)
  rw [HAV.out] at rS
  have hS6 : (S : Int) < 32 := by omega
  have hT6 : (T : Int) < 32 := by omega
  have hD6 : (D : Int) < 32 := by omega
  clear hS1 hI1 hk1
  go_quiet (fail)
  obtain ⟨hS1, hI1, hk1⟩ := HW.out nq
  clear i0 i1 i2 i3 i4 rS HS1 HI1 HK1 HO HW
  generalize w1.drewN nq = w2 at *
  have HW := Lib.hid (fun d => (⟨hS1.drewN d, hI1.drewN d, hk1.drewN d⟩ : StAt (w2.drewN d) sb s ∧ IAt (w2.drewN d) x ⟨21, S, T, D, imm⟩ ∧ Keeps (· = sb) w (w2.drewN d)))
  obtain ⟨i0, i1, i2, i3, i4⟩ := hI1.cells
  have rT := hS1.reg T (by omega)
  rw [HBV.out] at rT
  clear hS1 hI1 hk1
  go_upto_region 2 with fail
  go_quiet (fail)
  obtain ⟨hS1, hI1, hk1⟩ := HW.out nq
  clear i0 i1 i2 i3 i4 rT HW
  generalize w2.drewN nq = w3 at *
  have HS2 := Lib.hid hS1
  have HK2 := Lib.hid hk1
  have HI2 := Lib.hid hI1
  obtain ⟨i0, i1, i2, i3, i4⟩ := hI1.cells
  have f2 := hS1.frozen D
  have r2 := hS1.reg D (by omega)
  obtain ⟨s32, s33, _, _, _, _, _, _, _, _, _⟩ := hS1.cells
  have f32 := hS1.frozen 32
  have f33 := hS1.frozen 33
  clear hS1 hk1 hI1
  go_wp2_with fail
  refine (HG1.out _).mono ?_
  rintro e w' ⟨rfl, rfl⟩
  go_wp2_with fail
  refine (HG2.out _).mono ?_
  rintro e w' ⟨rfl, rfl⟩
  go_wp2_with fail
  refine (HG3.out _).mono ?_
  rintro e w' ⟨rfl, rfl⟩
  go_upto_region 63 with fail
  refine wp_region_still_tail 12 (by kernel_rfl) (by kernel_rfl) ?_
  simp only [List.take_succ_cons, List.take_zero, List.drop_succ_cons, List.drop_zero]
  repeat still_step
  still_call (kindOf2_still 21 (by omega) _)
  repeat still_step
  still_call (sumOf_still 21 (by omega) a bb v _ ha hb HV.out)
  repeat still_step
  refine wpStill_nil ?_
  change wpList _ _ _ _ _ (World.drew _)
  go_wp2_with fail
  go_ret
  exact ⟨rfl, ⟨_, StAt.put (s := s) (show StAt _ sb s from HS2.out) D hD5 v, HE.out⟩, (HK2.out.drew).trans (Keeps.one _ _ _ _) (fun _ _ h => h)⟩

set_option maxRecDepth 100000 in
set_option maxHeartbeats 2000000 in
theorem rsum_21b (sb : Nat) (S T D imm : Int) (s : Cp.St) (w : World) (hS : StAt w sb s) (hS5 : 0 ≤ S ∧ S < 32) (hT5 : 0 ≤ T ∧ T < 32) (hD5 : 0 ≤ D ∧ D < 32) (him : 0 ≤ imm ∧ imm < 4294967296) (a bb : Int)
    (ha : 0 ≤ a ∧ a < 4294967296) (hb : 0 ≤ bb ∧ bb < 4294967296) (hav : s.R S.toNat = a) (hbv : s.R T.toNat = bb) (h0 : s.R 0 = 0) (hov : Wd.isS (Wd.sg a - Wd.sg bb) = false) :
    Calls Tryz.prog 88 #[.pointer (some ⟨sb, 0, none⟩), .agg (insC ⟨21, S, T, D, imm⟩)] w fun e w' => RfOk w w' sb (12, s) e := by
  obtain ⟨S, rfl⟩ := Int.eq_ofNat_of_zero_le hS5.1
  obtain ⟨T, rfl⟩ := Int.eq_ofNat_of_zero_le hT5.1
  obtain ⟨D, rfl⟩ := Int.eq_ofNat_of_zero_le hD5.1
  rw [Int.toNat_natCast] at hav hbv
  have HO := Lib.hid (ref_open hS ⟨21, S, T, D, imm⟩)
  have HAV := Lib.hid hav
  have HBV := Lib.hid hbv
  have HZ := Lib.hid h0
  clear hS hav hbv h0
  have h1 := Wd.sg_bd a ha.1 ha.2
  have h2 := Wd.sg_bd bb hb.1 hb.2
  have HG1 := Lib.hid (fun w => signed_any a w ha)
  have HG2 := Lib.hid (fun w => signed_any bb w hb)
  have HG3 := Lib.hid (fun w => isSigned_any (Wd.sg a - Wd.sg bb) w)
  rw [hov] at HG3
  clear hov
  generalize Wd.sg a = ga at *
  generalize Wd.sg bb = gb at *
  unfold insC
  go_enter Tryz.func88, Tryz.ntmps88
  go_upto_region 1 with fail
  obtain ⟨hS1, hI1, hk1⟩ := HO.out
  simp only at hS1 hI1 hk1
  generalize w.alloc _ = w1 at *
  generalize w.heap.size = x at *
  have HS1 := Lib.hid hS1
  have HI1 := Lib.hid hI1
  have HK1 := Lib.hid hk1
  have HW := Lib.hid (fun d => (⟨HS1.out.drewN d, HI1.out.drewN d, HK1.out.drewN d⟩ : StAt (w1.drewN d) sb s ∧ IAt (w1.drewN d) x ⟨21, S, T, D, imm⟩ ∧ Keeps (· = sb) w (w1.drewN d)))
  obtain ⟨i0, i1, i2, i3, i4⟩ := hI1.cells
  have rS := hS1.reg S (by omega)
  rw [HAV.out] at rS
  have hS6 : (S : Int) < 32 := by omega
  have hT6 : (T : Int) < 32 := by omega
  have hD6 : (D : Int) < 32 := by omega
  clear hS1 hI1 hk1
  go_quiet (fail)
  obtain ⟨hS1, hI1, hk1⟩ := HW.out nq
  clear i0 i1 i2 i3 i4 rS HS1 HI1 HK1 HO HW
  generalize w1.drewN nq = w2 at *
  have HW := Lib.hid (fun d => (⟨hS1.drewN d, hI1.drewN d, hk1.drewN d⟩ : StAt (w2.drewN d) sb s ∧ IAt (w2.drewN d) x ⟨21, S, T, D, imm⟩ ∧ Keeps (· = sb) w (w2.drewN d)))
  obtain ⟨i0, i1, i2, i3, i4⟩ := hI1.cells
  have rT := hS1.reg T (by omega)
  rw [HBV.out] at rT
  clear hS1 hI1 hk1
  go_upto_region 2 with fail
  go_quiet (fail)
  obtain ⟨hS1, hI1, hk1⟩ := HW.out nq
  clear i0 i1 i2 i3 i4 rT HW
  generalize w2.drewN nq = w3 at *
  have HS2 := Lib.hid hS1
  have HK2 := Lib.hid hk1
  have HI2 := Lib.hid hI1
  obtain ⟨i0, i1, i2, i3, i4⟩ := hI1.cells
  obtain ⟨s32, s33, _, _, _, _, _, _, _, _, _⟩ := hS1.cells
  have f32 := hS1.frozen 32
  have f33 := hS1.frozen 33
  clear hS1 hk1 hI1
  go_wp2_with fail
  refine (HG1.out _).mono ?_
  rintro e w' ⟨rfl, rfl⟩
  go_wp2_with fail
  refine (HG2.out _).mono ?_
  rintro e w' ⟨rfl, rfl⟩
  go_wp2_with fail
  refine (HG3.out _).mono ?_
  rintro e w' ⟨rfl, rfl⟩
  go_wp2_with fail
  go_ret
  exact ⟨rfl, ⟨s, HS2.out, Cp.ends_bad 12 (by decide)⟩, HK2.out⟩

set_option maxRecDepth 100000 in
set_option maxHeartbeats 2000000 in
theorem rsum_1 (sb : Nat) (S T D imm : Int) (s : Cp.St) (w : World) (hS : StAt w sb s) (hS5 : 0 ≤ S ∧ S < 32) (hT5 : 0 ≤ T ∧ T < 32) (hD5 : 0 ≤ D ∧ D < 32) (him : 0 ≤ imm ∧ imm < 4294967296) (a bb : Int)
    (ha : 0 ≤ a ∧ a < 4294967296) (hb : 0 ≤ bb ∧ bb < 4294967296) (hav : s.R S.toNat = a) (hbv : s.R T.toNat = bb) (h0 : s.R 0 = 0) (v : Int) (HV : Hid (Cp.sumK (Cp.kindK 1) bb imm = v)) :
    Calls Tryz.prog 88 #[.pointer (some ⟨sb, 0, none⟩), .agg (insC ⟨1, S, T, D, imm⟩)] w fun e w' => RfOk w w' sb (-1, Cp.setR s D v) e := by
  obtain ⟨S, rfl⟩ := Int.eq_ofNat_of_zero_le hS5.1
  obtain ⟨T, rfl⟩ := Int.eq_ofNat_of_zero_le hT5.1
  obtain ⟨D, rfl⟩ := Int.eq_ofNat_of_zero_le hD5.1
  rw [Int.toNat_natCast] at hav hbv
  have HO := Lib.hid (ref_open hS ⟨1, S, T, D, imm⟩)
  have HE := Lib.hid (Cp.ends_put (D : Int) v h0 (by omega))
  have HAV := Lib.hid hav
  have HBV := Lib.hid hbv
  have HZ := Lib.hid h0
  clear hS hav hbv h0
  unfold insC
  go_enter Tryz.func88, Tryz.ntmps88
  go_upto_region 1 with fail
  obtain ⟨hS1, hI1, hk1⟩ := HO.out
  simp only at hS1 hI1 hk1
  generalize w.alloc _ = w1 at *
  generalize w.heap.size = x at *
  have HS1 := Lib.hid hS1
  have HI1 := Lib.hid hI1
  have HK1 := Lib.hid hk1
  have HW := Lib.hid (fun d => (⟨HS1.out.drewN d, HI1.out.drewN d, HK1.out.drewN d⟩ : StAt (w1.drewN d) sb s ∧ IAt (w1.drewN d) x ⟨1, S, T, D, imm⟩ ∧ Keeps (· = sb) w (w1.drewN d)))
  obtain ⟨i0, i1, i2, i3, i4⟩ := hI1.cells
  have rS := hS1.reg S (by omega)
  rw [HAV.out] at rS
  have hS6 : (S : Int) < 32 := by omega
  have hT6 : (T : Int) < 32 := by omega
  have hD6 : (D : Int) < 32 := by omega
  clear hS1 hI1 hk1
  go_quiet (fail)
  obtain ⟨hS1, hI1, hk1⟩ := HW.out nq
  clear i0 i1 i2 i3 i4 rS HS1 HI1 HK1 HO HW
  generalize w1.drewN nq = w2 at *
  have HW := Lib.hid (fun d => (⟨hS1.drewN d, hI1.drewN d, hk1.drewN d⟩ : StAt (w2.drewN d) sb s ∧ IAt (w2.drewN d) x ⟨1, S, T, D, imm⟩ ∧ Keeps (· = sb) w (w2.drewN d)))
  obtain ⟨i0, i1, i2, i3, i4⟩ := hI1.cells
  have rT := hS1.reg T (by omega)
  rw [HBV.out] at rT
  clear hS1 hI1 hk1
  go_upto_region 2 with fail
  go_quiet (fail)
  obtain ⟨hS1, hI1, hk1⟩ := HW.out nq
  clear i0 i1 i2 i3 i4 rT HW
  generalize w2.drewN nq = w3 at *
  have HS2 := Lib.hid hS1
  have HK2 := Lib.hid hk1
  have HI2 := Lib.hid hI1
  obtain ⟨i0, i1, i2, i3, i4⟩ := hI1.cells
  have f2 := hS1.frozen D
  have r2 := hS1.reg D (by omega)
  obtain ⟨s32, s33, _, _, _, _, _, _, _, _, _⟩ := hS1.cells
  have f32 := hS1.frozen 32
  have f33 := hS1.frozen 33
  clear hS1 hk1 hI1
  go_upto_region 33 with fail
  refine wp_region_still_tail 13 (by kernel_rfl) (by kernel_rfl) ?_
  simp only [List.take_succ_cons, List.take_zero, List.drop_succ_cons, List.drop_zero]
  repeat still_step
  still_call (kindOf2_still 1 (by omega) _)
  repeat still_step
  still_call (sumOf_still 1 (by omega) bb imm v _ hb him HV.out)
  repeat still_step
  refine wpStill_nil ?_
  change wpList _ _ _ _ _ (World.drew _)
  go_wp2_with fail
  go_ret
  exact ⟨rfl, ⟨_, StAt.put (s := s) (show StAt _ sb s from HS2.out) D hD5 v, HE.out⟩, (HK2.out.drew).trans (Keeps.one _ _ _ _) (fun _ _ h => h)⟩

set_option maxRecDepth 100000 in
set_option maxHeartbeats 2000000 in
theorem rsum_2 (sb : Nat) (S T D imm : Int) (s : Cp.St) (w : World) (hS : StAt w sb s) (hS5 : 0 ≤ S ∧ S < 32) (hT5 : 0 ≤ T ∧ T < 32) (hD5 : 0 ≤ D ∧ D < 32) (him : 0 ≤ imm ∧ imm < 4294967296) (a bb : Int)
    (ha : 0 ≤ a ∧ a < 4294967296) (hb : 0 ≤ bb ∧ bb < 4294967296) (hav : s.R S.toNat = a) (hbv : s.R T.toNat = bb) (h0 : s.R 0 = 0) (v : Int) (HV : Hid (Cp.sumK (Cp.kindK 2) bb imm = v)) :
    Calls Tryz.prog 88 #[.pointer (some ⟨sb, 0, none⟩), .agg (insC ⟨2, S, T, D, imm⟩)] w fun e w' => RfOk w w' sb (-1, Cp.setR s D v) e := by
  obtain ⟨S, rfl⟩ := Int.eq_ofNat_of_zero_le hS5.1
  obtain ⟨T, rfl⟩ := Int.eq_ofNat_of_zero_le hT5.1
  obtain ⟨D, rfl⟩ := Int.eq_ofNat_of_zero_le hD5.1
  rw [Int.toNat_natCast] at hav hbv
  have HO := Lib.hid (ref_open hS ⟨2, S, T, D, imm⟩)
  have HE := Lib.hid (Cp.ends_put (D : Int) v h0 (by omega))
  have HAV := Lib.hid hav
  have HBV := Lib.hid hbv
  have HZ := Lib.hid h0
  clear hS hav hbv h0
  unfold insC
  go_enter Tryz.func88, Tryz.ntmps88
  go_upto_region 1 with fail
  obtain ⟨hS1, hI1, hk1⟩ := HO.out
  simp only at hS1 hI1 hk1
  generalize w.alloc _ = w1 at *
  generalize w.heap.size = x at *
  have HS1 := Lib.hid hS1
  have HI1 := Lib.hid hI1
  have HK1 := Lib.hid hk1
  have HW := Lib.hid (fun d => (⟨HS1.out.drewN d, HI1.out.drewN d, HK1.out.drewN d⟩ : StAt (w1.drewN d) sb s ∧ IAt (w1.drewN d) x ⟨2, S, T, D, imm⟩ ∧ Keeps (· = sb) w (w1.drewN d)))
  obtain ⟨i0, i1, i2, i3, i4⟩ := hI1.cells
  have rS := hS1.reg S (by omega)
  rw [HAV.out] at rS
  have hS6 : (S : Int) < 32 := by omega
  have hT6 : (T : Int) < 32 := by omega
  have hD6 : (D : Int) < 32 := by omega
  clear hS1 hI1 hk1
  go_quiet (fail)
  obtain ⟨hS1, hI1, hk1⟩ := HW.out nq
  clear i0 i1 i2 i3 i4 rS HS1 HI1 HK1 HO HW
  generalize w1.drewN nq = w2 at *
  have HW := Lib.hid (fun d => (⟨hS1.drewN d, hI1.drewN d, hk1.drewN d⟩ : StAt (w2.drewN d) sb s ∧ IAt (w2.drewN d) x ⟨2, S, T, D, imm⟩ ∧ Keeps (· = sb) w (w2.drewN d)))
  obtain ⟨i0, i1, i2, i3, i4⟩ := hI1.cells
  have rT := hS1.reg T (by omega)
  rw [HBV.out] at rT
  clear hS1 hI1 hk1
  go_upto_region 2 with fail
  go_quiet (fail)
  obtain ⟨hS1, hI1, hk1⟩ := HW.out nq
  clear i0 i1 i2 i3 i4 rT HW
  generalize w2.drewN nq = w3 at *
  have HS2 := Lib.hid hS1
  have HK2 := Lib.hid hk1
  have HI2 := Lib.hid hI1
  obtain ⟨i0, i1, i2, i3, i4⟩ := hI1.cells
  have f2 := hS1.frozen D
  have r2 := hS1.reg D (by omega)
  obtain ⟨s32, s33, _, _, _, _, _, _, _, _, _⟩ := hS1.cells
  have f32 := hS1.frozen 32
  have f33 := hS1.frozen 33
  clear hS1 hk1 hI1
  go_upto_region 33 with fail
  refine wp_region_still_tail 13 (by kernel_rfl) (by kernel_rfl) ?_
  simp only [List.take_succ_cons, List.take_zero, List.drop_succ_cons, List.drop_zero]
  repeat still_step
  still_call (kindOf2_still 2 (by omega) _)
  repeat still_step
  still_call (sumOf_still 2 (by omega) bb imm v _ hb him HV.out)
  repeat still_step
  refine wpStill_nil ?_
  change wpList _ _ _ _ _ (World.drew _)
  go_wp2_with fail
  go_ret
  exact ⟨rfl, ⟨_, StAt.put (s := s) (show StAt _ sb s from HS2.out) D hD5 v, HE.out⟩, (HK2.out.drew).trans (Keeps.one _ _ _ _) (fun _ _ h => h)⟩

set_option maxRecDepth 100000 in
set_option maxHeartbeats 2000000 in
theorem rsum_3 (sb : Nat) (S T D imm : Int) (s : Cp.St) (w : World) (hS : StAt w sb s) (hS5 : 0 ≤ S ∧ S < 32) (hT5 : 0 ≤ T ∧ T < 32) (hD5 : 0 ≤ D ∧ D < 32) (him : 0 ≤ imm ∧ imm < 4294967296) (a bb : Int)
    (ha : 0 ≤ a ∧ a < 4294967296) (hb : 0 ≤ bb ∧ bb < 4294967296) (hav : s.R S.toNat = a) (hbv : s.R T.toNat = bb) (h0 : s.R 0 = 0) (v : Int) (HV : Hid (Cp.sumK (Cp.kindK 3) bb imm = v)) :
    Calls Tryz.prog 88 #[.pointer (some ⟨sb, 0, none⟩), .agg (insC ⟨3, S, T, D, imm⟩)] w fun e w' => RfOk w w' sb (-1, Cp.setR s D v) e := by
  obtain ⟨S, rfl⟩ := Int.eq_ofNat_of_zero_le hS5.1
  obtain ⟨T, rfl⟩ := Int.eq_ofNat_of_zero_le hT5.1
  obtain ⟨D, rfl⟩ := Int.eq_ofNat_of_zero_le hD5.1
  rw [Int.toNat_natCast] at hav hbv
  have HO := Lib.hid (ref_open hS ⟨3, S, T, D, imm⟩)
  have HE := Lib.hid (Cp.ends_put (D : Int) v h0 (by omega))
  have HAV := Lib.hid hav
  have HBV := Lib.hid hbv
  have HZ := Lib.hid h0
  clear hS hav hbv h0
  unfold insC
  go_enter Tryz.func88, Tryz.ntmps88
  go_upto_region 1 with fail
  obtain ⟨hS1, hI1, hk1⟩ := HO.out
  simp only at hS1 hI1 hk1
  generalize w.alloc _ = w1 at *
  generalize w.heap.size = x at *
  have HS1 := Lib.hid hS1
  have HI1 := Lib.hid hI1
  have HK1 := Lib.hid hk1
  have HW := Lib.hid (fun d => (⟨HS1.out.drewN d, HI1.out.drewN d, HK1.out.drewN d⟩ : StAt (w1.drewN d) sb s ∧ IAt (w1.drewN d) x ⟨3, S, T, D, imm⟩ ∧ Keeps (· = sb) w (w1.drewN d)))
  obtain ⟨i0, i1, i2, i3, i4⟩ := hI1.cells
  have rS := hS1.reg S (by omega)
  rw [HAV.out] at rS
  have hS6 : (S : Int) < 32 := by omega
  have hT6 : (T : Int) < 32 := by omega
  have hD6 : (D : Int) < 32 := by omega
  clear hS1 hI1 hk1
  go_quiet (fail)
  obtain ⟨hS1, hI1, hk1⟩ := HW.out nq
  clear i0 i1 i2 i3 i4 rS HS1 HI1 HK1 HO HW
  generalize w1.drewN nq = w2 at *
  have HW := Lib.hid (fun d => (⟨hS1.drewN d, hI1.drewN d, hk1.drewN d⟩ : StAt (w2.drewN d) sb s ∧ IAt (w2.drewN d) x ⟨3, S, T, D, imm⟩ ∧ Keeps (· = sb) w (w2.drewN d)))
  obtain ⟨i0, i1, i2, i3, i4⟩ := hI1.cells
  have rT := hS1.reg T (by omega)
  rw [HBV.out] at rT
  clear hS1 hI1 hk1
  go_upto_region 2 with fail
  go_quiet (fail)
  obtain ⟨hS1, hI1, hk1⟩ := HW.out nq
  clear i0 i1 i2 i3 i4 rT HW
  generalize w2.drewN nq = w3 at *
  have HS2 := Lib.hid hS1
  have HK2 := Lib.hid hk1
  have HI2 := Lib.hid hI1
  obtain ⟨i0, i1, i2, i3, i4⟩ := hI1.cells
  have f2 := hS1.frozen D
  have r2 := hS1.reg D (by omega)
  obtain ⟨s32, s33, _, _, _, _, _, _, _, _, _⟩ := hS1.cells
  have f32 := hS1.frozen 32
  have f33 := hS1.frozen 33
  clear hS1 hk1 hI1
  go_upto_region 33 with fail
  refine wp_region_still_tail 13 (by kernel_rfl) (by kernel_rfl) ?_
  simp only [List.take_succ_cons, List.take_zero, List.drop_succ_cons, List.drop_zero]
  repeat still_step
  still_call (kindOf2_still 3 (by omega) _)
  repeat still_step
  still_call (sumOf_still 3 (by omega) bb imm v _ hb him HV.out)
  repeat still_step
  refine wpStill_nil ?_
  change wpList _ _ _ _ _ (World.drew _)
  go_wp2_with fail
  go_ret
  exact ⟨rfl, ⟨_, StAt.put (s := s) (show StAt _ sb s from HS2.out) D hD5 v, HE.out⟩, (HK2.out.drew).trans (Keeps.one _ _ _ _) (fun _ _ h => h)⟩
end Go.Proofs.YtlbdkcnbgdmpaaaGreatDoor

/- Rsum2 -/
/- The reference's processor: the walks of sum, one an operation (2). Printed by gen/rsum.py. -/
namespace Go.Proofs.YtlbdkcnbgdmpaaaGreatDoor
open Go.RowKit Go.Deep
set_option linter.unusedVariables false

set_option maxRecDepth 100000 in
set_option maxHeartbeats 2000000 in
theorem rsum_4 (sb : Nat) (S T D imm : Int) (s : Cp.St) (w : World) (hS : StAt w sb s) (hS5 : 0 ≤ S ∧ S < 32) (hT5 : 0 ≤ T ∧ T < 32) (hD5 : 0 ≤ D ∧ D < 32) (him : 0 ≤ imm ∧ imm < 4294967296) (a bb : Int)
    (ha : 0 ≤ a ∧ a < 4294967296) (hb : 0 ≤ bb ∧ bb < 4294967296) (hav : s.R S.toNat = a) (hbv : s.R T.toNat = bb) (h0 : s.R 0 = 0) (v : Int) (HV : Hid (Cp.sumK (Cp.kindK 4) bb a = v)) :
    Calls Tryz.prog 88 #[.pointer (some ⟨sb, 0, none⟩), .agg (insC ⟨4, S, T, D, imm⟩)] w fun e w' => RfOk w w' sb (-1, Cp.setR s D v) e := by
  obtain ⟨S, rfl⟩ := Int.eq_ofNat_of_zero_le hS5.1
  obtain ⟨T, rfl⟩ := Int.eq_ofNat_of_zero_le hT5.1
  obtain ⟨D, rfl⟩ := Int.eq_ofNat_of_zero_le hD5.1
  rw [Int.toNat_natCast] at hav hbv
  have HO := Lib.hid (ref_open hS ⟨4, S, T, D, imm⟩)
  have HE := Lib.hid (Cp.ends_put (D : Int) v h0 (by omega))
  have HAV := Lib.hid hav
  have HBV := Lib.hid hbv
  have HZ := Lib.hid h0
  clear hS hav hbv h0
  unfold insC
  go_enter Tryz.func88, Tryz.ntmps88
  go_upto_region 1 with fail
  obtain ⟨hS1, hI1, hk1⟩ := HO.out
  simp only at hS1 hI1 hk1
  generalize w.alloc _ = w1 at *
  generalize w.heap.size = x at *
  have HS1 := Lib.hid hS1
  have HI1 := Lib.hid hI1
  have HK1 := Lib.hid hk1
  have HW := Lib.hid (fun d => (⟨HS1.out.drewN d, HI1.out.drewN d, HK1.out.drewN d⟩ : StAt (w1.drewN d) sb s ∧ IAt (w1.drewN d) x ⟨4, S, T, D, imm⟩ ∧ Keeps (· = sb) w (w1.drewN d)))
  obtain ⟨i0, i1, i2, i3, i4⟩ := hI1.cells
  have rS := hS1.reg S (by omega)
  rw [HAV.out] at rS
  have hS6 : (S : Int) < 32 := by omega
  have hT6 : (T : Int) < 32 := by omega
  have hD6 : (D : Int) < 32 := by omega
  clear hS1 hI1 hk1
  go_quiet (fail)
  obtain ⟨hS1, hI1, hk1⟩ := HW.out nq
  clear i0 i1 i2 i3 i4 rS HS1 HI1 HK1 HO HW
  generalize w1.drewN nq = w2 at *
  have HW := Lib.hid (fun d => (⟨hS1.drewN d, hI1.drewN d, hk1.drewN d⟩ : StAt (w2.drewN d) sb s ∧ IAt (w2.drewN d) x ⟨4, S, T, D, imm⟩ ∧ Keeps (· = sb) w (w2.drewN d)))
  obtain ⟨i0, i1, i2, i3, i4⟩ := hI1.cells
  have rT := hS1.reg T (by omega)
  rw [HBV.out] at rT
  clear hS1 hI1 hk1
  go_upto_region 2 with fail
  go_quiet (fail)
  obtain ⟨hS1, hI1, hk1⟩ := HW.out nq
  clear i0 i1 i2 i3 i4 rT HW
  generalize w2.drewN nq = w3 at *
  have HS2 := Lib.hid hS1
  have HK2 := Lib.hid hk1
  have HI2 := Lib.hid hI1
  obtain ⟨i0, i1, i2, i3, i4⟩ := hI1.cells
  have f2 := hS1.frozen D
  have r2 := hS1.reg D (by omega)
  obtain ⟨s32, s33, _, _, _, _, _, _, _, _, _⟩ := hS1.cells
  have f32 := hS1.frozen 32
  have f33 := hS1.frozen 33
  clear hS1 hk1 hI1
  go_upto_region 38 with fail
  refine wp_region_still_tail 12 (by kernel_rfl) (by kernel_rfl) ?_
  simp only [List.take_succ_cons, List.take_zero, List.drop_succ_cons, List.drop_zero]
  repeat still_step
  still_call (kindOf2_still 4 (by omega) _)
  repeat still_step
  still_call (sumOf_still 4 (by omega) bb a v _ hb ha HV.out)
  repeat still_step
  refine wpStill_nil ?_
  change wpList _ _ _ _ _ (World.drew _)
  go_wp2_with fail
  go_ret
  exact ⟨rfl, ⟨_, StAt.put (s := s) (show StAt _ sb s from HS2.out) D hD5 v, HE.out⟩, (HK2.out.drew).trans (Keeps.one _ _ _ _) (fun _ _ h => h)⟩

set_option maxRecDepth 100000 in
set_option maxHeartbeats 2000000 in
theorem rsum_5 (sb : Nat) (S T D imm : Int) (s : Cp.St) (w : World) (hS : StAt w sb s) (hS5 : 0 ≤ S ∧ S < 32) (hT5 : 0 ≤ T ∧ T < 32) (hD5 : 0 ≤ D ∧ D < 32) (him : 0 ≤ imm ∧ imm < 4294967296) (a bb : Int)
    (ha : 0 ≤ a ∧ a < 4294967296) (hb : 0 ≤ bb ∧ bb < 4294967296) (hav : s.R S.toNat = a) (hbv : s.R T.toNat = bb) (h0 : s.R 0 = 0) (v : Int) (HV : Hid (Cp.sumK (Cp.kindK 5) bb a = v)) :
    Calls Tryz.prog 88 #[.pointer (some ⟨sb, 0, none⟩), .agg (insC ⟨5, S, T, D, imm⟩)] w fun e w' => RfOk w w' sb (-1, Cp.setR s D v) e := by
  obtain ⟨S, rfl⟩ := Int.eq_ofNat_of_zero_le hS5.1
  obtain ⟨T, rfl⟩ := Int.eq_ofNat_of_zero_le hT5.1
  obtain ⟨D, rfl⟩ := Int.eq_ofNat_of_zero_le hD5.1
  rw [Int.toNat_natCast] at hav hbv
  have HO := Lib.hid (ref_open hS ⟨5, S, T, D, imm⟩)
  have HE := Lib.hid (Cp.ends_put (D : Int) v h0 (by omega))
  have HAV := Lib.hid hav
  have HBV := Lib.hid hbv
  have HZ := Lib.hid h0
  clear hS hav hbv h0
  unfold insC
  go_enter Tryz.func88, Tryz.ntmps88
  go_upto_region 1 with fail
  obtain ⟨hS1, hI1, hk1⟩ := HO.out
  simp only at hS1 hI1 hk1
  generalize w.alloc _ = w1 at *
  generalize w.heap.size = x at *
  have HS1 := Lib.hid hS1
  have HI1 := Lib.hid hI1
  have HK1 := Lib.hid hk1
  have HW := Lib.hid (fun d => (⟨HS1.out.drewN d, HI1.out.drewN d, HK1.out.drewN d⟩ : StAt (w1.drewN d) sb s ∧ IAt (w1.drewN d) x ⟨5, S, T, D, imm⟩ ∧ Keeps (· = sb) w (w1.drewN d)))
  obtain ⟨i0, i1, i2, i3, i4⟩ := hI1.cells
  have rS := hS1.reg S (by omega)
  rw [HAV.out] at rS
  have hS6 : (S : Int) < 32 := by omega
  have hT6 : (T : Int) < 32 := by omega
  have hD6 : (D : Int) < 32 := by omega
  clear hS1 hI1 hk1
  go_quiet (fail)
  obtain ⟨hS1, hI1, hk1⟩ := HW.out nq
  clear i0 i1 i2 i3 i4 rS HS1 HI1 HK1 HO HW
  generalize w1.drewN nq = w2 at *
  have HW := Lib.hid (fun d => (⟨hS1.drewN d, hI1.drewN d, hk1.drewN d⟩ : StAt (w2.drewN d) sb s ∧ IAt (w2.drewN d) x ⟨5, S, T, D, imm⟩ ∧ Keeps (· = sb) w (w2.drewN d)))
  obtain ⟨i0, i1, i2, i3, i4⟩ := hI1.cells
  have rT := hS1.reg T (by omega)
  rw [HBV.out] at rT
  clear hS1 hI1 hk1
  go_upto_region 2 with fail
  go_quiet (fail)
  obtain ⟨hS1, hI1, hk1⟩ := HW.out nq
  clear i0 i1 i2 i3 i4 rT HW
  generalize w2.drewN nq = w3 at *
  have HS2 := Lib.hid hS1
  have HK2 := Lib.hid hk1
  have HI2 := Lib.hid hI1
  obtain ⟨i0, i1, i2, i3, i4⟩ := hI1.cells
  have f2 := hS1.frozen D
  have r2 := hS1.reg D (by omega)
  obtain ⟨s32, s33, _, _, _, _, _, _, _, _, _⟩ := hS1.cells
  have f32 := hS1.frozen 32
  have f33 := hS1.frozen 33
  clear hS1 hk1 hI1
  go_upto_region 38 with fail
  refine wp_region_still_tail 12 (by kernel_rfl) (by kernel_rfl) ?_
  simp only [List.take_succ_cons, List.take_zero, List.drop_succ_cons, List.drop_zero]
  repeat still_step
  still_call (kindOf2_still 5 (by omega) _)
  repeat still_step
  still_call (sumOf_still 5 (by omega) bb a v _ hb ha HV.out)
  repeat still_step
  refine wpStill_nil ?_
  change wpList _ _ _ _ _ (World.drew _)
  go_wp2_with fail
  go_ret
  exact ⟨rfl, ⟨_, StAt.put (s := s) (show StAt _ sb s from HS2.out) D hD5 v, HE.out⟩, (HK2.out.drew).trans (Keeps.one _ _ _ _) (fun _ _ h => h)⟩

set_option maxRecDepth 100000 in
set_option maxHeartbeats 2000000 in
theorem rsum_6 (sb : Nat) (S T D imm : Int) (s : Cp.St) (w : World) (hS : StAt w sb s) (hS5 : 0 ≤ S ∧ S < 32) (hT5 : 0 ≤ T ∧ T < 32) (hD5 : 0 ≤ D ∧ D < 32) (him : 0 ≤ imm ∧ imm < 4294967296) (a bb : Int)
    (ha : 0 ≤ a ∧ a < 4294967296) (hb : 0 ≤ bb ∧ bb < 4294967296) (hav : s.R S.toNat = a) (hbv : s.R T.toNat = bb) (h0 : s.R 0 = 0) (v : Int) (HV : Hid (Cp.sumK (Cp.kindK 6) bb a = v)) :
    Calls Tryz.prog 88 #[.pointer (some ⟨sb, 0, none⟩), .agg (insC ⟨6, S, T, D, imm⟩)] w fun e w' => RfOk w w' sb (-1, Cp.setR s D v) e := by
  obtain ⟨S, rfl⟩ := Int.eq_ofNat_of_zero_le hS5.1
  obtain ⟨T, rfl⟩ := Int.eq_ofNat_of_zero_le hT5.1
  obtain ⟨D, rfl⟩ := Int.eq_ofNat_of_zero_le hD5.1
  rw [Int.toNat_natCast] at hav hbv
  have HO := Lib.hid (ref_open hS ⟨6, S, T, D, imm⟩)
  have HE := Lib.hid (Cp.ends_put (D : Int) v h0 (by omega))
  have HAV := Lib.hid hav
  have HBV := Lib.hid hbv
  have HZ := Lib.hid h0
  clear hS hav hbv h0
  unfold insC
  go_enter Tryz.func88, Tryz.ntmps88
  go_upto_region 1 with fail
  obtain ⟨hS1, hI1, hk1⟩ := HO.out
  simp only at hS1 hI1 hk1
  generalize w.alloc _ = w1 at *
  generalize w.heap.size = x at *
  have HS1 := Lib.hid hS1
  have HI1 := Lib.hid hI1
  have HK1 := Lib.hid hk1
  have HW := Lib.hid (fun d => (⟨HS1.out.drewN d, HI1.out.drewN d, HK1.out.drewN d⟩ : StAt (w1.drewN d) sb s ∧ IAt (w1.drewN d) x ⟨6, S, T, D, imm⟩ ∧ Keeps (· = sb) w (w1.drewN d)))
  obtain ⟨i0, i1, i2, i3, i4⟩ := hI1.cells
  have rS := hS1.reg S (by omega)
  rw [HAV.out] at rS
  have hS6 : (S : Int) < 32 := by omega
  have hT6 : (T : Int) < 32 := by omega
  have hD6 : (D : Int) < 32 := by omega
  clear hS1 hI1 hk1
  go_quiet (fail)
  obtain ⟨hS1, hI1, hk1⟩ := HW.out nq
  clear i0 i1 i2 i3 i4 rS HS1 HI1 HK1 HO HW
  generalize w1.drewN nq = w2 at *
  have HW := Lib.hid (fun d => (⟨hS1.drewN d, hI1.drewN d, hk1.drewN d⟩ : StAt (w2.drewN d) sb s ∧ IAt (w2.drewN d) x ⟨6, S, T, D, imm⟩ ∧ Keeps (· = sb) w (w2.drewN d)))
  obtain ⟨i0, i1, i2, i3, i4⟩ := hI1.cells
  have rT := hS1.reg T (by omega)
  rw [HBV.out] at rT
  clear hS1 hI1 hk1
  go_upto_region 2 with fail
  go_quiet (fail)
  obtain ⟨hS1, hI1, hk1⟩ := HW.out nq
  clear i0 i1 i2 i3 i4 rT HW
  generalize w2.drewN nq = w3 at *
  have HS2 := Lib.hid hS1
  have HK2 := Lib.hid hk1
  have HI2 := Lib.hid hI1
  obtain ⟨i0, i1, i2, i3, i4⟩ := hI1.cells
  have f2 := hS1.frozen D
  have r2 := hS1.reg D (by omega)
  obtain ⟨s32, s33, _, _, _, _, _, _, _, _, _⟩ := hS1.cells
  have f32 := hS1.frozen 32
  have f33 := hS1.frozen 33
  clear hS1 hk1 hI1
  go_upto_region 38 with fail
  refine wp_region_still_tail 12 (by kernel_rfl) (by kernel_rfl) ?_
  simp only [List.take_succ_cons, List.take_zero, List.drop_succ_cons, List.drop_zero]
  repeat still_step
  still_call (kindOf2_still 6 (by omega) _)
  repeat still_step
  still_call (sumOf_still 6 (by omega) bb a v _ hb ha HV.out)
  repeat still_step
  refine wpStill_nil ?_
  change wpList _ _ _ _ _ (World.drew _)
  go_wp2_with fail
  go_ret
  exact ⟨rfl, ⟨_, StAt.put (s := s) (show StAt _ sb s from HS2.out) D hD5 v, HE.out⟩, (HK2.out.drew).trans (Keeps.one _ _ _ _) (fun _ _ h => h)⟩

set_option maxRecDepth 100000 in
set_option maxHeartbeats 2000000 in
theorem rsum_39 (sb : Nat) (S T D imm : Int) (s : Cp.St) (w : World) (hS : StAt w sb s) (hS5 : 0 ≤ S ∧ S < 32) (hT5 : 0 ≤ T ∧ T < 32) (hD5 : 0 ≤ D ∧ D < 32) (him : 0 ≤ imm ∧ imm < 4294967296) (a bb : Int)
    (ha : 0 ≤ a ∧ a < 4294967296) (hb : 0 ≤ bb ∧ bb < 4294967296) (hav : s.R S.toNat = a) (hbv : s.R T.toNat = bb) (h0 : s.R 0 = 0) (v : Int) (HV : Hid (Cp.sumK (Cp.kindK 39) a imm = v)) :
    Calls Tryz.prog 88 #[.pointer (some ⟨sb, 0, none⟩), .agg (insC ⟨39, S, T, D, imm⟩)] w fun e w' => RfOk w w' sb (-1, Cp.setR s T v) e := by
  obtain ⟨S, rfl⟩ := Int.eq_ofNat_of_zero_le hS5.1
  obtain ⟨T, rfl⟩ := Int.eq_ofNat_of_zero_le hT5.1
  obtain ⟨D, rfl⟩ := Int.eq_ofNat_of_zero_le hD5.1
  rw [Int.toNat_natCast] at hav hbv
  have HO := Lib.hid (ref_open hS ⟨39, S, T, D, imm⟩)
  have HE := Lib.hid (Cp.ends_put (T : Int) v h0 (by omega))
  have HAV := Lib.hid hav
  have HBV := Lib.hid hbv
  have HZ := Lib.hid h0
  clear hS hav hbv h0
  unfold insC
  go_enter Tryz.func88, Tryz.ntmps88
  go_upto_region 1 with fail
  obtain ⟨hS1, hI1, hk1⟩ := HO.out
  simp only at hS1 hI1 hk1
  generalize w.alloc _ = w1 at *
  generalize w.heap.size = x at *
  have HS1 := Lib.hid hS1
  have HI1 := Lib.hid hI1
  have HK1 := Lib.hid hk1
  have HW := Lib.hid (fun d => (⟨HS1.out.drewN d, HI1.out.drewN d, HK1.out.drewN d⟩ : StAt (w1.drewN d) sb s ∧ IAt (w1.drewN d) x ⟨39, S, T, D, imm⟩ ∧ Keeps (· = sb) w (w1.drewN d)))
  obtain ⟨i0, i1, i2, i3, i4⟩ := hI1.cells
  have rS := hS1.reg S (by omega)
  rw [HAV.out] at rS
  have hS6 : (S : Int) < 32 := by omega
  have hT6 : (T : Int) < 32 := by omega
  have hD6 : (D : Int) < 32 := by omega
  clear hS1 hI1 hk1
  go_quiet (fail)
  obtain ⟨hS1, hI1, hk1⟩ := HW.out nq
  clear i0 i1 i2 i3 i4 rS HS1 HI1 HK1 HO HW
  generalize w1.drewN nq = w2 at *
  have HW := Lib.hid (fun d => (⟨hS1.drewN d, hI1.drewN d, hk1.drewN d⟩ : StAt (w2.drewN d) sb s ∧ IAt (w2.drewN d) x ⟨39, S, T, D, imm⟩ ∧ Keeps (· = sb) w (w2.drewN d)))
  obtain ⟨i0, i1, i2, i3, i4⟩ := hI1.cells
  have rT := hS1.reg T (by omega)
  rw [HBV.out] at rT
  clear hS1 hI1 hk1
  go_upto_region 2 with fail
  go_quiet (fail)
  obtain ⟨hS1, hI1, hk1⟩ := HW.out nq
  clear i0 i1 i2 i3 i4 rT HW
  generalize w2.drewN nq = w3 at *
  have HS2 := Lib.hid hS1
  have HK2 := Lib.hid hk1
  have HI2 := Lib.hid hI1
  obtain ⟨i0, i1, i2, i3, i4⟩ := hI1.cells
  have f2 := hS1.frozen T
  have r2 := hS1.reg T (by omega)
  obtain ⟨s32, s33, _, _, _, _, _, _, _, _, _⟩ := hS1.cells
  have f32 := hS1.frozen 32
  have f33 := hS1.frozen 33
  clear hS1 hk1 hI1
  go_upto_region 43 with fail
  refine wp_region_still_tail 13 (by kernel_rfl) (by kernel_rfl) ?_
  simp only [List.take_succ_cons, List.take_zero, List.drop_succ_cons, List.drop_zero]
  repeat still_step
  still_call (kindOf2_still 39 (by omega) _)
  repeat still_step
  still_call (sumOf_still 39 (by omega) a imm v _ ha him HV.out)
  repeat still_step
  refine wpStill_nil ?_
  change wpList _ _ _ _ _ (World.drew _)
  go_wp2_with fail
  go_ret
  exact ⟨rfl, ⟨_, StAt.put (s := s) (show StAt _ sb s from HS2.out) T hT5 v, HE.out⟩, (HK2.out.drew).trans (Keeps.one _ _ _ _) (fun _ _ h => h)⟩

set_option maxRecDepth 100000 in
set_option maxHeartbeats 2000000 in
theorem rsum_40 (sb : Nat) (S T D imm : Int) (s : Cp.St) (w : World) (hS : StAt w sb s) (hS5 : 0 ≤ S ∧ S < 32) (hT5 : 0 ≤ T ∧ T < 32) (hD5 : 0 ≤ D ∧ D < 32) (him : 0 ≤ imm ∧ imm < 4294967296) (a bb : Int)
    (ha : 0 ≤ a ∧ a < 4294967296) (hb : 0 ≤ bb ∧ bb < 4294967296) (hav : s.R S.toNat = a) (hbv : s.R T.toNat = bb) (h0 : s.R 0 = 0) (v : Int) (HV : Hid (Cp.sumK (Cp.kindK 40) a imm = v)) :
    Calls Tryz.prog 88 #[.pointer (some ⟨sb, 0, none⟩), .agg (insC ⟨40, S, T, D, imm⟩)] w fun e w' => RfOk w w' sb (-1, Cp.setR s T v) e := by
  obtain ⟨S, rfl⟩ := Int.eq_ofNat_of_zero_le hS5.1
  obtain ⟨T, rfl⟩ := Int.eq_ofNat_of_zero_le hT5.1
  obtain ⟨D, rfl⟩ := Int.eq_ofNat_of_zero_le hD5.1
  rw [Int.toNat_natCast] at hav hbv
  have HO := Lib.hid (ref_open hS ⟨40, S, T, D, imm⟩)
  have HE := Lib.hid (Cp.ends_put (T : Int) v h0 (by omega))
  have HAV := Lib.hid hav
  have HBV := Lib.hid hbv
  have HZ := Lib.hid h0
  clear hS hav hbv h0
  unfold insC
  go_enter Tryz.func88, Tryz.ntmps88
  go_upto_region 1 with fail
  obtain ⟨hS1, hI1, hk1⟩ := HO.out
  simp only at hS1 hI1 hk1
  generalize w.alloc _ = w1 at *
  generalize w.heap.size = x at *
  have HS1 := Lib.hid hS1
  have HI1 := Lib.hid hI1
  have HK1 := Lib.hid hk1
  have HW := Lib.hid (fun d => (⟨HS1.out.drewN d, HI1.out.drewN d, HK1.out.drewN d⟩ : StAt (w1.drewN d) sb s ∧ IAt (w1.drewN d) x ⟨40, S, T, D, imm⟩ ∧ Keeps (· = sb) w (w1.drewN d)))
  obtain ⟨i0, i1, i2, i3, i4⟩ := hI1.cells
  have rS := hS1.reg S (by omega)
  rw [HAV.out] at rS
  have hS6 : (S : Int) < 32 := by omega
  have hT6 : (T : Int) < 32 := by omega
  have hD6 : (D : Int) < 32 := by omega
  clear hS1 hI1 hk1
  go_quiet (fail)
  obtain ⟨hS1, hI1, hk1⟩ := HW.out nq
  clear i0 i1 i2 i3 i4 rS HS1 HI1 HK1 HO HW
  generalize w1.drewN nq = w2 at *
  have HW := Lib.hid (fun d => (⟨hS1.drewN d, hI1.drewN d, hk1.drewN d⟩ : StAt (w2.drewN d) sb s ∧ IAt (w2.drewN d) x ⟨40, S, T, D, imm⟩ ∧ Keeps (· = sb) w (w2.drewN d)))
  obtain ⟨i0, i1, i2, i3, i4⟩ := hI1.cells
  have rT := hS1.reg T (by omega)
  rw [HBV.out] at rT
  clear hS1 hI1 hk1
  go_upto_region 2 with fail
  go_quiet (fail)
  obtain ⟨hS1, hI1, hk1⟩ := HW.out nq
  clear i0 i1 i2 i3 i4 rT HW
  generalize w2.drewN nq = w3 at *
  have HS2 := Lib.hid hS1
  have HK2 := Lib.hid hk1
  have HI2 := Lib.hid hI1
  obtain ⟨i0, i1, i2, i3, i4⟩ := hI1.cells
  have f2 := hS1.frozen T
  have r2 := hS1.reg T (by omega)
  obtain ⟨s32, s33, _, _, _, _, _, _, _, _, _⟩ := hS1.cells
  have f32 := hS1.frozen 32
  have f33 := hS1.frozen 33
  clear hS1 hk1 hI1
  go_upto_region 43 with fail
  refine wp_region_still_tail 13 (by kernel_rfl) (by kernel_rfl) ?_
  simp only [List.take_succ_cons, List.take_zero, List.drop_succ_cons, List.drop_zero]
  repeat still_step
  still_call (kindOf2_still 40 (by omega) _)
  repeat still_step
  still_call (sumOf_still 40 (by omega) a imm v _ ha him HV.out)
  repeat still_step
  refine wpStill_nil ?_
  change wpList _ _ _ _ _ (World.drew _)
  go_wp2_with fail
  go_ret
  exact ⟨rfl, ⟨_, StAt.put (s := s) (show StAt _ sb s from HS2.out) T hT5 v, HE.out⟩, (HK2.out.drew).trans (Keeps.one _ _ _ _) (fun _ _ h => h)⟩

set_option maxRecDepth 100000 in
set_option maxHeartbeats 2000000 in
theorem rsum_41 (sb : Nat) (S T D imm : Int) (s : Cp.St) (w : World) (hS : StAt w sb s) (hS5 : 0 ≤ S ∧ S < 32) (hT5 : 0 ≤ T ∧ T < 32) (hD5 : 0 ≤ D ∧ D < 32) (him : 0 ≤ imm ∧ imm < 4294967296) (a bb : Int)
    (ha : 0 ≤ a ∧ a < 4294967296) (hb : 0 ≤ bb ∧ bb < 4294967296) (hav : s.R S.toNat = a) (hbv : s.R T.toNat = bb) (h0 : s.R 0 = 0) (v : Int) (HV : Hid (Cp.sumK (Cp.kindK 41) a imm = v)) :
    Calls Tryz.prog 88 #[.pointer (some ⟨sb, 0, none⟩), .agg (insC ⟨41, S, T, D, imm⟩)] w fun e w' => RfOk w w' sb (-1, Cp.setR s T v) e := by
  obtain ⟨S, rfl⟩ := Int.eq_ofNat_of_zero_le hS5.1
  obtain ⟨T, rfl⟩ := Int.eq_ofNat_of_zero_le hT5.1
  obtain ⟨D, rfl⟩ := Int.eq_ofNat_of_zero_le hD5.1
  rw [Int.toNat_natCast] at hav hbv
  have HO := Lib.hid (ref_open hS ⟨41, S, T, D, imm⟩)
  have HE := Lib.hid (Cp.ends_put (T : Int) v h0 (by omega))
  have HAV := Lib.hid hav
  have HBV := Lib.hid hbv
  have HZ := Lib.hid h0
  clear hS hav hbv h0
  unfold insC
  go_enter Tryz.func88, Tryz.ntmps88
  go_upto_region 1 with fail
  obtain ⟨hS1, hI1, hk1⟩ := HO.out
  simp only at hS1 hI1 hk1
  generalize w.alloc _ = w1 at *
  generalize w.heap.size = x at *
  have HS1 := Lib.hid hS1
  have HI1 := Lib.hid hI1
  have HK1 := Lib.hid hk1
  have HW := Lib.hid (fun d => (⟨HS1.out.drewN d, HI1.out.drewN d, HK1.out.drewN d⟩ : StAt (w1.drewN d) sb s ∧ IAt (w1.drewN d) x ⟨41, S, T, D, imm⟩ ∧ Keeps (· = sb) w (w1.drewN d)))
  obtain ⟨i0, i1, i2, i3, i4⟩ := hI1.cells
  have rS := hS1.reg S (by omega)
  rw [HAV.out] at rS
  have hS6 : (S : Int) < 32 := by omega
  have hT6 : (T : Int) < 32 := by omega
  have hD6 : (D : Int) < 32 := by omega
  clear hS1 hI1 hk1
  go_quiet (fail)
  obtain ⟨hS1, hI1, hk1⟩ := HW.out nq
  clear i0 i1 i2 i3 i4 rS HS1 HI1 HK1 HO HW
  generalize w1.drewN nq = w2 at *
  have HW := Lib.hid (fun d => (⟨hS1.drewN d, hI1.drewN d, hk1.drewN d⟩ : StAt (w2.drewN d) sb s ∧ IAt (w2.drewN d) x ⟨41, S, T, D, imm⟩ ∧ Keeps (· = sb) w (w2.drewN d)))
  obtain ⟨i0, i1, i2, i3, i4⟩ := hI1.cells
  have rT := hS1.reg T (by omega)
  rw [HBV.out] at rT
  clear hS1 hI1 hk1
  go_upto_region 2 with fail
  go_quiet (fail)
  obtain ⟨hS1, hI1, hk1⟩ := HW.out nq
  clear i0 i1 i2 i3 i4 rT HW
  generalize w2.drewN nq = w3 at *
  have HS2 := Lib.hid hS1
  have HK2 := Lib.hid hk1
  have HI2 := Lib.hid hI1
  obtain ⟨i0, i1, i2, i3, i4⟩ := hI1.cells
  have f2 := hS1.frozen T
  have r2 := hS1.reg T (by omega)
  obtain ⟨s32, s33, _, _, _, _, _, _, _, _, _⟩ := hS1.cells
  have f32 := hS1.frozen 32
  have f33 := hS1.frozen 33
  clear hS1 hk1 hI1
  go_upto_region 43 with fail
  refine wp_region_still_tail 13 (by kernel_rfl) (by kernel_rfl) ?_
  simp only [List.take_succ_cons, List.take_zero, List.drop_succ_cons, List.drop_zero]
  repeat still_step
  still_call (kindOf2_still 41 (by omega) _)
  repeat still_step
  still_call (sumOf_still 41 (by omega) a imm v _ ha him HV.out)
  repeat still_step
  refine wpStill_nil ?_
  change wpList _ _ _ _ _ (World.drew _)
  go_wp2_with fail
  go_ret
  exact ⟨rfl, ⟨_, StAt.put (s := s) (show StAt _ sb s from HS2.out) T hT5 v, HE.out⟩, (HK2.out.drew).trans (Keeps.one _ _ _ _) (fun _ _ h => h)⟩

set_option maxRecDepth 100000 in
set_option maxHeartbeats 2000000 in
theorem rsum_42 (sb : Nat) (S T D imm : Int) (s : Cp.St) (w : World) (hS : StAt w sb s) (hS5 : 0 ≤ S ∧ S < 32) (hT5 : 0 ≤ T ∧ T < 32) (hD5 : 0 ≤ D ∧ D < 32) (him : 0 ≤ imm ∧ imm < 4294967296) (a bb : Int)
    (ha : 0 ≤ a ∧ a < 4294967296) (hb : 0 ≤ bb ∧ bb < 4294967296) (hav : s.R S.toNat = a) (hbv : s.R T.toNat = bb) (h0 : s.R 0 = 0) (v : Int) (HV : Hid (Wd.shift 60 imm 16 = v)) :
    Calls Tryz.prog 88 #[.pointer (some ⟨sb, 0, none⟩), .agg (insC ⟨42, S, T, D, imm⟩)] w fun e w' => RfOk w w' sb (-1, Cp.setR s T v) e := by
  obtain ⟨S, rfl⟩ := Int.eq_ofNat_of_zero_le hS5.1
  obtain ⟨T, rfl⟩ := Int.eq_ofNat_of_zero_le hT5.1
  obtain ⟨D, rfl⟩ := Int.eq_ofNat_of_zero_le hD5.1
  rw [Int.toNat_natCast] at hav hbv
  have HO := Lib.hid (ref_open hS ⟨42, S, T, D, imm⟩)
  have HE := Lib.hid (Cp.ends_put (T : Int) v h0 (by omega))
  have HAV := Lib.hid hav
  have HBV := Lib.hid hbv
  have HZ := Lib.hid h0
  clear hS hav hbv h0
  unfold insC
  go_enter Tryz.func88, Tryz.ntmps88
  go_upto_region 1 with fail
  obtain ⟨hS1, hI1, hk1⟩ := HO.out
  simp only at hS1 hI1 hk1
  generalize w.alloc _ = w1 at *
  generalize w.heap.size = x at *
  have HS1 := Lib.hid hS1
  have HI1 := Lib.hid hI1
  have HK1 := Lib.hid hk1
  have HW := Lib.hid (fun d => (⟨HS1.out.drewN d, HI1.out.drewN d, HK1.out.drewN d⟩ : StAt (w1.drewN d) sb s ∧ IAt (w1.drewN d) x ⟨42, S, T, D, imm⟩ ∧ Keeps (· = sb) w (w1.drewN d)))
  obtain ⟨i0, i1, i2, i3, i4⟩ := hI1.cells
  have rS := hS1.reg S (by omega)
  rw [HAV.out] at rS
  have hS6 : (S : Int) < 32 := by omega
  have hT6 : (T : Int) < 32 := by omega
  have hD6 : (D : Int) < 32 := by omega
  clear hS1 hI1 hk1
  go_quiet (fail)
  obtain ⟨hS1, hI1, hk1⟩ := HW.out nq
  clear i0 i1 i2 i3 i4 rS HS1 HI1 HK1 HO HW
  generalize w1.drewN nq = w2 at *
  have HW := Lib.hid (fun d => (⟨hS1.drewN d, hI1.drewN d, hk1.drewN d⟩ : StAt (w2.drewN d) sb s ∧ IAt (w2.drewN d) x ⟨42, S, T, D, imm⟩ ∧ Keeps (· = sb) w (w2.drewN d)))
  obtain ⟨i0, i1, i2, i3, i4⟩ := hI1.cells
  have rT := hS1.reg T (by omega)
  rw [HBV.out] at rT
  clear hS1 hI1 hk1
  go_upto_region 2 with fail
  go_quiet (fail)
  obtain ⟨hS1, hI1, hk1⟩ := HW.out nq
  clear i0 i1 i2 i3 i4 rT HW
  generalize w2.drewN nq = w3 at *
  have HS2 := Lib.hid hS1
  have HK2 := Lib.hid hk1
  have HI2 := Lib.hid hI1
  obtain ⟨i0, i1, i2, i3, i4⟩ := hI1.cells
  have f2 := hS1.frozen T
  have r2 := hS1.reg T (by omega)
  obtain ⟨s32, s33, _, _, _, _, _, _, _, _, _⟩ := hS1.cells
  have f32 := hS1.frozen 32
  have f33 := hS1.frozen 33
  clear hS1 hk1 hI1
  go_upto_region 28 with fail
  refine wp_region_still_tail 9 (by kernel_rfl) (by kernel_rfl) ?_
  simp only [List.take_succ_cons, List.take_zero, List.drop_succ_cons, List.drop_zero]
  repeat still_step
  still_call (shiftOf_still 60 imm 16 v _ him (by omega) HV.out)
  repeat still_step
  refine wpStill_nil ?_
  change wpList _ _ _ _ _ (World.drew _)
  go_wp2_with fail
  go_ret
  exact ⟨rfl, ⟨_, StAt.put (s := s) (show StAt _ sb s from HS2.out) T hT5 v, HE.out⟩, (HK2.out.drew).trans (Keeps.one _ _ _ _) (fun _ _ h => h)⟩
end Go.Proofs.YtlbdkcnbgdmpaaaGreatDoor
