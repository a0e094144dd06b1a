import Derived.Test.YtlbdkcnbgdmpaaaGreatDoorOnez9

/- Rsum3 -/
/- The reference's processor: the walks of sum, one an operation (3). Printed by gen/rsum.py. -/
namespace Go.Proofs.YtlbdkcnbgdmpaaaGreatDoor
open Go.RowKit Go.Deep
set_option linter.unusedVariables false

set_option maxRecDepth 100000 in
set_option maxHeartbeats 2000000 in
theorem rsum_35 (sb : Nat) (S T D imm : Int) (s : Cp.St) (w : World) (hS : StAt w sb s) (hS5 : 0 ≤ S ∧ S < 32) (hT5 : 0 ≤ T ∧ T < 32) (hD5 : 0 ≤ D ∧ D < 32) (him : 0 ≤ imm ∧ imm < 4294967296) (a bb : Int)
    (ha : 0 ≤ a ∧ a < 4294967296) (hb : 0 ≤ bb ∧ bb < 4294967296) (hav : s.R S.toNat = a) (hbv : s.R T.toNat = bb) (h0 : s.R 0 = 0) (v : Int) (HV : Hid (Cp.sumK (Cp.kindK 35) a (Cp.immS ⟨35, S, T, D, imm⟩) = v)) (hov : Wd.isS (Wd.sg a + Wd.sg (Cp.immS ⟨35, S, T, D, imm⟩)) = true) :
    Calls Tryz.prog 88 #[.pointer (some ⟨sb, 0, none⟩), .agg (insC ⟨35, S, T, D, imm⟩)] w fun e w' => RfOk w w' sb (-1, Cp.setR s T v) e := by
  obtain ⟨S, rfl⟩ := Int.eq_ofNat_of_zero_le hS5.1
  obtain ⟨T, rfl⟩ := Int.eq_ofNat_of_zero_le hT5.1
  obtain ⟨D, rfl⟩ := Int.eq_ofNat_of_zero_le hD5.1
  rw [Int.toNat_natCast] at hav hbv
  have HO := Lib.hid (ref_open hS ⟨35, S, T, D, imm⟩)
  have HE := Lib.hid (Cp.ends_put (T : Int) v h0 (by omega))
  have HAV := Lib.hid hav
  have HBV := Lib.hid hbv
  have HZ := Lib.hid h0
  clear hS hav hbv h0
  have hn : 0 ≤ Cp.immS ⟨35, S, T, D, imm⟩ ∧ Cp.immS ⟨35, S, T, D, imm⟩ < 4294967296 := wide_rng imm
  have HIM := Lib.hid (fun w => immOf_any ⟨35, S, T, D, imm⟩ w him)
  unfold insC at HIM
  generalize Cp.immS ⟨35, S, T, D, imm⟩ = n at *
  have h1 := Wd.sg_bd a ha.1 ha.2
  have h2 := Wd.sg_bd n hn.1 hn.2
  have HG1 := Lib.hid (fun w => signed_any a w ha)
  have HG2 := Lib.hid (fun w => signed_any n w hn)
  have HG3 := Lib.hid (fun w => isSigned_any (Wd.sg a + Wd.sg n) w)
  rw [hov] at HG3
  clear hov
  generalize Wd.sg a = ga at *
  generalize Wd.sg n = gn at *
  unfold insC
  go_enter Tryz.func88, Tryz.ntmps88
  go_upto_region 1 with fail
  obtain ⟨hS1, hI1, hk1⟩ := HO.out
  simp only at hS1 hI1 hk1
  generalize w.alloc _ = w1 at *
  generalize w.heap.size = x at *
  have HS1 := Lib.hid hS1
  have HI1 := Lib.hid hI1
  have HK1 := Lib.hid hk1
  have HW := Lib.hid (fun d => (⟨HS1.out.drewN d, HI1.out.drewN d, HK1.out.drewN d⟩ : StAt (w1.drewN d) sb s ∧ IAt (w1.drewN d) x ⟨35, S, T, D, imm⟩ ∧ Keeps (· = sb) w (w1.drewN d)))
  obtain ⟨i0, i1, i2, i3, i4⟩ := hI1.cells
  have rS := hS1.reg S (by omega)
  rw [HAV.out] at rS
  have hS6 : (S : Int) < 32 := by omega
  have hT6 : (T : Int) < 32 := by omega
  have hD6 : (D : Int) < 32 := by omega
  clear hS1 hI1 hk1
  go_quiet (fail)
  obtain ⟨hS1, hI1, hk1⟩ := HW.out nq
  clear i0 i1 i2 i3 i4 rS HS1 HI1 HK1 HO HW
  generalize w1.drewN nq = w2 at *
  have HW := Lib.hid (fun d => (⟨hS1.drewN d, hI1.drewN d, hk1.drewN d⟩ : StAt (w2.drewN d) sb s ∧ IAt (w2.drewN d) x ⟨35, S, T, D, imm⟩ ∧ Keeps (· = sb) w (w2.drewN d)))
  obtain ⟨i0, i1, i2, i3, i4⟩ := hI1.cells
  have rT := hS1.reg T (by omega)
  rw [HBV.out] at rT
  clear hS1 hI1 hk1
  go_upto_region 2 with fail
  go_quiet (fail)
  obtain ⟨hS1, hI1, hk1⟩ := HW.out nq
  clear i0 i1 i2 i3 i4 rT HW
  generalize w2.drewN nq = w3 at *
  have HS2 := Lib.hid hS1
  have HK2 := Lib.hid hk1
  have HI2 := Lib.hid hI1
  obtain ⟨i0, i1, i2, i3, i4⟩ := hI1.cells
  have f2 := hS1.frozen T
  have r2 := hS1.reg T (by omega)
  obtain ⟨s32, s33, _, _, _, _, _, _, _, _, _⟩ := hS1.cells
  have f32 := hS1.frozen 32
  have f33 := hS1.frozen 33
  clear hS1 hk1 hI1
  go_wp2_with fail
  refine (HIM.out _).mono ?_
  rintro e w4 ⟨rfl, hk4⟩
  have hS4 := HS2.out.keep hk4 (fun h => h)
  have hI4 := HI2.out.keep hk4 (fun h => h)
  have hK4 := HK2.out.trans hk4 (fun _ _ h => h.elim)
  clear i0 i1 i2 i3 i4 s32 s33 f32 f33 f2 r2 HS2 HI2 HK2 HIM hk4
  have HS2 := Lib.hid hS4
  have HK2 := Lib.hid hK4
  obtain ⟨i0, i1, i2, i3, i4⟩ := hI4.cells
  have f2 := hS4.frozen T
  have r2 := hS4.reg T (by omega)
  clear hS4 hI4 hK4
  go_wp2_with fail
  refine (HG1.out _).mono ?_
  rintro e w' ⟨rfl, rfl⟩
  go_wp2_with fail
  refine (HG2.out _).mono ?_
  rintro e w' ⟨rfl, rfl⟩
  go_wp2_with fail
  refine (HG3.out _).mono ?_
  rintro e w' ⟨rfl, rfl⟩
  go_upto_region 53 with fail
  refine wp_region_still_tail 12 (by kernel_rfl) (by kernel_rfl) ?_
  simp only [List.take_succ_cons, List.take_zero, List.drop_succ_cons, List.drop_zero]
  repeat still_step
  still_call (kindOf2_still 35 (by omega) _)
  repeat still_step
  still_call (sumOf_still 35 (by omega) a n v _ ha hn HV.out)
  repeat still_step
  refine wpStill_nil ?_
  change wpList _ _ _ _ _ (World.drew _)
  go_wp2_with fail
  go_ret
  exact ⟨rfl, ⟨_, StAt.put (s := s) (show StAt _ sb s from HS2.out) T hT5 v, HE.out⟩, (HK2.out.drew).trans (Keeps.one _ _ _ _) (fun _ _ h => h)⟩

set_option maxRecDepth 100000 in
set_option maxHeartbeats 2000000 in
theorem rsum_35b (sb : Nat) (S T D imm : Int) (s : Cp.St) (w : World) (hS : StAt w sb s) (hS5 : 0 ≤ S ∧ S < 32) (hT5 : 0 ≤ T ∧ T < 32) (hD5 : 0 ≤ D ∧ D < 32) (him : 0 ≤ imm ∧ imm < 4294967296) (a bb : Int)
    (ha : 0 ≤ a ∧ a < 4294967296) (hb : 0 ≤ bb ∧ bb < 4294967296) (hav : s.R S.toNat = a) (hbv : s.R T.toNat = bb) (h0 : s.R 0 = 0) (hov : Wd.isS (Wd.sg a + Wd.sg (Cp.immS ⟨35, S, T, D, imm⟩)) = false) :
    Calls Tryz.prog 88 #[.pointer (some ⟨sb, 0, none⟩), .agg (insC ⟨35, S, T, D, imm⟩)] w fun e w' => RfOk w w' sb (12, s) e := by
  obtain ⟨S, rfl⟩ := Int.eq_ofNat_of_zero_le hS5.1
  obtain ⟨T, rfl⟩ := Int.eq_ofNat_of_zero_le hT5.1
  obtain ⟨D, rfl⟩ := Int.eq_ofNat_of_zero_le hD5.1
  rw [Int.toNat_natCast] at hav hbv
  have HO := Lib.hid (ref_open hS ⟨35, S, T, D, imm⟩)
  have HAV := Lib.hid hav
  have HBV := Lib.hid hbv
  have HZ := Lib.hid h0
  clear hS hav hbv h0
  have hn : 0 ≤ Cp.immS ⟨35, S, T, D, imm⟩ ∧ Cp.immS ⟨35, S, T, D, imm⟩ < 4294967296 := wide_rng imm
  have HIM := Lib.hid (fun w => immOf_any ⟨35, S, T, D, imm⟩ w him)
  unfold insC at HIM
  generalize Cp.immS ⟨35, S, T, D, imm⟩ = n at *
  have h1 := Wd.sg_bd a ha.1 ha.2
  have h2 := Wd.sg_bd n hn.1 hn.2
  have HG1 := Lib.hid (fun w => signed_any a w ha)
  have HG2 := Lib.hid (fun w => signed_any n w hn)
  have HG3 := Lib.hid (fun w => isSigned_any (Wd.sg a + Wd.sg n) w)
  rw [hov] at HG3
  clear hov
  generalize Wd.sg a = ga at *
  generalize Wd.sg n = gn at *
  unfold insC
  go_enter Tryz.func88, Tryz.ntmps88
  go_upto_region 1 with fail
  obtain ⟨hS1, hI1, hk1⟩ := HO.out
  simp only at hS1 hI1 hk1
  generalize w.alloc _ = w1 at *
  generalize w.heap.size = x at *
  have HS1 := Lib.hid hS1
  have HI1 := Lib.hid hI1
  have HK1 := Lib.hid hk1
  have HW := Lib.hid (fun d => (⟨HS1.out.drewN d, HI1.out.drewN d, HK1.out.drewN d⟩ : StAt (w1.drewN d) sb s ∧ IAt (w1.drewN d) x ⟨35, S, T, D, imm⟩ ∧ Keeps (· = sb) w (w1.drewN d)))
  obtain ⟨i0, i1, i2, i3, i4⟩ := hI1.cells
  have rS := hS1.reg S (by omega)
  rw [HAV.out] at rS
  have hS6 : (S : Int) < 32 := by omega
  have hT6 : (T : Int) < 32 := by omega
  have hD6 : (D : Int) < 32 := by omega
  clear hS1 hI1 hk1
  go_quiet (fail)
  obtain ⟨hS1, hI1, hk1⟩ := HW.out nq
  clear i0 i1 i2 i3 i4 rS HS1 HI1 HK1 HO HW
  generalize w1.drewN nq = w2 at *
  have HW := Lib.hid (fun d => (⟨hS1.drewN d, hI1.drewN d, hk1.drewN d⟩ : StAt (w2.drewN d) sb s ∧ IAt (w2.drewN d) x ⟨35, S, T, D, imm⟩ ∧ Keeps (· = sb) w (w2.drewN d)))
  obtain ⟨i0, i1, i2, i3, i4⟩ := hI1.cells
  have rT := hS1.reg T (by omega)
  rw [HBV.out] at rT
  clear hS1 hI1 hk1
  go_upto_region 2 with fail
  go_quiet (fail)
  obtain ⟨hS1, hI1, hk1⟩ := HW.out nq
  clear i0 i1 i2 i3 i4 rT HW
  generalize w2.drewN nq = w3 at *
  have HS2 := Lib.hid hS1
  have HK2 := Lib.hid hk1
  have HI2 := Lib.hid hI1
  obtain ⟨i0, i1, i2, i3, i4⟩ := hI1.cells
  obtain ⟨s32, s33, _, _, _, _, _, _, _, _, _⟩ := hS1.cells
  have f32 := hS1.frozen 32
  have f33 := hS1.frozen 33
  clear hS1 hk1 hI1
  go_wp2_with fail
  refine (HIM.out _).mono ?_
  rintro e w4 ⟨rfl, hk4⟩
  have hS4 := HS2.out.keep hk4 (fun h => h)
  have hI4 := HI2.out.keep hk4 (fun h => h)
  have hK4 := HK2.out.trans hk4 (fun _ _ h => h.elim)
  clear i0 i1 i2 i3 i4 s32 s33 f32 f33 HS2 HI2 HK2 HIM hk4
  have HS2 := Lib.hid hS4
  have HK2 := Lib.hid hK4
  obtain ⟨i0, i1, i2, i3, i4⟩ := hI4.cells
  clear hS4 hI4 hK4
  go_wp2_with fail
  refine (HG1.out _).mono ?_
  rintro e w' ⟨rfl, rfl⟩
  go_wp2_with fail
  refine (HG2.out _).mono ?_
  rintro e w' ⟨rfl, rfl⟩
  go_wp2_with fail
  refine (HG3.out _).mono ?_
  rintro e w' ⟨rfl, rfl⟩
  go_wp2_with fail
  go_ret
  exact ⟨rfl, ⟨s, HS2.out, Cp.ends_bad 12 (by decide)⟩, HK2.out⟩

set_option maxRecDepth 100000 in
set_option maxHeartbeats 2000000 in
theorem rsum_36 (sb : Nat) (S T D imm : Int) (s : Cp.St) (w : World) (hS : StAt w sb s) (hS5 : 0 ≤ S ∧ S < 32) (hT5 : 0 ≤ T ∧ T < 32) (hD5 : 0 ≤ D ∧ D < 32) (him : 0 ≤ imm ∧ imm < 4294967296) (a bb : Int)
    (ha : 0 ≤ a ∧ a < 4294967296) (hb : 0 ≤ bb ∧ bb < 4294967296) (hav : s.R S.toNat = a) (hbv : s.R T.toNat = bb) (h0 : s.R 0 = 0) (v : Int) (HV : Hid (Cp.sumK (Cp.kindK 36) a (Cp.immS ⟨36, S, T, D, imm⟩) = v)) :
    Calls Tryz.prog 88 #[.pointer (some ⟨sb, 0, none⟩), .agg (insC ⟨36, S, T, D, imm⟩)] w fun e w' => RfOk w w' sb (-1, Cp.setR s T v) e := by
  obtain ⟨S, rfl⟩ := Int.eq_ofNat_of_zero_le hS5.1
  obtain ⟨T, rfl⟩ := Int.eq_ofNat_of_zero_le hT5.1
  obtain ⟨D, rfl⟩ := Int.eq_ofNat_of_zero_le hD5.1
  rw [Int.toNat_natCast] at hav hbv
  have HO := Lib.hid (ref_open hS ⟨36, S, T, D, imm⟩)
  have HE := Lib.hid (Cp.ends_put (T : Int) v h0 (by omega))
  have HAV := Lib.hid hav
  have HBV := Lib.hid hbv
  have HZ := Lib.hid h0
  clear hS hav hbv h0
  have hn : 0 ≤ Cp.immS ⟨36, S, T, D, imm⟩ ∧ Cp.immS ⟨36, S, T, D, imm⟩ < 4294967296 := wide_rng imm
  have HIM := Lib.hid (fun w => immOf_any ⟨36, S, T, D, imm⟩ w him)
  unfold insC at HIM
  generalize Cp.immS ⟨36, S, T, D, imm⟩ = n at *
  have h1 := Wd.sg_bd a ha.1 ha.2
  have h2 := Wd.sg_bd n hn.1 hn.2
  have HG1 := Lib.hid (fun w => signed_any a w ha)
  have HG2 := Lib.hid (fun w => signed_any n w hn)
  have HG3 := Lib.hid (fun w => isSigned_any (Wd.sg a + Wd.sg n) w)
  generalize Wd.sg a = ga at *
  generalize Wd.sg n = gn at *
  generalize Wd.isS (ga + gn) = fits at *
  unfold insC
  go_enter Tryz.func88, Tryz.ntmps88
  go_upto_region 1 with fail
  obtain ⟨hS1, hI1, hk1⟩ := HO.out
  simp only at hS1 hI1 hk1
  generalize w.alloc _ = w1 at *
  generalize w.heap.size = x at *
  have HS1 := Lib.hid hS1
  have HI1 := Lib.hid hI1
  have HK1 := Lib.hid hk1
  have HW := Lib.hid (fun d => (⟨HS1.out.drewN d, HI1.out.drewN d, HK1.out.drewN d⟩ : StAt (w1.drewN d) sb s ∧ IAt (w1.drewN d) x ⟨36, S, T, D, imm⟩ ∧ Keeps (· = sb) w (w1.drewN d)))
  obtain ⟨i0, i1, i2, i3, i4⟩ := hI1.cells
  have rS := hS1.reg S (by omega)
  rw [HAV.out] at rS
  have hS6 : (S : Int) < 32 := by omega
  have hT6 : (T : Int) < 32 := by omega
  have hD6 : (D : Int) < 32 := by omega
  clear hS1 hI1 hk1
  go_quiet (fail)
  obtain ⟨hS1, hI1, hk1⟩ := HW.out nq
  clear i0 i1 i2 i3 i4 rS HS1 HI1 HK1 HO HW
  generalize w1.drewN nq = w2 at *
  have HW := Lib.hid (fun d => (⟨hS1.drewN d, hI1.drewN d, hk1.drewN d⟩ : StAt (w2.drewN d) sb s ∧ IAt (w2.drewN d) x ⟨36, S, T, D, imm⟩ ∧ Keeps (· = sb) w (w2.drewN d)))
  obtain ⟨i0, i1, i2, i3, i4⟩ := hI1.cells
  have rT := hS1.reg T (by omega)
  rw [HBV.out] at rT
  clear hS1 hI1 hk1
  go_upto_region 2 with fail
  go_quiet (fail)
  obtain ⟨hS1, hI1, hk1⟩ := HW.out nq
  clear i0 i1 i2 i3 i4 rT HW
  generalize w2.drewN nq = w3 at *
  have HS2 := Lib.hid hS1
  have HK2 := Lib.hid hk1
  have HI2 := Lib.hid hI1
  obtain ⟨i0, i1, i2, i3, i4⟩ := hI1.cells
  have f2 := hS1.frozen T
  have r2 := hS1.reg T (by omega)
  obtain ⟨s32, s33, _, _, _, _, _, _, _, _, _⟩ := hS1.cells
  have f32 := hS1.frozen 32
  have f33 := hS1.frozen 33
  clear hS1 hk1 hI1
  go_wp2_with fail
  refine (HIM.out _).mono ?_
  rintro e w4 ⟨rfl, hk4⟩
  have hS4 := HS2.out.keep hk4 (fun h => h)
  have hI4 := HI2.out.keep hk4 (fun h => h)
  have hK4 := HK2.out.trans hk4 (fun _ _ h => h.elim)
  clear i0 i1 i2 i3 i4 s32 s33 f32 f33 f2 r2 HS2 HI2 HK2 HIM hk4
  have HS2 := Lib.hid hS4
  have HK2 := Lib.hid hK4
  obtain ⟨i0, i1, i2, i3, i4⟩ := hI4.cells
  have f2 := hS4.frozen T
  have r2 := hS4.reg T (by omega)
  clear hS4 hI4 hK4
  go_wp2_with fail
  refine (HG1.out _).mono ?_
  rintro e w' ⟨rfl, rfl⟩
  go_wp2_with fail
  refine (HG2.out _).mono ?_
  rintro e w' ⟨rfl, rfl⟩
  go_wp2_with fail
  refine (HG3.out _).mono ?_
  rintro e w' ⟨rfl, rfl⟩
  go_upto_region 53 with fail
  refine wp_region_still_tail 12 (by kernel_rfl) (by kernel_rfl) ?_
  simp only [List.take_succ_cons, List.take_zero, List.drop_succ_cons, List.drop_zero]
  repeat still_step
  still_call (kindOf2_still 36 (by omega) _)
  repeat still_step
  still_call (sumOf_still 36 (by omega) a n v _ ha hn HV.out)
  repeat still_step
  refine wpStill_nil ?_
  change wpList _ _ _ _ _ (World.drew _)
  go_wp2_with fail
  go_ret
  exact ⟨rfl, ⟨_, StAt.put (s := s) (show StAt _ sb s from HS2.out) T hT5 v, HE.out⟩, (HK2.out.drew).trans (Keeps.one _ _ _ _) (fun _ _ h => h)⟩

set_option maxRecDepth 100000 in
set_option maxHeartbeats 2000000 in
theorem rsum_37 (sb : Nat) (S T D imm : Int) (s : Cp.St) (w : World) (hS : StAt w sb s) (hS5 : 0 ≤ S ∧ S < 32) (hT5 : 0 ≤ T ∧ T < 32) (hD5 : 0 ≤ D ∧ D < 32) (him : 0 ≤ imm ∧ imm < 4294967296) (a bb : Int)
    (ha : 0 ≤ a ∧ a < 4294967296) (hb : 0 ≤ bb ∧ bb < 4294967296) (hav : s.R S.toNat = a) (hbv : s.R T.toNat = bb) (h0 : s.R 0 = 0) (v : Int) (HV : Hid (Cp.sumK (Cp.kindK 37) a (Cp.immS ⟨37, S, T, D, imm⟩) = v)) :
    Calls Tryz.prog 88 #[.pointer (some ⟨sb, 0, none⟩), .agg (insC ⟨37, S, T, D, imm⟩)] w fun e w' => RfOk w w' sb (-1, Cp.setR s T v) e := by
  obtain ⟨S, rfl⟩ := Int.eq_ofNat_of_zero_le hS5.1
  obtain ⟨T, rfl⟩ := Int.eq_ofNat_of_zero_le hT5.1
  obtain ⟨D, rfl⟩ := Int.eq_ofNat_of_zero_le hD5.1
  rw [Int.toNat_natCast] at hav hbv
  have HO := Lib.hid (ref_open hS ⟨37, S, T, D, imm⟩)
  have HE := Lib.hid (Cp.ends_put (T : Int) v h0 (by omega))
  have HAV := Lib.hid hav
  have HBV := Lib.hid hbv
  have HZ := Lib.hid h0
  clear hS hav hbv h0
  have hn : 0 ≤ Cp.immS ⟨37, S, T, D, imm⟩ ∧ Cp.immS ⟨37, S, T, D, imm⟩ < 4294967296 := wide_rng imm
  have HIM := Lib.hid (fun w => immOf_any ⟨37, S, T, D, imm⟩ w him)
  unfold insC at HIM
  generalize Cp.immS ⟨37, S, T, D, imm⟩ = n at *
  have h1 := Wd.sg_bd a ha.1 ha.2
  have h2 := Wd.sg_bd n hn.1 hn.2
  have HG1 := Lib.hid (fun w => signed_any a w ha)
  have HG2 := Lib.hid (fun w => signed_any n w hn)
  have HG3 := Lib.hid (fun w => isSigned_any (Wd.sg a + Wd.sg n) w)
  generalize Wd.sg a = ga at *
  generalize Wd.sg n = gn at *
  generalize Wd.isS (ga + gn) = fits at *
  unfold insC
  go_enter Tryz.func88, Tryz.ntmps88
  go_upto_region 1 with fail
  obtain ⟨hS1, hI1, hk1⟩ := HO.out
  simp only at hS1 hI1 hk1
  generalize w.alloc _ = w1 at *
  generalize w.heap.size = x at *
  have HS1 := Lib.hid hS1
  have HI1 := Lib.hid hI1
  have HK1 := Lib.hid hk1
  have HW := Lib.hid (fun d => (⟨HS1.out.drewN d, HI1.out.drewN d, HK1.out.drewN d⟩ : StAt (w1.drewN d) sb s ∧ IAt (w1.drewN d) x ⟨37, S, T, D, imm⟩ ∧ Keeps (· = sb) w (w1.drewN d)))
  obtain ⟨i0, i1, i2, i3, i4⟩ := hI1.cells
  have rS := hS1.reg S (by omega)
  rw [HAV.out] at rS
  have hS6 : (S : Int) < 32 := by omega
  have hT6 : (T : Int) < 32 := by omega
  have hD6 : (D : Int) < 32 := by omega
  clear hS1 hI1 hk1
  go_quiet (fail)
  obtain ⟨hS1, hI1, hk1⟩ := HW.out nq
  clear i0 i1 i2 i3 i4 rS HS1 HI1 HK1 HO HW
  generalize w1.drewN nq = w2 at *
  have HW := Lib.hid (fun d => (⟨hS1.drewN d, hI1.drewN d, hk1.drewN d⟩ : StAt (w2.drewN d) sb s ∧ IAt (w2.drewN d) x ⟨37, S, T, D, imm⟩ ∧ Keeps (· = sb) w (w2.drewN d)))
  obtain ⟨i0, i1, i2, i3, i4⟩ := hI1.cells
  have rT := hS1.reg T (by omega)
  rw [HBV.out] at rT
  clear hS1 hI1 hk1
  go_upto_region 2 with fail
  go_quiet (fail)
  obtain ⟨hS1, hI1, hk1⟩ := HW.out nq
  clear i0 i1 i2 i3 i4 rT HW
  generalize w2.drewN nq = w3 at *
  have HS2 := Lib.hid hS1
  have HK2 := Lib.hid hk1
  have HI2 := Lib.hid hI1
  obtain ⟨i0, i1, i2, i3, i4⟩ := hI1.cells
  have f2 := hS1.frozen T
  have r2 := hS1.reg T (by omega)
  obtain ⟨s32, s33, _, _, _, _, _, _, _, _, _⟩ := hS1.cells
  have f32 := hS1.frozen 32
  have f33 := hS1.frozen 33
  clear hS1 hk1 hI1
  go_wp2_with fail
  refine (HIM.out _).mono ?_
  rintro e w4 ⟨rfl, hk4⟩
  have hS4 := HS2.out.keep hk4 (fun h => h)
  have hI4 := HI2.out.keep hk4 (fun h => h)
  have hK4 := HK2.out.trans hk4 (fun _ _ h => h.elim)
  clear i0 i1 i2 i3 i4 s32 s33 f32 f33 f2 r2 HS2 HI2 HK2 HIM hk4
  have HS2 := Lib.hid hS4
  have HK2 := Lib.hid hK4
  obtain ⟨i0, i1, i2, i3, i4⟩ := hI4.cells
  have f2 := hS4.frozen T
  have r2 := hS4.reg T (by omega)
  clear hS4 hI4 hK4
  go_wp2_with fail
  refine (HG1.out _).mono ?_
  rintro e w' ⟨rfl, rfl⟩
  go_wp2_with fail
  refine (HG2.out _).mono ?_
  rintro e w' ⟨rfl, rfl⟩
  go_wp2_with fail
  refine (HG3.out _).mono ?_
  rintro e w' ⟨rfl, rfl⟩
  go_upto_region 53 with fail
  refine wp_region_still_tail 12 (by kernel_rfl) (by kernel_rfl) ?_
  simp only [List.take_succ_cons, List.take_zero, List.drop_succ_cons, List.drop_zero]
  repeat still_step
  still_call (kindOf2_still 37 (by omega) _)
  repeat still_step
  still_call (sumOf_still 37 (by omega) a n v _ ha hn HV.out)
  repeat still_step
  refine wpStill_nil ?_
  change wpList _ _ _ _ _ (World.drew _)
  go_wp2_with fail
  go_ret
  exact ⟨rfl, ⟨_, StAt.put (s := s) (show StAt _ sb s from HS2.out) T hT5 v, HE.out⟩, (HK2.out.drew).trans (Keeps.one _ _ _ _) (fun _ _ h => h)⟩

set_option maxRecDepth 100000 in
set_option maxHeartbeats 2000000 in
theorem rsum_38 (sb : Nat) (S T D imm : Int) (s : Cp.St) (w : World) (hS : StAt w sb s) (hS5 : 0 ≤ S ∧ S < 32) (hT5 : 0 ≤ T ∧ T < 32) (hD5 : 0 ≤ D ∧ D < 32) (him : 0 ≤ imm ∧ imm < 4294967296) (a bb : Int)
    (ha : 0 ≤ a ∧ a < 4294967296) (hb : 0 ≤ bb ∧ bb < 4294967296) (hav : s.R S.toNat = a) (hbv : s.R T.toNat = bb) (h0 : s.R 0 = 0) (v : Int) (HV : Hid (Cp.sumK (Cp.kindK 38) a (Cp.immS ⟨38, S, T, D, imm⟩) = v)) :
    Calls Tryz.prog 88 #[.pointer (some ⟨sb, 0, none⟩), .agg (insC ⟨38, S, T, D, imm⟩)] w fun e w' => RfOk w w' sb (-1, Cp.setR s T v) e := by
  obtain ⟨S, rfl⟩ := Int.eq_ofNat_of_zero_le hS5.1
  obtain ⟨T, rfl⟩ := Int.eq_ofNat_of_zero_le hT5.1
  obtain ⟨D, rfl⟩ := Int.eq_ofNat_of_zero_le hD5.1
  rw [Int.toNat_natCast] at hav hbv
  have HO := Lib.hid (ref_open hS ⟨38, S, T, D, imm⟩)
  have HE := Lib.hid (Cp.ends_put (T : Int) v h0 (by omega))
  have HAV := Lib.hid hav
  have HBV := Lib.hid hbv
  have HZ := Lib.hid h0
  clear hS hav hbv h0
  have hn : 0 ≤ Cp.immS ⟨38, S, T, D, imm⟩ ∧ Cp.immS ⟨38, S, T, D, imm⟩ < 4294967296 := wide_rng imm
  have HIM := Lib.hid (fun w => immOf_any ⟨38, S, T, D, imm⟩ w him)
  unfold insC at HIM
  generalize Cp.immS ⟨38, S, T, D, imm⟩ = n at *
  have h1 := Wd.sg_bd a ha.1 ha.2
  have h2 := Wd.sg_bd n hn.1 hn.2
  have HG1 := Lib.hid (fun w => signed_any a w ha)
  have HG2 := Lib.hid (fun w => signed_any n w hn)
  have HG3 := Lib.hid (fun w => isSigned_any (Wd.sg a + Wd.sg n) w)
  generalize Wd.sg a = ga at *
  generalize Wd.sg n = gn at *
  generalize Wd.isS (ga + gn) = fits at *
  unfold insC
  go_enter Tryz.func88, Tryz.ntmps88
  go_upto_region 1 with fail
  obtain ⟨hS1, hI1, hk1⟩ := HO.out
  simp only at hS1 hI1 hk1
  generalize w.alloc _ = w1 at *
  generalize w.heap.size = x at *
  have HS1 := Lib.hid hS1
  have HI1 := Lib.hid hI1
  have HK1 := Lib.hid hk1
  have HW := Lib.hid (fun d => (⟨HS1.out.drewN d, HI1.out.drewN d, HK1.out.drewN d⟩ : StAt (w1.drewN d) sb s ∧ IAt (w1.drewN d) x ⟨38, S, T, D, imm⟩ ∧ Keeps (· = sb) w (w1.drewN d)))
  obtain ⟨i0, i1, i2, i3, i4⟩ := hI1.cells
  have rS := hS1.reg S (by omega)
  rw [HAV.out] at rS
  have hS6 : (S : Int) < 32 := by omega
  have hT6 : (T : Int) < 32 := by omega
  have hD6 : (D : Int) < 32 := by omega
  clear hS1 hI1 hk1
  go_quiet (fail)
  obtain ⟨hS1, hI1, hk1⟩ := HW.out nq
  clear i0 i1 i2 i3 i4 rS HS1 HI1 HK1 HO HW
  generalize w1.drewN nq = w2 at *
  have HW := Lib.hid (fun d => (⟨hS1.drewN d, hI1.drewN d, hk1.drewN d⟩ : StAt (w2.drewN d) sb s ∧ IAt (w2.drewN d) x ⟨38, S, T, D, imm⟩ ∧ Keeps (· = sb) w (w2.drewN d)))
  obtain ⟨i0, i1, i2, i3, i4⟩ := hI1.cells
  have rT := hS1.reg T (by omega)
  rw [HBV.out] at rT
  clear hS1 hI1 hk1
  go_upto_region 2 with fail
  go_quiet (fail)
  obtain ⟨hS1, hI1, hk1⟩ := HW.out nq
  clear i0 i1 i2 i3 i4 rT HW
  generalize w2.drewN nq = w3 at *
  have HS2 := Lib.hid hS1
  have HK2 := Lib.hid hk1
  have HI2 := Lib.hid hI1
  obtain ⟨i0, i1, i2, i3, i4⟩ := hI1.cells
  have f2 := hS1.frozen T
  have r2 := hS1.reg T (by omega)
  obtain ⟨s32, s33, _, _, _, _, _, _, _, _, _⟩ := hS1.cells
  have f32 := hS1.frozen 32
  have f33 := hS1.frozen 33
  clear hS1 hk1 hI1
  go_wp2_with fail
  refine (HIM.out _).mono ?_
  rintro e w4 ⟨rfl, hk4⟩
  have hS4 := HS2.out.keep hk4 (fun h => h)
  have hI4 := HI2.out.keep hk4 (fun h => h)
  have hK4 := HK2.out.trans hk4 (fun _ _ h => h.elim)
  clear i0 i1 i2 i3 i4 s32 s33 f32 f33 f2 r2 HS2 HI2 HK2 HIM hk4
  have HS2 := Lib.hid hS4
  have HK2 := Lib.hid hK4
  obtain ⟨i0, i1, i2, i3, i4⟩ := hI4.cells
  have f2 := hS4.frozen T
  have r2 := hS4.reg T (by omega)
  clear hS4 hI4 hK4
  go_wp2_with fail
  refine (HG1.out _).mono ?_
  rintro e w' ⟨rfl, rfl⟩
  go_wp2_with fail
  refine (HG2.out _).mono ?_
  rintro e w' ⟨rfl, rfl⟩
  go_wp2_with fail
  refine (HG3.out _).mono ?_
  rintro e w' ⟨rfl, rfl⟩
  go_upto_region 53 with fail
  refine wp_region_still_tail 12 (by kernel_rfl) (by kernel_rfl) ?_
  simp only [List.take_succ_cons, List.take_zero, List.drop_succ_cons, List.drop_zero]
  repeat still_step
  still_call (kindOf2_still 38 (by omega) _)
  repeat still_step
  still_call (sumOf_still 38 (by omega) a n v _ ha hn HV.out)
  repeat still_step
  refine wpStill_nil ?_
  change wpList _ _ _ _ _ (World.drew _)
  go_wp2_with fail
  go_ret
  exact ⟨rfl, ⟨_, StAt.put (s := s) (show StAt _ sb s from HS2.out) T hT5 v, HE.out⟩, (HK2.out.drew).trans (Keeps.one _ _ _ _) (fun _ _ h => h)⟩
end Go.Proofs.YtlbdkcnbgdmpaaaGreatDoor

/- Rsum4 -/
/- The reference's processor: the walks of sum, one an operation (4). Printed by gen/rsum.py. -/
namespace Go.Proofs.YtlbdkcnbgdmpaaaGreatDoor
open Go.RowKit Go.Deep
set_option linter.unusedVariables false

set_option maxRecDepth 100000 in
set_option maxHeartbeats 2000000 in
theorem rsum_11 (sb : Nat) (S T D imm : Int) (s : Cp.St) (w : World) (hS : StAt w sb s) (hS5 : 0 ≤ S ∧ S < 32) (hT5 : 0 ≤ T ∧ T < 32) (hD5 : 0 ≤ D ∧ D < 32) (him : 0 ≤ imm ∧ imm < 4294967296) (a bb : Int)
    (ha : 0 ≤ a ∧ a < 4294967296) (hb : 0 ≤ bb ∧ bb < 4294967296) (hav : s.R S.toNat = a) (hbv : s.R T.toNat = bb) (h0 : s.R 0 = 0) (v : Int) (HV : Hid (s.hi = v)) :
    Calls Tryz.prog 88 #[.pointer (some ⟨sb, 0, none⟩), .agg (insC ⟨11, S, T, D, imm⟩)] w fun e w' => RfOk w w' sb (-1, Cp.setR s D v) e := by
  obtain ⟨S, rfl⟩ := Int.eq_ofNat_of_zero_le hS5.1
  obtain ⟨T, rfl⟩ := Int.eq_ofNat_of_zero_le hT5.1
  obtain ⟨D, rfl⟩ := Int.eq_ofNat_of_zero_le hD5.1
  rw [Int.toNat_natCast] at hav hbv
  have HO := Lib.hid (ref_open hS ⟨11, S, T, D, imm⟩)
  have HE := Lib.hid (Cp.ends_put (D : Int) v h0 (by omega))
  have HAV := Lib.hid hav
  have HBV := Lib.hid hbv
  have HZ := Lib.hid h0
  clear hS hav hbv h0
  unfold insC
  go_enter Tryz.func88, Tryz.ntmps88
  go_upto_region 1 with fail
  obtain ⟨hS1, hI1, hk1⟩ := HO.out
  simp only at hS1 hI1 hk1
  generalize w.alloc _ = w1 at *
  generalize w.heap.size = x at *
  have HS1 := Lib.hid hS1
  have HI1 := Lib.hid hI1
  have HK1 := Lib.hid hk1
  have HW := Lib.hid (fun d => (⟨HS1.out.drewN d, HI1.out.drewN d, HK1.out.drewN d⟩ : StAt (w1.drewN d) sb s ∧ IAt (w1.drewN d) x ⟨11, S, T, D, imm⟩ ∧ Keeps (· = sb) w (w1.drewN d)))
  obtain ⟨i0, i1, i2, i3, i4⟩ := hI1.cells
  have rS := hS1.reg S (by omega)
  rw [HAV.out] at rS
  have hS6 : (S : Int) < 32 := by omega
  have hT6 : (T : Int) < 32 := by omega
  have hD6 : (D : Int) < 32 := by omega
  clear hS1 hI1 hk1
  go_quiet (fail)
  obtain ⟨hS1, hI1, hk1⟩ := HW.out nq
  clear i0 i1 i2 i3 i4 rS HS1 HI1 HK1 HO HW
  generalize w1.drewN nq = w2 at *
  have HW := Lib.hid (fun d => (⟨hS1.drewN d, hI1.drewN d, hk1.drewN d⟩ : StAt (w2.drewN d) sb s ∧ IAt (w2.drewN d) x ⟨11, S, T, D, imm⟩ ∧ Keeps (· = sb) w (w2.drewN d)))
  obtain ⟨i0, i1, i2, i3, i4⟩ := hI1.cells
  have rT := hS1.reg T (by omega)
  rw [HBV.out] at rT
  clear hS1 hI1 hk1
  go_upto_region 2 with fail
  go_quiet (fail)
  obtain ⟨hS1, hI1, hk1⟩ := HW.out nq
  clear i0 i1 i2 i3 i4 rT HW
  generalize w2.drewN nq = w3 at *
  have HS2 := Lib.hid hS1
  have HK2 := Lib.hid hk1
  have HI2 := Lib.hid hI1
  obtain ⟨i0, i1, i2, i3, i4⟩ := hI1.cells
  have f2 := hS1.frozen D
  have r2 := hS1.reg D (by omega)
  obtain ⟨s32, s33, _, _, _, _, _, _, _, _, _⟩ := hS1.cells
  have f32 := hS1.frozen 32
  have f33 := hS1.frozen 33
  clear hS1 hk1 hI1
  rw [HV.out] at s32
  go_upto_region 5 with fail
  refine wp_region_still_tail 10 (by kernel_rfl) (by kernel_rfl) ?_
  simp only [List.take_succ_cons, List.take_zero, List.drop_succ_cons, List.drop_zero]
  repeat still_step
  refine wpStill_nil ?_
  change wpList _ _ _ _ _ (World.drew _)
  go_wp2_with fail
  go_ret
  exact ⟨rfl, ⟨_, StAt.put (s := s) (show StAt _ sb s from HS2.out) D hD5 v, HE.out⟩, (HK2.out.drew).trans (Keeps.one _ _ _ _) (fun _ _ h => h)⟩

set_option maxRecDepth 100000 in
set_option maxHeartbeats 2000000 in
theorem rsum_13 (sb : Nat) (S T D imm : Int) (s : Cp.St) (w : World) (hS : StAt w sb s) (hS5 : 0 ≤ S ∧ S < 32) (hT5 : 0 ≤ T ∧ T < 32) (hD5 : 0 ≤ D ∧ D < 32) (him : 0 ≤ imm ∧ imm < 4294967296) (a bb : Int)
    (ha : 0 ≤ a ∧ a < 4294967296) (hb : 0 ≤ bb ∧ bb < 4294967296) (hav : s.R S.toNat = a) (hbv : s.R T.toNat = bb) (h0 : s.R 0 = 0) (v : Int) (HV : Hid (s.lo = v)) :
    Calls Tryz.prog 88 #[.pointer (some ⟨sb, 0, none⟩), .agg (insC ⟨13, S, T, D, imm⟩)] w fun e w' => RfOk w w' sb (-1, Cp.setR s D v) e := by
  obtain ⟨S, rfl⟩ := Int.eq_ofNat_of_zero_le hS5.1
  obtain ⟨T, rfl⟩ := Int.eq_ofNat_of_zero_le hT5.1
  obtain ⟨D, rfl⟩ := Int.eq_ofNat_of_zero_le hD5.1
  rw [Int.toNat_natCast] at hav hbv
  have HO := Lib.hid (ref_open hS ⟨13, S, T, D, imm⟩)
  have HE := Lib.hid (Cp.ends_put (D : Int) v h0 (by omega))
  have HAV := Lib.hid hav
  have HBV := Lib.hid hbv
  have HZ := Lib.hid h0
  clear hS hav hbv h0
  unfold insC
  go_enter Tryz.func88, Tryz.ntmps88
  go_upto_region 1 with fail
  obtain ⟨hS1, hI1, hk1⟩ := HO.out
  simp only at hS1 hI1 hk1
  generalize w.alloc _ = w1 at *
  generalize w.heap.size = x at *
  have HS1 := Lib.hid hS1
  have HI1 := Lib.hid hI1
  have HK1 := Lib.hid hk1
  have HW := Lib.hid (fun d => (⟨HS1.out.drewN d, HI1.out.drewN d, HK1.out.drewN d⟩ : StAt (w1.drewN d) sb s ∧ IAt (w1.drewN d) x ⟨13, S, T, D, imm⟩ ∧ Keeps (· = sb) w (w1.drewN d)))
  obtain ⟨i0, i1, i2, i3, i4⟩ := hI1.cells
  have rS := hS1.reg S (by omega)
  rw [HAV.out] at rS
  have hS6 : (S : Int) < 32 := by omega
  have hT6 : (T : Int) < 32 := by omega
  have hD6 : (D : Int) < 32 := by omega
  clear hS1 hI1 hk1
  go_quiet (fail)
  obtain ⟨hS1, hI1, hk1⟩ := HW.out nq
  clear i0 i1 i2 i3 i4 rS HS1 HI1 HK1 HO HW
  generalize w1.drewN nq = w2 at *
  have HW := Lib.hid (fun d => (⟨hS1.drewN d, hI1.drewN d, hk1.drewN d⟩ : StAt (w2.drewN d) sb s ∧ IAt (w2.drewN d) x ⟨13, S, T, D, imm⟩ ∧ Keeps (· = sb) w (w2.drewN d)))
  obtain ⟨i0, i1, i2, i3, i4⟩ := hI1.cells
  have rT := hS1.reg T (by omega)
  rw [HBV.out] at rT
  clear hS1 hI1 hk1
  go_upto_region 2 with fail
  go_quiet (fail)
  obtain ⟨hS1, hI1, hk1⟩ := HW.out nq
  clear i0 i1 i2 i3 i4 rT HW
  generalize w2.drewN nq = w3 at *
  have HS2 := Lib.hid hS1
  have HK2 := Lib.hid hk1
  have HI2 := Lib.hid hI1
  obtain ⟨i0, i1, i2, i3, i4⟩ := hI1.cells
  have f2 := hS1.frozen D
  have r2 := hS1.reg D (by omega)
  obtain ⟨s32, s33, _, _, _, _, _, _, _, _, _⟩ := hS1.cells
  have f32 := hS1.frozen 32
  have f33 := hS1.frozen 33
  clear hS1 hk1 hI1
  rw [HV.out] at s33
  go_upto_region 8 with fail
  refine wp_region_still_tail 10 (by kernel_rfl) (by kernel_rfl) ?_
  simp only [List.take_succ_cons, List.take_zero, List.drop_succ_cons, List.drop_zero]
  repeat still_step
  refine wpStill_nil ?_
  change wpList _ _ _ _ _ (World.drew _)
  go_wp2_with fail
  go_ret
  exact ⟨rfl, ⟨_, StAt.put (s := s) (show StAt _ sb s from HS2.out) D hD5 v, HE.out⟩, (HK2.out.drew).trans (Keeps.one _ _ _ _) (fun _ _ h => h)⟩

set_option maxRecDepth 100000 in
set_option maxHeartbeats 2000000 in
theorem rsum_12 (sb : Nat) (S T D imm : Int) (s : Cp.St) (w : World) (hS : StAt w sb s) (hS5 : 0 ≤ S ∧ S < 32) (hT5 : 0 ≤ T ∧ T < 32) (hD5 : 0 ≤ D ∧ D < 32) (him : 0 ≤ imm ∧ imm < 4294967296) (a bb : Int)
    (ha : 0 ≤ a ∧ a < 4294967296) (hb : 0 ≤ bb ∧ bb < 4294967296) (hav : s.R S.toNat = a) (hbv : s.R T.toNat = bb) (h0 : s.R 0 = 0) :
    Calls Tryz.prog 88 #[.pointer (some ⟨sb, 0, none⟩), .agg (insC ⟨12, S, T, D, imm⟩)] w fun e w' => RfOk w w' sb (-1, { s with hi := a }) e := by
  obtain ⟨S, rfl⟩ := Int.eq_ofNat_of_zero_le hS5.1
  obtain ⟨T, rfl⟩ := Int.eq_ofNat_of_zero_le hT5.1
  obtain ⟨D, rfl⟩ := Int.eq_ofNat_of_zero_le hD5.1
  rw [Int.toNat_natCast] at hav hbv
  have HO := Lib.hid (ref_open hS ⟨12, S, T, D, imm⟩)
  have HAV := Lib.hid hav
  have HBV := Lib.hid hbv
  have HZ := Lib.hid h0
  clear hS hav hbv h0
  unfold insC
  go_enter Tryz.func88, Tryz.ntmps88
  go_upto_region 1 with fail
  obtain ⟨hS1, hI1, hk1⟩ := HO.out
  simp only at hS1 hI1 hk1
  generalize w.alloc _ = w1 at *
  generalize w.heap.size = x at *
  have HS1 := Lib.hid hS1
  have HI1 := Lib.hid hI1
  have HK1 := Lib.hid hk1
  have HW := Lib.hid (fun d => (⟨HS1.out.drewN d, HI1.out.drewN d, HK1.out.drewN d⟩ : StAt (w1.drewN d) sb s ∧ IAt (w1.drewN d) x ⟨12, S, T, D, imm⟩ ∧ Keeps (· = sb) w (w1.drewN d)))
  obtain ⟨i0, i1, i2, i3, i4⟩ := hI1.cells
  have rS := hS1.reg S (by omega)
  rw [HAV.out] at rS
  have hS6 : (S : Int) < 32 := by omega
  have hT6 : (T : Int) < 32 := by omega
  have hD6 : (D : Int) < 32 := by omega
  clear hS1 hI1 hk1
  go_quiet (fail)
  obtain ⟨hS1, hI1, hk1⟩ := HW.out nq
  clear i0 i1 i2 i3 i4 rS HS1 HI1 HK1 HO HW
  generalize w1.drewN nq = w2 at *
  have HW := Lib.hid (fun d => (⟨hS1.drewN d, hI1.drewN d, hk1.drewN d⟩ : StAt (w2.drewN d) sb s ∧ IAt (w2.drewN d) x ⟨12, S, T, D, imm⟩ ∧ Keeps (· = sb) w (w2.drewN d)))
  obtain ⟨i0, i1, i2, i3, i4⟩ := hI1.cells
  have rT := hS1.reg T (by omega)
  rw [HBV.out] at rT
  clear hS1 hI1 hk1
  go_upto_region 2 with fail
  go_quiet (fail)
  obtain ⟨hS1, hI1, hk1⟩ := HW.out nq
  clear i0 i1 i2 i3 i4 rT HW
  generalize w2.drewN nq = w3 at *
  have HS2 := Lib.hid hS1
  have HK2 := Lib.hid hk1
  have HI2 := Lib.hid hI1
  obtain ⟨i0, i1, i2, i3, i4⟩ := hI1.cells
  obtain ⟨s32, s33, _, _, _, _, _, _, _, _, _⟩ := hS1.cells
  have f32 := hS1.frozen 32
  have f33 := hS1.frozen 33
  clear hS1 hk1 hI1
  have HP := Lib.hid (HS2.out.set 0 (.int .u32 a) (s' := { s with hi := a }) rfl rfl)
  go_wp2_with fail
  go_ret
  exact ⟨rfl, ⟨_, HP.out, Cp.ends_same (s := { s with hi := a }) HZ.out⟩, HK2.out.trans (Keeps.one _ _ _ _) (fun _ _ h => h)⟩

set_option maxRecDepth 100000 in
set_option maxHeartbeats 2000000 in
theorem rsum_14 (sb : Nat) (S T D imm : Int) (s : Cp.St) (w : World) (hS : StAt w sb s) (hS5 : 0 ≤ S ∧ S < 32) (hT5 : 0 ≤ T ∧ T < 32) (hD5 : 0 ≤ D ∧ D < 32) (him : 0 ≤ imm ∧ imm < 4294967296) (a bb : Int)
    (ha : 0 ≤ a ∧ a < 4294967296) (hb : 0 ≤ bb ∧ bb < 4294967296) (hav : s.R S.toNat = a) (hbv : s.R T.toNat = bb) (h0 : s.R 0 = 0) :
    Calls Tryz.prog 88 #[.pointer (some ⟨sb, 0, none⟩), .agg (insC ⟨14, S, T, D, imm⟩)] w fun e w' => RfOk w w' sb (-1, { s with lo := a }) e := by
  obtain ⟨S, rfl⟩ := Int.eq_ofNat_of_zero_le hS5.1
  obtain ⟨T, rfl⟩ := Int.eq_ofNat_of_zero_le hT5.1
  obtain ⟨D, rfl⟩ := Int.eq_ofNat_of_zero_le hD5.1
  rw [Int.toNat_natCast] at hav hbv
  have HO := Lib.hid (ref_open hS ⟨14, S, T, D, imm⟩)
  have HAV := Lib.hid hav
  have HBV := Lib.hid hbv
  have HZ := Lib.hid h0
  clear hS hav hbv h0
  unfold insC
  go_enter Tryz.func88, Tryz.ntmps88
  go_upto_region 1 with fail
  obtain ⟨hS1, hI1, hk1⟩ := HO.out
  simp only at hS1 hI1 hk1
  generalize w.alloc _ = w1 at *
  generalize w.heap.size = x at *
  have HS1 := Lib.hid hS1
  have HI1 := Lib.hid hI1
  have HK1 := Lib.hid hk1
  have HW := Lib.hid (fun d => (⟨HS1.out.drewN d, HI1.out.drewN d, HK1.out.drewN d⟩ : StAt (w1.drewN d) sb s ∧ IAt (w1.drewN d) x ⟨14, S, T, D, imm⟩ ∧ Keeps (· = sb) w (w1.drewN d)))
  obtain ⟨i0, i1, i2, i3, i4⟩ := hI1.cells
  have rS := hS1.reg S (by omega)
  rw [HAV.out] at rS
  have hS6 : (S : Int) < 32 := by omega
  have hT6 : (T : Int) < 32 := by omega
  have hD6 : (D : Int) < 32 := by omega
  clear hS1 hI1 hk1
  go_quiet (fail)
  obtain ⟨hS1, hI1, hk1⟩ := HW.out nq
  clear i0 i1 i2 i3 i4 rS HS1 HI1 HK1 HO HW
  generalize w1.drewN nq = w2 at *
  have HW := Lib.hid (fun d => (⟨hS1.drewN d, hI1.drewN d, hk1.drewN d⟩ : StAt (w2.drewN d) sb s ∧ IAt (w2.drewN d) x ⟨14, S, T, D, imm⟩ ∧ Keeps (· = sb) w (w2.drewN d)))
  obtain ⟨i0, i1, i2, i3, i4⟩ := hI1.cells
  have rT := hS1.reg T (by omega)
  rw [HBV.out] at rT
  clear hS1 hI1 hk1
  go_upto_region 2 with fail
  go_quiet (fail)
  obtain ⟨hS1, hI1, hk1⟩ := HW.out nq
  clear i0 i1 i2 i3 i4 rT HW
  generalize w2.drewN nq = w3 at *
  have HS2 := Lib.hid hS1
  have HK2 := Lib.hid hk1
  have HI2 := Lib.hid hI1
  obtain ⟨i0, i1, i2, i3, i4⟩ := hI1.cells
  obtain ⟨s32, s33, _, _, _, _, _, _, _, _, _⟩ := hS1.cells
  have f32 := hS1.frozen 32
  have f33 := hS1.frozen 33
  clear hS1 hk1 hI1
  have HP := Lib.hid (HS2.out.set 1 (.int .u32 a) (s' := { s with lo := a }) rfl rfl)
  go_wp2_with fail
  go_ret
  exact ⟨rfl, ⟨_, HP.out, Cp.ends_same (s := { s with lo := a }) HZ.out⟩, HK2.out.trans (Keeps.one _ _ _ _) (fun _ _ h => h)⟩

set_option maxRecDepth 100000 in
set_option maxHeartbeats 2000000 in
theorem rsum_15 (sb : Nat) (S T D imm : Int) (s : Cp.St) (w : World) (hS : StAt w sb s) (hS5 : 0 ≤ S ∧ S < 32) (hT5 : 0 ≤ T ∧ T < 32) (hD5 : 0 ≤ D ∧ D < 32) (him : 0 ≤ imm ∧ imm < 4294967296) (a bb : Int)
    (ha : 0 ≤ a ∧ a < 4294967296) (hb : 0 ≤ bb ∧ bb < 4294967296) (hav : s.R S.toNat = a) (hbv : s.R T.toNat = bb) (h0 : s.R 0 = 0) :
    Calls Tryz.prog 88 #[.pointer (some ⟨sb, 0, none⟩), .agg (insC ⟨15, S, T, D, imm⟩)] w fun e w' => RfOk w w' sb (-1, { s with hi := Wd.hi a bb true, lo := Wd.lo a bb true }) e := by
  obtain ⟨S, rfl⟩ := Int.eq_ofNat_of_zero_le hS5.1
  obtain ⟨T, rfl⟩ := Int.eq_ofNat_of_zero_le hT5.1
  obtain ⟨D, rfl⟩ := Int.eq_ofNat_of_zero_le hD5.1
  rw [Int.toNat_natCast] at hav hbv
  have HO := Lib.hid (ref_open hS ⟨15, S, T, D, imm⟩)
  have HAV := Lib.hid hav
  have HBV := Lib.hid hbv
  have HZ := Lib.hid h0
  clear hS hav hbv h0
  have HM := Lib.hid (fun w => mulOf_any a bb true w ha hb)
  generalize Wd.hi a bb true = vh at *
  generalize Wd.lo a bb true = vl at *
  unfold insC
  go_enter Tryz.func88, Tryz.ntmps88
  go_upto_region 1 with fail
  obtain ⟨hS1, hI1, hk1⟩ := HO.out
  simp only at hS1 hI1 hk1
  generalize w.alloc _ = w1 at *
  generalize w.heap.size = x at *
  have HS1 := Lib.hid hS1
  have HI1 := Lib.hid hI1
  have HK1 := Lib.hid hk1
  have HW := Lib.hid (fun d => (⟨HS1.out.drewN d, HI1.out.drewN d, HK1.out.drewN d⟩ : StAt (w1.drewN d) sb s ∧ IAt (w1.drewN d) x ⟨15, S, T, D, imm⟩ ∧ Keeps (· = sb) w (w1.drewN d)))
  obtain ⟨i0, i1, i2, i3, i4⟩ := hI1.cells
  have rS := hS1.reg S (by omega)
  rw [HAV.out] at rS
  have hS6 : (S : Int) < 32 := by omega
  have hT6 : (T : Int) < 32 := by omega
  have hD6 : (D : Int) < 32 := by omega
  clear hS1 hI1 hk1
  go_quiet (fail)
  obtain ⟨hS1, hI1, hk1⟩ := HW.out nq
  clear i0 i1 i2 i3 i4 rS HS1 HI1 HK1 HO HW
  generalize w1.drewN nq = w2 at *
  have HW := Lib.hid (fun d => (⟨hS1.drewN d, hI1.drewN d, hk1.drewN d⟩ : StAt (w2.drewN d) sb s ∧ IAt (w2.drewN d) x ⟨15, S, T, D, imm⟩ ∧ Keeps (· = sb) w (w2.drewN d)))
  obtain ⟨i0, i1, i2, i3, i4⟩ := hI1.cells
  have rT := hS1.reg T (by omega)
  rw [HBV.out] at rT
  clear hS1 hI1 hk1
  go_upto_region 2 with fail
  go_quiet (fail)
  obtain ⟨hS1, hI1, hk1⟩ := HW.out nq
  clear i0 i1 i2 i3 i4 rT HW
  generalize w2.drewN nq = w3 at *
  have HS2 := Lib.hid hS1
  have HK2 := Lib.hid hk1
  have HI2 := Lib.hid hI1
  obtain ⟨i0, i1, i2, i3, i4⟩ := hI1.cells
  obtain ⟨s32, s33, _, _, _, _, _, _, _, _, _⟩ := hS1.cells
  have f32 := hS1.frozen 32
  have f33 := hS1.frozen 33
  clear hS1 hk1 hI1
  have HP := Lib.hid ((HS2.out.set 0 (.int .u32 vh) (s' := { s with hi := vh }) rfl rfl).set 1 (.int .u32 vl) (s' := { s with hi := vh, lo := vl }) rfl rfl)
  go_wp2_with fail
  refine (HM.out _).mono ?_
  rintro e w' ⟨rfl, rfl⟩
  go_wp2_with fail
  go_ret
  exact ⟨rfl, ⟨_, HP.out, Cp.ends_same (s := { s with hi := vh, lo := vl }) HZ.out⟩, (HK2.out.trans (Keeps.one _ _ _ _) (fun _ _ h => h)).trans (Keeps.one _ _ _ _) (fun _ _ h => h)⟩

set_option maxRecDepth 100000 in
set_option maxHeartbeats 2000000 in
theorem rsum_16 (sb : Nat) (S T D imm : Int) (s : Cp.St) (w : World) (hS : StAt w sb s) (hS5 : 0 ≤ S ∧ S < 32) (hT5 : 0 ≤ T ∧ T < 32) (hD5 : 0 ≤ D ∧ D < 32) (him : 0 ≤ imm ∧ imm < 4294967296) (a bb : Int)
    (ha : 0 ≤ a ∧ a < 4294967296) (hb : 0 ≤ bb ∧ bb < 4294967296) (hav : s.R S.toNat = a) (hbv : s.R T.toNat = bb) (h0 : s.R 0 = 0) :
    Calls Tryz.prog 88 #[.pointer (some ⟨sb, 0, none⟩), .agg (insC ⟨16, S, T, D, imm⟩)] w fun e w' => RfOk w w' sb (-1, { s with hi := Wd.hi a bb false, lo := Wd.lo a bb false }) e := by
  obtain ⟨S, rfl⟩ := Int.eq_ofNat_of_zero_le hS5.1
  obtain ⟨T, rfl⟩ := Int.eq_ofNat_of_zero_le hT5.1
  obtain ⟨D, rfl⟩ := Int.eq_ofNat_of_zero_le hD5.1
  rw [Int.toNat_natCast] at hav hbv
  have HO := Lib.hid (ref_open hS ⟨16, S, T, D, imm⟩)
  have HAV := Lib.hid hav
  have HBV := Lib.hid hbv
  have HZ := Lib.hid h0
  clear hS hav hbv h0
  have HM := Lib.hid (fun w => mulOf_any a bb false w ha hb)
  generalize Wd.hi a bb false = vh at *
  generalize Wd.lo a bb false = vl at *
  unfold insC
  go_enter Tryz.func88, Tryz.ntmps88
  go_upto_region 1 with fail
  obtain ⟨hS1, hI1, hk1⟩ := HO.out
  simp only at hS1 hI1 hk1
  generalize w.alloc _ = w1 at *
  generalize w.heap.size = x at *
  have HS1 := Lib.hid hS1
  have HI1 := Lib.hid hI1
  have HK1 := Lib.hid hk1
  have HW := Lib.hid (fun d => (⟨HS1.out.drewN d, HI1.out.drewN d, HK1.out.drewN d⟩ : StAt (w1.drewN d) sb s ∧ IAt (w1.drewN d) x ⟨16, S, T, D, imm⟩ ∧ Keeps (· = sb) w (w1.drewN d)))
  obtain ⟨i0, i1, i2, i3, i4⟩ := hI1.cells
  have rS := hS1.reg S (by omega)
  rw [HAV.out] at rS
  have hS6 : (S : Int) < 32 := by omega
  have hT6 : (T : Int) < 32 := by omega
  have hD6 : (D : Int) < 32 := by omega
  clear hS1 hI1 hk1
  go_quiet (fail)
  obtain ⟨hS1, hI1, hk1⟩ := HW.out nq
  clear i0 i1 i2 i3 i4 rS HS1 HI1 HK1 HO HW
  generalize w1.drewN nq = w2 at *
  have HW := Lib.hid (fun d => (⟨hS1.drewN d, hI1.drewN d, hk1.drewN d⟩ : StAt (w2.drewN d) sb s ∧ IAt (w2.drewN d) x ⟨16, S, T, D, imm⟩ ∧ Keeps (· = sb) w (w2.drewN d)))
  obtain ⟨i0, i1, i2, i3, i4⟩ := hI1.cells
  have rT := hS1.reg T (by omega)
  rw [HBV.out] at rT
  clear hS1 hI1 hk1
  go_upto_region 2 with fail
  go_quiet (fail)
  obtain ⟨hS1, hI1, hk1⟩ := HW.out nq
  clear i0 i1 i2 i3 i4 rT HW
  generalize w2.drewN nq = w3 at *
  have HS2 := Lib.hid hS1
  have HK2 := Lib.hid hk1
  have HI2 := Lib.hid hI1
  obtain ⟨i0, i1, i2, i3, i4⟩ := hI1.cells
  obtain ⟨s32, s33, _, _, _, _, _, _, _, _, _⟩ := hS1.cells
  have f32 := hS1.frozen 32
  have f33 := hS1.frozen 33
  clear hS1 hk1 hI1
  have HP := Lib.hid ((HS2.out.set 0 (.int .u32 vh) (s' := { s with hi := vh }) rfl rfl).set 1 (.int .u32 vl) (s' := { s with hi := vh, lo := vl }) rfl rfl)
  go_wp2_with fail
  refine (HM.out _).mono ?_
  rintro e w' ⟨rfl, rfl⟩
  go_wp2_with fail
  go_ret
  exact ⟨rfl, ⟨_, HP.out, Cp.ends_same (s := { s with hi := vh, lo := vl }) HZ.out⟩, (HK2.out.trans (Keeps.one _ _ _ _) (fun _ _ h => h)).trans (Keeps.one _ _ _ _) (fun _ _ h => h)⟩

set_option maxRecDepth 100000 in
set_option maxHeartbeats 2000000 in
theorem rsum_17b (sb : Nat) (S T D imm : Int) (s : Cp.St) (w : World) (hS : StAt w sb s) (hS5 : 0 ≤ S ∧ S < 32) (hT5 : 0 ≤ T ∧ T < 32) (hD5 : 0 ≤ D ∧ D < 32) (him : 0 ≤ imm ∧ imm < 4294967296) (a bb : Int)
    (ha : 0 ≤ a ∧ a < 4294967296) (hb : 0 ≤ bb ∧ bb < 4294967296) (hav : s.R S.toNat = a) (hbv : s.R T.toNat = bb) (h0 : s.R 0 = 0) (hz : bb = 0) :
    Calls Tryz.prog 88 #[.pointer (some ⟨sb, 0, none⟩), .agg (insC ⟨17, S, T, D, imm⟩)] w fun e w' => RfOk w w' sb (-1, s) e := by
  obtain ⟨S, rfl⟩ := Int.eq_ofNat_of_zero_le hS5.1
  obtain ⟨T, rfl⟩ := Int.eq_ofNat_of_zero_le hT5.1
  obtain ⟨D, rfl⟩ := Int.eq_ofNat_of_zero_le hD5.1
  rw [Int.toNat_natCast] at hav hbv
  have HO := Lib.hid (ref_open hS ⟨17, S, T, D, imm⟩)
  have HAV := Lib.hid hav
  have HBV := Lib.hid hbv
  have HZ := Lib.hid h0
  clear hS hav hbv h0
  have HM := Lib.hid (fun w => divOf_any a bb true w ha hb)
  rw [show (bb != 0) = false by simpa using hz] at HM
  clear hz
  generalize Wd.quo a bb true = vq at *
  generalize Wd.rst a bb true = vr at *
  unfold insC
  go_enter Tryz.func88, Tryz.ntmps88
  go_upto_region 1 with fail
  obtain ⟨hS1, hI1, hk1⟩ := HO.out
  simp only at hS1 hI1 hk1
  generalize w.alloc _ = w1 at *
  generalize w.heap.size = x at *
  have HS1 := Lib.hid hS1
  have HI1 := Lib.hid hI1
  have HK1 := Lib.hid hk1
  have HW := Lib.hid (fun d => (⟨HS1.out.drewN d, HI1.out.drewN d, HK1.out.drewN d⟩ : StAt (w1.drewN d) sb s ∧ IAt (w1.drewN d) x ⟨17, S, T, D, imm⟩ ∧ Keeps (· = sb) w (w1.drewN d)))
  obtain ⟨i0, i1, i2, i3, i4⟩ := hI1.cells
  have rS := hS1.reg S (by omega)
  rw [HAV.out] at rS
  have hS6 : (S : Int) < 32 := by omega
  have hT6 : (T : Int) < 32 := by omega
  have hD6 : (D : Int) < 32 := by omega
  clear hS1 hI1 hk1
  go_quiet (fail)
  obtain ⟨hS1, hI1, hk1⟩ := HW.out nq
  clear i0 i1 i2 i3 i4 rS HS1 HI1 HK1 HO HW
  generalize w1.drewN nq = w2 at *
  have HW := Lib.hid (fun d => (⟨hS1.drewN d, hI1.drewN d, hk1.drewN d⟩ : StAt (w2.drewN d) sb s ∧ IAt (w2.drewN d) x ⟨17, S, T, D, imm⟩ ∧ Keeps (· = sb) w (w2.drewN d)))
  obtain ⟨i0, i1, i2, i3, i4⟩ := hI1.cells
  have rT := hS1.reg T (by omega)
  rw [HBV.out] at rT
  clear hS1 hI1 hk1
  go_upto_region 2 with fail
  go_quiet (fail)
  obtain ⟨hS1, hI1, hk1⟩ := HW.out nq
  clear i0 i1 i2 i3 i4 rT HW
  generalize w2.drewN nq = w3 at *
  have HS2 := Lib.hid hS1
  have HK2 := Lib.hid hk1
  have HI2 := Lib.hid hI1
  obtain ⟨i0, i1, i2, i3, i4⟩ := hI1.cells
  obtain ⟨s32, s33, _, _, _, _, _, _, _, _, _⟩ := hS1.cells
  have f32 := hS1.frozen 32
  have f33 := hS1.frozen 33
  clear hS1 hk1 hI1
  go_wp2_with fail
  refine (HM.out _).mono ?_
  rintro e w4 ⟨rfl, m, rfl⟩
  have hS4 := HS2.out.drewN m
  have hk4 := HK2.out.drewN m
  clear i0 i1 i2 i3 i4 s32 s33 f32 f33 HS2 HI2 HK2 HM
  generalize w3.drewN m = w4 at *
  have HS2 := Lib.hid hS4
  have HK2 := Lib.hid hk4
  obtain ⟨s32, s33, _, _, _, _, _, _, _, _, _⟩ := hS4.cells
  have f32 := hS4.frozen 32
  have f33 := hS4.frozen 33
  clear hS4 hk4
  go_wp2_with fail
  go_ret
  exact ⟨rfl, ⟨s, HS2.out, Cp.ends_same HZ.out⟩, HK2.out⟩

set_option maxRecDepth 100000 in
set_option maxHeartbeats 2000000 in
theorem rsum_17 (sb : Nat) (S T D imm : Int) (s : Cp.St) (w : World) (hS : StAt w sb s) (hS5 : 0 ≤ S ∧ S < 32) (hT5 : 0 ≤ T ∧ T < 32) (hD5 : 0 ≤ D ∧ D < 32) (him : 0 ≤ imm ∧ imm < 4294967296) (a bb : Int)
    (ha : 0 ≤ a ∧ a < 4294967296) (hb : 0 ≤ bb ∧ bb < 4294967296) (hav : s.R S.toNat = a) (hbv : s.R T.toNat = bb) (h0 : s.R 0 = 0) (hz : bb ≠ 0) :
    Calls Tryz.prog 88 #[.pointer (some ⟨sb, 0, none⟩), .agg (insC ⟨17, S, T, D, imm⟩)] w fun e w' => RfOk w w' sb (-1, { s with lo := Wd.quo a bb true, hi := Wd.rst a bb true }) e := by
  obtain ⟨S, rfl⟩ := Int.eq_ofNat_of_zero_le hS5.1
  obtain ⟨T, rfl⟩ := Int.eq_ofNat_of_zero_le hT5.1
  obtain ⟨D, rfl⟩ := Int.eq_ofNat_of_zero_le hD5.1
  rw [Int.toNat_natCast] at hav hbv
  have HO := Lib.hid (ref_open hS ⟨17, S, T, D, imm⟩)
  have HAV := Lib.hid hav
  have HBV := Lib.hid hbv
  have HZ := Lib.hid h0
  clear hS hav hbv h0
  have HM := Lib.hid (fun w => divOf_any a bb true w ha hb)
  rw [show (bb != 0) = true by simpa using hz] at HM
  clear hz
  generalize Wd.quo a bb true = vq at *
  generalize Wd.rst a bb true = vr at *
  unfold insC
  go_enter Tryz.func88, Tryz.ntmps88
  go_upto_region 1 with fail
  obtain ⟨hS1, hI1, hk1⟩ := HO.out
  simp only at hS1 hI1 hk1
  generalize w.alloc _ = w1 at *
  generalize w.heap.size = x at *
  have HS1 := Lib.hid hS1
  have HI1 := Lib.hid hI1
  have HK1 := Lib.hid hk1
  have HW := Lib.hid (fun d => (⟨HS1.out.drewN d, HI1.out.drewN d, HK1.out.drewN d⟩ : StAt (w1.drewN d) sb s ∧ IAt (w1.drewN d) x ⟨17, S, T, D, imm⟩ ∧ Keeps (· = sb) w (w1.drewN d)))
  obtain ⟨i0, i1, i2, i3, i4⟩ := hI1.cells
  have rS := hS1.reg S (by omega)
  rw [HAV.out] at rS
  have hS6 : (S : Int) < 32 := by omega
  have hT6 : (T : Int) < 32 := by omega
  have hD6 : (D : Int) < 32 := by omega
  clear hS1 hI1 hk1
  go_quiet (fail)
  obtain ⟨hS1, hI1, hk1⟩ := HW.out nq
  clear i0 i1 i2 i3 i4 rS HS1 HI1 HK1 HO HW
  generalize w1.drewN nq = w2 at *
  have HW := Lib.hid (fun d => (⟨hS1.drewN d, hI1.drewN d, hk1.drewN d⟩ : StAt (w2.drewN d) sb s ∧ IAt (w2.drewN d) x ⟨17, S, T, D, imm⟩ ∧ Keeps (· = sb) w (w2.drewN d)))
  obtain ⟨i0, i1, i2, i3, i4⟩ := hI1.cells
  have rT := hS1.reg T (by omega)
  rw [HBV.out] at rT
  clear hS1 hI1 hk1
  go_upto_region 2 with fail
  go_quiet (fail)
  obtain ⟨hS1, hI1, hk1⟩ := HW.out nq
  clear i0 i1 i2 i3 i4 rT HW
  generalize w2.drewN nq = w3 at *
  have HS2 := Lib.hid hS1
  have HK2 := Lib.hid hk1
  have HI2 := Lib.hid hI1
  obtain ⟨i0, i1, i2, i3, i4⟩ := hI1.cells
  obtain ⟨s32, s33, _, _, _, _, _, _, _, _, _⟩ := hS1.cells
  have f32 := hS1.frozen 32
  have f33 := hS1.frozen 33
  clear hS1 hk1 hI1
  go_wp2_with fail
  refine (HM.out _).mono ?_
  rintro e w4 ⟨rfl, m, rfl⟩
  have hS4 := HS2.out.drewN m
  have hk4 := HK2.out.drewN m
  clear i0 i1 i2 i3 i4 s32 s33 f32 f33 HS2 HI2 HK2 HM
  generalize w3.drewN m = w4 at *
  have HS2 := Lib.hid hS4
  have HK2 := Lib.hid hk4
  obtain ⟨s32, s33, _, _, _, _, _, _, _, _, _⟩ := hS4.cells
  have f32 := hS4.frozen 32
  have f33 := hS4.frozen 33
  clear hS4 hk4
  have HP := Lib.hid ((HS2.out.set 1 (.int .u32 vq) (s' := { s with lo := vq }) rfl rfl).set 0 (.int .u32 vr) (s' := { s with lo := vq, hi := vr }) rfl rfl)
  go_wp2_with fail
  go_ret
  exact ⟨rfl, ⟨_, HP.out, Cp.ends_same (s := { s with lo := vq, hi := vr }) HZ.out⟩, (HK2.out.trans (Keeps.one _ _ _ _) (fun _ _ h => h)).trans (Keeps.one _ _ _ _) (fun _ _ h => h)⟩

set_option maxRecDepth 100000 in
set_option maxHeartbeats 2000000 in
theorem rsum_18b (sb : Nat) (S T D imm : Int) (s : Cp.St) (w : World) (hS : StAt w sb s) (hS5 : 0 ≤ S ∧ S < 32) (hT5 : 0 ≤ T ∧ T < 32) (hD5 : 0 ≤ D ∧ D < 32) (him : 0 ≤ imm ∧ imm < 4294967296) (a bb : Int)
    (ha : 0 ≤ a ∧ a < 4294967296) (hb : 0 ≤ bb ∧ bb < 4294967296) (hav : s.R S.toNat = a) (hbv : s.R T.toNat = bb) (h0 : s.R 0 = 0) (hz : bb = 0) :
    Calls Tryz.prog 88 #[.pointer (some ⟨sb, 0, none⟩), .agg (insC ⟨18, S, T, D, imm⟩)] w fun e w' => RfOk w w' sb (-1, s) e := by
  obtain ⟨S, rfl⟩ := Int.eq_ofNat_of_zero_le hS5.1
  obtain ⟨T, rfl⟩ := Int.eq_ofNat_of_zero_le hT5.1
  obtain ⟨D, rfl⟩ := Int.eq_ofNat_of_zero_le hD5.1
  rw [Int.toNat_natCast] at hav hbv
  have HO := Lib.hid (ref_open hS ⟨18, S, T, D, imm⟩)
  have HAV := Lib.hid hav
  have HBV := Lib.hid hbv
  have HZ := Lib.hid h0
  clear hS hav hbv h0
  have HM := Lib.hid (fun w => divOf_any a bb false w ha hb)
  rw [show (bb != 0) = false by simpa using hz] at HM
  clear hz
  generalize Wd.quo a bb false = vq at *
  generalize Wd.rst a bb false = vr at *
  unfold insC
  go_enter Tryz.func88, Tryz.ntmps88
  go_upto_region 1 with fail
  obtain ⟨hS1, hI1, hk1⟩ := HO.out
  simp only at hS1 hI1 hk1
  generalize w.alloc _ = w1 at *
  generalize w.heap.size = x at *
  have HS1 := Lib.hid hS1
  have HI1 := Lib.hid hI1
  have HK1 := Lib.hid hk1
  have HW := Lib.hid (fun d => (⟨HS1.out.drewN d, HI1.out.drewN d, HK1.out.drewN d⟩ : StAt (w1.drewN d) sb s ∧ IAt (w1.drewN d) x ⟨18, S, T, D, imm⟩ ∧ Keeps (· = sb) w (w1.drewN d)))
  obtain ⟨i0, i1, i2, i3, i4⟩ := hI1.cells
  have rS := hS1.reg S (by omega)
  rw [HAV.out] at rS
  have hS6 : (S : Int) < 32 := by omega
  have hT6 : (T : Int) < 32 := by omega
  have hD6 : (D : Int) < 32 := by omega
  clear hS1 hI1 hk1
  go_quiet (fail)
  obtain ⟨hS1, hI1, hk1⟩ := HW.out nq
  clear i0 i1 i2 i3 i4 rS HS1 HI1 HK1 HO HW
  generalize w1.drewN nq = w2 at *
  have HW := Lib.hid (fun d => (⟨hS1.drewN d, hI1.drewN d, hk1.drewN d⟩ : StAt (w2.drewN d) sb s ∧ IAt (w2.drewN d) x ⟨18, S, T, D, imm⟩ ∧ Keeps (· = sb) w (w2.drewN d)))
  obtain ⟨i0, i1, i2, i3, i4⟩ := hI1.cells
  have rT := hS1.reg T (by omega)
  rw [HBV.out] at rT
  clear hS1 hI1 hk1
  go_upto_region 2 with fail
  go_quiet (fail)
  obtain ⟨hS1, hI1, hk1⟩ := HW.out nq
  clear i0 i1 i2 i3 i4 rT HW
  generalize w2.drewN nq = w3 at *
  have HS2 := Lib.hid hS1
  have HK2 := Lib.hid hk1
  have HI2 := Lib.hid hI1
  obtain ⟨i0, i1, i2, i3, i4⟩ := hI1.cells
  obtain ⟨s32, s33, _, _, _, _, _, _, _, _, _⟩ := hS1.cells
  have f32 := hS1.frozen 32
  have f33 := hS1.frozen 33
  clear hS1 hk1 hI1
  go_wp2_with fail
  refine (HM.out _).mono ?_
  rintro e w4 ⟨rfl, m, rfl⟩
  have hS4 := HS2.out.drewN m
  have hk4 := HK2.out.drewN m
  clear i0 i1 i2 i3 i4 s32 s33 f32 f33 HS2 HI2 HK2 HM
  generalize w3.drewN m = w4 at *
  have HS2 := Lib.hid hS4
  have HK2 := Lib.hid hk4
  obtain ⟨s32, s33, _, _, _, _, _, _, _, _, _⟩ := hS4.cells
  have f32 := hS4.frozen 32
  have f33 := hS4.frozen 33
  clear hS4 hk4
  go_wp2_with fail
  go_ret
  exact ⟨rfl, ⟨s, HS2.out, Cp.ends_same HZ.out⟩, HK2.out⟩

set_option maxRecDepth 100000 in
set_option maxHeartbeats 2000000 in
theorem rsum_18 (sb : Nat) (S T D imm : Int) (s : Cp.St) (w : World) (hS : StAt w sb s) (hS5 : 0 ≤ S ∧ S < 32) (hT5 : 0 ≤ T ∧ T < 32) (hD5 : 0 ≤ D ∧ D < 32) (him : 0 ≤ imm ∧ imm < 4294967296) (a bb : Int)
    (ha : 0 ≤ a ∧ a < 4294967296) (hb : 0 ≤ bb ∧ bb < 4294967296) (hav : s.R S.toNat = a) (hbv : s.R T.toNat = bb) (h0 : s.R 0 = 0) (hz : bb ≠ 0) :
    Calls Tryz.prog 88 #[.pointer (some ⟨sb, 0, none⟩), .agg (insC ⟨18, S, T, D, imm⟩)] w fun e w' => RfOk w w' sb (-1, { s with lo := Wd.quo a bb false, hi := Wd.rst a bb false }) e := by
  obtain ⟨S, rfl⟩ := Int.eq_ofNat_of_zero_le hS5.1
  obtain ⟨T, rfl⟩ := Int.eq_ofNat_of_zero_le hT5.1
  obtain ⟨D, rfl⟩ := Int.eq_ofNat_of_zero_le hD5.1
  rw [Int.toNat_natCast] at hav hbv
  have HO := Lib.hid (ref_open hS ⟨18, S, T, D, imm⟩)
  have HAV := Lib.hid hav
  have HBV := Lib.hid hbv
  have HZ := Lib.hid h0
  clear hS hav hbv h0
  have HM := Lib.hid (fun w => divOf_any a bb false w ha hb)
  rw [show (bb != 0) = true by simpa using hz] at HM
  clear hz
  generalize Wd.quo a bb false = vq at *
  generalize Wd.rst a bb false = vr at *
  unfold insC
  go_enter Tryz.func88, Tryz.ntmps88
  go_upto_region 1 with fail
  obtain ⟨hS1, hI1, hk1⟩ := HO.out
  simp only at hS1 hI1 hk1
  generalize w.alloc _ = w1 at *
  generalize w.heap.size = x at *
  have HS1 := Lib.hid hS1
  have HI1 := Lib.hid hI1
  have HK1 := Lib.hid hk1
  have HW := Lib.hid (fun d => (⟨HS1.out.drewN d, HI1.out.drewN d, HK1.out.drewN d⟩ : StAt (w1.drewN d) sb s ∧ IAt (w1.drewN d) x ⟨18, S, T, D, imm⟩ ∧ Keeps (· = sb) w (w1.drewN d)))
  obtain ⟨i0, i1, i2, i3, i4⟩ := hI1.cells
  have rS := hS1.reg S (by omega)
  rw [HAV.out] at rS
  have hS6 : (S : Int) < 32 := by omega
  have hT6 : (T : Int) < 32 := by omega
  have hD6 : (D : Int) < 32 := by omega
  clear hS1 hI1 hk1
  go_quiet (fail)
  obtain ⟨hS1, hI1, hk1⟩ := HW.out nq
  clear i0 i1 i2 i3 i4 rS HS1 HI1 HK1 HO HW
  generalize w1.drewN nq = w2 at *
  have HW := Lib.hid (fun d => (⟨hS1.drewN d, hI1.drewN d, hk1.drewN d⟩ : StAt (w2.drewN d) sb s ∧ IAt (w2.drewN d) x ⟨18, S, T, D, imm⟩ ∧ Keeps (· = sb) w (w2.drewN d)))
  obtain ⟨i0, i1, i2, i3, i4⟩ := hI1.cells
  have rT := hS1.reg T (by omega)
  rw [HBV.out] at rT
  clear hS1 hI1 hk1
  go_upto_region 2 with fail
  go_quiet (fail)
  obtain ⟨hS1, hI1, hk1⟩ := HW.out nq
  clear i0 i1 i2 i3 i4 rT HW
  generalize w2.drewN nq = w3 at *
  have HS2 := Lib.hid hS1
  have HK2 := Lib.hid hk1
  have HI2 := Lib.hid hI1
  obtain ⟨i0, i1, i2, i3, i4⟩ := hI1.cells
  obtain ⟨s32, s33, _, _, _, _, _, _, _, _, _⟩ := hS1.cells
  have f32 := hS1.frozen 32
  have f33 := hS1.frozen 33
  clear hS1 hk1 hI1
  go_wp2_with fail
  refine (HM.out _).mono ?_
  rintro e w4 ⟨rfl, m, rfl⟩
  have hS4 := HS2.out.drewN m
  have hk4 := HK2.out.drewN m
  clear i0 i1 i2 i3 i4 s32 s33 f32 f33 HS2 HI2 HK2 HM
  generalize w3.drewN m = w4 at *
  have HS2 := Lib.hid hS4
  have HK2 := Lib.hid hk4
  obtain ⟨s32, s33, _, _, _, _, _, _, _, _, _⟩ := hS4.cells
  have f32 := hS4.frozen 32
  have f33 := hS4.frozen 33
  clear hS4 hk4
  have HP := Lib.hid ((HS2.out.set 1 (.int .u32 vq) (s' := { s with lo := vq }) rfl rfl).set 0 (.int .u32 vr) (s' := { s with lo := vq, hi := vr }) rfl rfl)
  go_wp2_with fail
  go_ret
  exact ⟨rfl, ⟨_, HP.out, Cp.ends_same (s := { s with lo := vq, hi := vr }) HZ.out⟩, (HK2.out.trans (Keeps.one _ _ _ _) (fun _ _ h => h)).trans (Keeps.one _ _ _ _) (fun _ _ h => h)⟩
end Go.Proofs.YtlbdkcnbgdmpaaaGreatDoor
