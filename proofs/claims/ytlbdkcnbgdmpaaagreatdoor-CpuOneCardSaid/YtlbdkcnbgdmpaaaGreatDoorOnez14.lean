import Derived.Test.YtlbdkcnbgdmpaaaGreatDoorOnez13
import Derived.Test.YtlbdkcnbgdmpaaaGreatDoorOnez9
import Derived.Test.YtlbdkcnbgdmpaaaGreatDoorOnez12
import Derived.Test.YtlbdkcnbgdmpaaaGreatDoorOnez0
import Derived.Test.YtlbdkcnbgdmpaaaGreatDoorOnez1

/- RbrAny -/
/- The reference's processor: branch, whatever the operation. -/
namespace Go.Proofs.YtlbdkcnbgdmpaaaGreatDoor
open Go.RowKit Go.Deep
set_option linter.unusedVariables false

theorem plus_still (a b : Int) (w : World) (ha : 0 ≤ a ∧ a < 4294967296) (hb : 0 ≤ b ∧ b < 4294967296) :
    Calls Tryz.prog 43 #[.int .u32 a, .int .u32 b] w fun e w' => e = .returned (.int .u32 (Cp.u (a + b))) ∧ w' = w :=
  (plus_any a b w ha hb).mono fun e w' ⟨he, hw⟩ => ⟨he, hw.symm⟩
theorem near_eq (pc n : Int) (hn : 0 ≤ n ∧ n < 4294967296) : Cp.u (Cp.u (pc + 4) + 4 * Wd.sg n % 4294967296) = Cp.u (pc + 4 + 4 * n) := by
  have h : Wd.sg n = n ∨ Wd.sg n = n - 4294967296 := by unfold Wd.sg; split <;> omega
  unfold Cp.u
  rcases h with h | h <;> rw [h] <;> omega
set_option maxHeartbeats 1000000 in
theorem rbranch_any (sb : Nat) (i : Cd.Ins) (s : Cp.St) (w : World) (hS : StAt w sb s) (hs : Cp.Rng s) (hi : Cd.Ok i) (h0 : s.R 0 = 0) (hop : i.op = 7 ∨ i.op = 8 ∨ (29 ≤ i.op ∧ i.op ≤ 34)) (hsl : s.slot = false) :
    Calls Tryz.prog 84 #[.pointer (some ⟨sb, 0, none⟩), .agg (insC i)] w fun e w' => RbOk w w' sb ((Cp.to i s).getD (-1)) (-1, Cp.link i s) e := by
  obtain ⟨op, S, T, D, imm⟩ := i
  have hS5 : 0 ≤ S ∧ S < 32 := hi.S
  have hT5 : 0 ≤ T ∧ T < 32 := hi.T
  have hD5 : 0 ≤ D ∧ D < 32 := hi.D
  have him : 0 ≤ imm ∧ imm < 67108864 := hi.imm
  have ha : 0 ≤ s.R S.toNat ∧ s.R S.toNat < 4294967296 := hs.R _ (by omega)
  have hb : 0 ≤ s.R T.toNat ∧ s.R T.toNat < 4294967296 := hs.R _ (by omega)
  have hn := wide_rng imm
  have hg := Wd.sg_bd _ hn.1 hn.2
  have hpc := hs.pc
  have hp4 : 0 ≤ Cp.u (s.pc + 4) ∧ Cp.u (s.pc + 4) < 4294967296 := Cp.W_u _
  have hnr : 0 ≤ Cp.u (s.pc + 4 + 4 * Wd.wide imm 16 true) ∧ Cp.u (s.pc + 4 + 4 * Wd.wide imm 16 true) < 4294967296 := Cp.W_u _
  have hq : 0 ≤ 4 * Wd.sg (Wd.wide imm 16 true) % 4294967296 ∧ 4 * Wd.sg (Wd.wide imm 16 true) % 4294967296 < 4294967296 := by omega
  have P4 := Lib.hid (fun w => plus_any s.pc 4 w hpc (by omega))
  have GN := Lib.hid (fun w => signed_any (Wd.wide imm 16 true) w hn)
  have Q := Lib.hid (fun w => word_any (4 * Wd.sg (Wd.wide imm 16 true)) w (by omega))
  have NR := Lib.hid (fun w => by have := plus_any (Cp.u (s.pc + 4)) (4 * Wd.sg (Wd.wide imm 16 true) % 4294967296) w hp4 hq; rw [near_eq s.pc _ hn] at this; exact this)
  have V8 := Lib.hid (fun w => plus_still s.pc 8 w hpc (by omega))
  simp only at hop
  have h8 : op = 7 ∨ op = 8 ∨ op = 29 ∨ op = 30 ∨ op = 31 ∨ op = 32 ∨ op = 33 ∨ op = 34 := by omega
  rcases h8 with rfl | rfl | rfl | rfl | rfl | rfl | rfl | rfl
  · exact rbr_7 sb S T D imm s w hS hS5 hT5 hD5 him _ _ _ _ _ _ _ _ _ hpc ha hb rfl rfl h0 hsl hn hp4 hg hq hnr (Lib.hid rfl) P4 GN Q NR (Lib.hid rfl) V8
  · exact rbr_8 sb S T D imm s w hS hS5 hT5 hD5 him _ _ _ _ _ _ _ _ _ hpc ha hb rfl rfl h0 hsl hn hp4 hg hq hnr (Lib.hid rfl) P4 GN Q NR (Lib.hid rfl) V8
  · exact rbr_29 sb S T D imm s w hS hS5 hT5 hD5 him _ _ _ _ _ _ _ _ _ hpc ha hb rfl rfl h0 hsl hn hp4 hg hq hnr (Lib.hid rfl) P4 GN Q NR (Lib.hid rfl) V8
  · exact rbr_30 sb S T D imm s w hS hS5 hT5 hD5 him _ _ _ _ _ _ _ _ _ hpc ha hb rfl rfl h0 hsl hn hp4 hg hq hnr (Lib.hid rfl) P4 GN Q NR (Lib.hid rfl) V8
  · by_cases hc : s.R S.toNat = s.R T.toNat
    · rw [show Cp.to ⟨31, S, T, D, imm⟩ s = some (Cp.near ⟨31, S, T, D, imm⟩ s) from if_pos hc]
      exact rbr_31y sb S T D imm s w hS hS5 hT5 hD5 him _ _ _ _ _ _ _ _ _ hpc ha hb rfl rfl h0 hsl hn hp4 hg hq hnr (Lib.hid rfl) P4 GN Q NR (Lib.hid rfl) V8 hc
    · rw [show Cp.to ⟨31, S, T, D, imm⟩ s = none from if_neg hc]
      exact rbr_31n sb S T D imm s w hS hS5 hT5 hD5 him _ _ _ _ _ _ _ _ _ hpc ha hb rfl rfl h0 hsl hn hp4 hg hq hnr (Lib.hid rfl) P4 GN Q NR (Lib.hid rfl) V8 hc
  · by_cases hc : s.R S.toNat = s.R T.toNat
    · rw [show Cp.to ⟨32, S, T, D, imm⟩ s = none from if_pos hc]
      exact rbr_32n sb S T D imm s w hS hS5 hT5 hD5 him _ _ _ _ _ _ _ _ _ hpc ha hb rfl rfl h0 hsl hn hp4 hg hq hnr (Lib.hid rfl) P4 GN Q NR (Lib.hid rfl) V8 hc
    · rw [show Cp.to ⟨32, S, T, D, imm⟩ s = some (Cp.near ⟨32, S, T, D, imm⟩ s) from if_neg hc]
      exact rbr_32y sb S T D imm s w hS hS5 hT5 hD5 him _ _ _ _ _ _ _ _ _ hpc ha hb rfl rfl h0 hsl hn hp4 hg hq hnr (Lib.hid rfl) P4 GN Q NR (Lib.hid rfl) V8 hc
  · by_cases hc : Wd.sg (s.R S.toNat) ≤ 0
    · rw [show Cp.to ⟨33, S, T, D, imm⟩ s = some (Cp.near ⟨33, S, T, D, imm⟩ s) from if_pos hc]
      exact rbr_33y sb S T D imm s w hS hS5 hT5 hD5 him _ _ _ _ _ _ _ _ _ hpc ha hb rfl rfl h0 hsl hn hp4 hg hq hnr (Lib.hid rfl) P4 GN Q NR (Lib.hid rfl) V8 hc
    · rw [show Cp.to ⟨33, S, T, D, imm⟩ s = none from if_neg hc]
      exact rbr_33n sb S T D imm s w hS hS5 hT5 hD5 him _ _ _ _ _ _ _ _ _ hpc ha hb rfl rfl h0 hsl hn hp4 hg hq hnr (Lib.hid rfl) P4 GN Q NR (Lib.hid rfl) V8 hc
  · by_cases hc : Wd.sg (s.R S.toNat) ≤ 0
    · rw [show Cp.to ⟨34, S, T, D, imm⟩ s = none from if_pos hc]
      exact rbr_34n sb S T D imm s w hS hS5 hT5 hD5 him _ _ _ _ _ _ _ _ _ hpc ha hb rfl rfl h0 hsl hn hp4 hg hq hnr (Lib.hid rfl) P4 GN Q NR (Lib.hid rfl) V8 hc
    · rw [show Cp.to ⟨34, S, T, D, imm⟩ s = some (Cp.near ⟨34, S, T, D, imm⟩ s) from if_neg hc]
      exact rbr_34y sb S T D imm s w hS hS5 hT5 hD5 him _ _ _ _ _ _ _ _ _ hpc ha hb rfl rfl h0 hsl hn hp4 hg hq hnr (Lib.hid rfl) P4 GN Q NR (Lib.hid rfl) V8 hc
end Go.Proofs.YtlbdkcnbgdmpaaaGreatDoor

/- Rtrap -/
/- The reference's processor: the walks of trap. Printed by gen/rtrap.py. -/
namespace Go.Proofs.YtlbdkcnbgdmpaaaGreatDoor
open Go.RowKit Go.Deep
set_option linter.unusedVariables false

theorem word_still (n : Int) (w : World) (h : 0 ≤ n ∧ n < 4611686018427387904) :
    Calls Tryz.prog 42 #[.int .i64 n] w fun e w' => e = .returned (.int .u32 (Cp.u n)) ∧ w' = w :=
  (word_any n w (by omega)).mono fun e w' ⟨he, hw⟩ => ⟨he, hw.symm⟩
set_option maxRecDepth 100000 in
set_option maxHeartbeats 2000000 in
theorem rtrap_9 (sb : Nat) (S T D imm : Int) (s : Cp.St) (w : World) (hS : StAt w sb s) (hT5 : 0 ≤ T ∧ T < 32) (h0 : s.R 0 = 0) :
    Calls Tryz.prog 87 #[.pointer (some ⟨sb, 0, none⟩), .agg (insC ⟨9, S, T, D, imm⟩)] w fun e w' => RfOk w w' sb (8, s) e := by
  have HO := Lib.hid (ref_open hS ⟨9, S, T, D, imm⟩)
  have HZ := Lib.hid h0
  obtain ⟨T, rfl⟩ := Int.eq_ofNat_of_zero_le hT5.1
  clear hS h0
  unfold insC
  go_enter Tryz.func87, Tryz.ntmps87
  go_upto_region 1 with fail
  obtain ⟨hS1, hI1, hk1⟩ := HO.out
  simp only at hS1 hI1 hk1
  generalize w.alloc _ = w1 at *
  generalize w.heap.size = x at *
  obtain ⟨i0, i1, i2, i3, i4⟩ := hI1.cells
  simp only at i0 i1 i2 i3 i4
  have HS1 := Lib.hid hS1
  have HI1 := Lib.hid hI1
  have HK1 := Lib.hid hk1
  have hT6 : (T : Int) < 32 := by omega
  clear hS1 hI1 hk1
  go_wp2_with fail
  go_ret
  exact ⟨rfl, ⟨s, HS1.out, Cp.ends_bad 8 (by decide)⟩, HK1.out⟩

set_option maxRecDepth 100000 in
set_option maxHeartbeats 2000000 in
theorem rtrap_10 (sb : Nat) (S T D imm : Int) (s : Cp.St) (w : World) (hS : StAt w sb s) (hT5 : 0 ≤ T ∧ T < 32) (h0 : s.R 0 = 0) :
    Calls Tryz.prog 87 #[.pointer (some ⟨sb, 0, none⟩), .agg (insC ⟨10, S, T, D, imm⟩)] w fun e w' => RfOk w w' sb (9, s) e := by
  have HO := Lib.hid (ref_open hS ⟨10, S, T, D, imm⟩)
  have HZ := Lib.hid h0
  obtain ⟨T, rfl⟩ := Int.eq_ofNat_of_zero_le hT5.1
  clear hS h0
  unfold insC
  go_enter Tryz.func87, Tryz.ntmps87
  go_upto_region 1 with fail
  obtain ⟨hS1, hI1, hk1⟩ := HO.out
  simp only at hS1 hI1 hk1
  generalize w.alloc _ = w1 at *
  generalize w.heap.size = x at *
  obtain ⟨i0, i1, i2, i3, i4⟩ := hI1.cells
  simp only at i0 i1 i2 i3 i4
  have HS1 := Lib.hid hS1
  have HI1 := Lib.hid hI1
  have HK1 := Lib.hid hk1
  have hT6 : (T : Int) < 32 := by omega
  clear hS1 hI1 hk1
  go_wp2_with fail
  go_ret
  exact ⟨rfl, ⟨s, HS1.out, Cp.ends_bad 9 (by decide)⟩, HK1.out⟩

set_option maxRecDepth 100000 in
set_option maxHeartbeats 2000000 in
theorem rtrap_0 (sb : Nat) (S T D imm : Int) (s : Cp.St) (w : World) (hS : StAt w sb s) (hT5 : 0 ≤ T ∧ T < 32) (h0 : s.R 0 = 0) :
    Calls Tryz.prog 87 #[.pointer (some ⟨sb, 0, none⟩), .agg (insC ⟨0, S, T, D, imm⟩)] w fun e w' => RfOk w w' sb (10, s) e := by
  have HO := Lib.hid (ref_open hS ⟨0, S, T, D, imm⟩)
  have HZ := Lib.hid h0
  obtain ⟨T, rfl⟩ := Int.eq_ofNat_of_zero_le hT5.1
  clear hS h0
  unfold insC
  go_enter Tryz.func87, Tryz.ntmps87
  go_upto_region 1 with fail
  obtain ⟨hS1, hI1, hk1⟩ := HO.out
  simp only at hS1 hI1 hk1
  generalize w.alloc _ = w1 at *
  generalize w.heap.size = x at *
  obtain ⟨i0, i1, i2, i3, i4⟩ := hI1.cells
  simp only at i0 i1 i2 i3 i4
  have HS1 := Lib.hid hS1
  have HI1 := Lib.hid hI1
  have HK1 := Lib.hid hk1
  have hT6 : (T : Int) < 32 := by omega
  clear hS1 hI1 hk1
  go_wp2_with fail
  go_ret
  exact ⟨rfl, ⟨s, HS1.out, Cp.ends_bad 10 (by decide)⟩, HK1.out⟩

set_option maxRecDepth 100000 in
set_option maxHeartbeats 2000000 in
theorem rfrom_8 (sb : Nat) (S T imm : Int) (s : Cp.St) (w : World) (hS : StAt w sb s) (hT5 : 0 ≤ T ∧ T < 32) (h0 : s.R 0 = 0) :
    Calls Tryz.prog 87 #[.pointer (some ⟨sb, 0, none⟩), .agg (insC ⟨43, S, T, 8, imm⟩)] w fun e w' => RfOk w w' sb (-1, Cp.setR s T s.bad) e := by
  have HO := Lib.hid (ref_open hS ⟨43, S, T, 8, imm⟩)
  have HZ := Lib.hid h0
  obtain ⟨T, rfl⟩ := Int.eq_ofNat_of_zero_le hT5.1
  have HE := Lib.hid (Cp.ends_put (T : Int) s.bad h0 (by omega))
  clear hS h0
  unfold insC
  go_enter Tryz.func87, Tryz.ntmps87
  go_upto_region 1 with fail
  obtain ⟨hS1, hI1, hk1⟩ := HO.out
  simp only at hS1 hI1 hk1
  generalize w.alloc _ = w1 at *
  generalize w.heap.size = x at *
  obtain ⟨i0, i1, i2, i3, i4⟩ := hI1.cells
  simp only at i0 i1 i2 i3 i4
  have HS1 := Lib.hid hS1
  have HI1 := Lib.hid hI1
  have HK1 := Lib.hid hk1
  have hT6 : (T : Int) < 32 := by omega
  obtain ⟨_, _, _, _, _, _, _, _, s40, _, _⟩ := hS1.cells
  have fT := hS1.frozen T
  have rT := hS1.reg T (by omega)
  clear hS1 hI1 hk1
  go_upto_region 10 with fail
  refine wp_region_still_tail 10 (by kernel_rfl) (by kernel_rfl) ?_
  simp only [List.take_succ_cons, List.take_zero, List.drop_succ_cons, List.drop_zero]
  repeat still_step
  refine wpStill_nil ?_
  change wpList _ _ _ _ _ (World.drew _)
  go_wp2_with fail
  go_ret
  exact ⟨rfl, ⟨_, StAt.put (s := s) (show StAt _ sb s from HS1.out) T hT5 _, HE.out⟩, (HK1.out.drew).trans (Keeps.one _ _ _ _) (fun _ _ h => h)⟩

set_option maxRecDepth 100000 in
set_option maxHeartbeats 2000000 in
theorem rfrom_9 (sb : Nat) (S T imm : Int) (s : Cp.St) (w : World) (hS : StAt w sb s) (hT5 : 0 ≤ T ∧ T < 32) (h0 : s.R 0 = 0) (hcr : 0 ≤ s.count ∧ s.count < 4611686018427387904) :
    Calls Tryz.prog 87 #[.pointer (some ⟨sb, 0, none⟩), .agg (insC ⟨43, S, T, 9, imm⟩)] w fun e w' => RfOk w w' sb (-1, Cp.setR s T (Cp.u s.count)) e := by
  have HO := Lib.hid (ref_open hS ⟨43, S, T, 9, imm⟩)
  have HZ := Lib.hid h0
  obtain ⟨T, rfl⟩ := Int.eq_ofNat_of_zero_le hT5.1
  have HE := Lib.hid (Cp.ends_put (T : Int) (Cp.u s.count) h0 (by omega))
  clear hS h0
  unfold insC
  go_enter Tryz.func87, Tryz.ntmps87
  go_upto_region 1 with fail
  obtain ⟨hS1, hI1, hk1⟩ := HO.out
  simp only at hS1 hI1 hk1
  generalize w.alloc _ = w1 at *
  generalize w.heap.size = x at *
  obtain ⟨i0, i1, i2, i3, i4⟩ := hI1.cells
  simp only at i0 i1 i2 i3 i4
  have HS1 := Lib.hid hS1
  have HI1 := Lib.hid hI1
  have HK1 := Lib.hid hk1
  have hT6 : (T : Int) < 32 := by omega
  obtain ⟨_, _, _, _, _, _, _, _, _, _, s42⟩ := hS1.cells
  have fT := hS1.frozen T
  have rT := hS1.reg T (by omega)
  clear hS1 hI1 hk1
  go_upto_region 12 with fail
  refine wp_region_still_tail 11 (by kernel_rfl) (by kernel_rfl) ?_
  simp only [List.take_succ_cons, List.take_zero, List.drop_succ_cons, List.drop_zero]
  repeat still_step
  still_call (word_still s.count _ hcr)
  repeat still_step
  refine wpStill_nil ?_
  change wpList _ _ _ _ _ (World.drew _)
  go_wp2_with fail
  go_ret
  exact ⟨rfl, ⟨_, StAt.put (s := s) (show StAt _ sb s from HS1.out) T hT5 _, HE.out⟩, (HK1.out.drew).trans (Keeps.one _ _ _ _) (fun _ _ h => h)⟩

set_option maxRecDepth 100000 in
set_option maxHeartbeats 2000000 in
theorem rfrom_11 (sb : Nat) (S T imm : Int) (s : Cp.St) (w : World) (hS : StAt w sb s) (hT5 : 0 ≤ T ∧ T < 32) (h0 : s.R 0 = 0) :
    Calls Tryz.prog 87 #[.pointer (some ⟨sb, 0, none⟩), .agg (insC ⟨43, S, T, 11, imm⟩)] w fun e w' => RfOk w w' sb (-1, Cp.setR s T s.compare) e := by
  have HO := Lib.hid (ref_open hS ⟨43, S, T, 11, imm⟩)
  have HZ := Lib.hid h0
  obtain ⟨T, rfl⟩ := Int.eq_ofNat_of_zero_le hT5.1
  have HE := Lib.hid (Cp.ends_put (T : Int) s.compare h0 (by omega))
  clear hS h0
  unfold insC
  go_enter Tryz.func87, Tryz.ntmps87
  go_upto_region 1 with fail
  obtain ⟨hS1, hI1, hk1⟩ := HO.out
  simp only at hS1 hI1 hk1
  generalize w.alloc _ = w1 at *
  generalize w.heap.size = x at *
  obtain ⟨i0, i1, i2, i3, i4⟩ := hI1.cells
  simp only at i0 i1 i2 i3 i4
  have HS1 := Lib.hid hS1
  have HI1 := Lib.hid hI1
  have HK1 := Lib.hid hk1
  have hT6 : (T : Int) < 32 := by omega
  obtain ⟨_, _, _, _, _, _, _, _, _, s41, _⟩ := hS1.cells
  have fT := hS1.frozen T
  have rT := hS1.reg T (by omega)
  clear hS1 hI1 hk1
  go_upto_region 14 with fail
  refine wp_region_still_tail 10 (by kernel_rfl) (by kernel_rfl) ?_
  simp only [List.take_succ_cons, List.take_zero, List.drop_succ_cons, List.drop_zero]
  repeat still_step
  refine wpStill_nil ?_
  change wpList _ _ _ _ _ (World.drew _)
  go_wp2_with fail
  go_ret
  exact ⟨rfl, ⟨_, StAt.put (s := s) (show StAt _ sb s from HS1.out) T hT5 _, HE.out⟩, (HK1.out.drew).trans (Keeps.one _ _ _ _) (fun _ _ h => h)⟩

set_option maxRecDepth 100000 in
set_option maxHeartbeats 2000000 in
theorem rfrom_12 (sb : Nat) (S T imm : Int) (s : Cp.St) (w : World) (hS : StAt w sb s) (hT5 : 0 ≤ T ∧ T < 32) (h0 : s.R 0 = 0) :
    Calls Tryz.prog 87 #[.pointer (some ⟨sb, 0, none⟩), .agg (insC ⟨43, S, T, 12, imm⟩)] w fun e w' => RfOk w w' sb (-1, Cp.setR s T s.status) e := by
  have HO := Lib.hid (ref_open hS ⟨43, S, T, 12, imm⟩)
  have HZ := Lib.hid h0
  obtain ⟨T, rfl⟩ := Int.eq_ofNat_of_zero_le hT5.1
  have HE := Lib.hid (Cp.ends_put (T : Int) s.status h0 (by omega))
  clear hS h0
  unfold insC
  go_enter Tryz.func87, Tryz.ntmps87
  go_upto_region 1 with fail
  obtain ⟨hS1, hI1, hk1⟩ := HO.out
  simp only at hS1 hI1 hk1
  generalize w.alloc _ = w1 at *
  generalize w.heap.size = x at *
  obtain ⟨i0, i1, i2, i3, i4⟩ := hI1.cells
  simp only at i0 i1 i2 i3 i4
  have HS1 := Lib.hid hS1
  have HI1 := Lib.hid hI1
  have HK1 := Lib.hid hk1
  have hT6 : (T : Int) < 32 := by omega
  obtain ⟨_, _, _, _, _, s37, _, _, _, _, _⟩ := hS1.cells
  have fT := hS1.frozen T
  have rT := hS1.reg T (by omega)
  clear hS1 hI1 hk1
  go_upto_region 16 with fail
  refine wp_region_still_tail 10 (by kernel_rfl) (by kernel_rfl) ?_
  simp only [List.take_succ_cons, List.take_zero, List.drop_succ_cons, List.drop_zero]
  repeat still_step
  refine wpStill_nil ?_
  change wpList _ _ _ _ _ (World.drew _)
  go_wp2_with fail
  go_ret
  exact ⟨rfl, ⟨_, StAt.put (s := s) (show StAt _ sb s from HS1.out) T hT5 _, HE.out⟩, (HK1.out.drew).trans (Keeps.one _ _ _ _) (fun _ _ h => h)⟩

set_option maxRecDepth 100000 in
set_option maxHeartbeats 2000000 in
theorem rfrom_13 (sb : Nat) (S T imm : Int) (s : Cp.St) (w : World) (hS : StAt w sb s) (hT5 : 0 ≤ T ∧ T < 32) (h0 : s.R 0 = 0) :
    Calls Tryz.prog 87 #[.pointer (some ⟨sb, 0, none⟩), .agg (insC ⟨43, S, T, 13, imm⟩)] w fun e w' => RfOk w w' sb (-1, Cp.setR s T s.cause) e := by
  have HO := Lib.hid (ref_open hS ⟨43, S, T, 13, imm⟩)
  have HZ := Lib.hid h0
  obtain ⟨T, rfl⟩ := Int.eq_ofNat_of_zero_le hT5.1
  have HE := Lib.hid (Cp.ends_put (T : Int) s.cause h0 (by omega))
  clear hS h0
  unfold insC
  go_enter Tryz.func87, Tryz.ntmps87
  go_upto_region 1 with fail
  obtain ⟨hS1, hI1, hk1⟩ := HO.out
  simp only at hS1 hI1 hk1
  generalize w.alloc _ = w1 at *
  generalize w.heap.size = x at *
  obtain ⟨i0, i1, i2, i3, i4⟩ := hI1.cells
  simp only at i0 i1 i2 i3 i4
  have HS1 := Lib.hid hS1
  have HI1 := Lib.hid hI1
  have HK1 := Lib.hid hk1
  have hT6 : (T : Int) < 32 := by omega
  obtain ⟨_, _, _, _, _, _, s38, _, _, _, _⟩ := hS1.cells
  have fT := hS1.frozen T
  have rT := hS1.reg T (by omega)
  clear hS1 hI1 hk1
  go_upto_region 18 with fail
  refine wp_region_still_tail 10 (by kernel_rfl) (by kernel_rfl) ?_
  simp only [List.take_succ_cons, List.take_zero, List.drop_succ_cons, List.drop_zero]
  repeat still_step
  refine wpStill_nil ?_
  change wpList _ _ _ _ _ (World.drew _)
  go_wp2_with fail
  go_ret
  exact ⟨rfl, ⟨_, StAt.put (s := s) (show StAt _ sb s from HS1.out) T hT5 _, HE.out⟩, (HK1.out.drew).trans (Keeps.one _ _ _ _) (fun _ _ h => h)⟩

set_option maxRecDepth 100000 in
set_option maxHeartbeats 2000000 in
theorem rfrom_14 (sb : Nat) (S T imm : Int) (s : Cp.St) (w : World) (hS : StAt w sb s) (hT5 : 0 ≤ T ∧ T < 32) (h0 : s.R 0 = 0) :
    Calls Tryz.prog 87 #[.pointer (some ⟨sb, 0, none⟩), .agg (insC ⟨43, S, T, 14, imm⟩)] w fun e w' => RfOk w w' sb (-1, Cp.setR s T s.epc) e := by
  have HO := Lib.hid (ref_open hS ⟨43, S, T, 14, imm⟩)
  have HZ := Lib.hid h0
  obtain ⟨T, rfl⟩ := Int.eq_ofNat_of_zero_le hT5.1
  have HE := Lib.hid (Cp.ends_put (T : Int) s.epc h0 (by omega))
  clear hS h0
  unfold insC
  go_enter Tryz.func87, Tryz.ntmps87
  go_upto_region 1 with fail
  obtain ⟨hS1, hI1, hk1⟩ := HO.out
  simp only at hS1 hI1 hk1
  generalize w.alloc _ = w1 at *
  generalize w.heap.size = x at *
  obtain ⟨i0, i1, i2, i3, i4⟩ := hI1.cells
  simp only at i0 i1 i2 i3 i4
  have HS1 := Lib.hid hS1
  have HI1 := Lib.hid hI1
  have HK1 := Lib.hid hk1
  have hT6 : (T : Int) < 32 := by omega
  obtain ⟨_, _, _, _, _, _, _, s39, _, _, _⟩ := hS1.cells
  have fT := hS1.frozen T
  have rT := hS1.reg T (by omega)
  clear hS1 hI1 hk1
  go_upto_region 20 with fail
  refine wp_region_still_tail 10 (by kernel_rfl) (by kernel_rfl) ?_
  simp only [List.take_succ_cons, List.take_zero, List.drop_succ_cons, List.drop_zero]
  repeat still_step
  refine wpStill_nil ?_
  change wpList _ _ _ _ _ (World.drew _)
  go_wp2_with fail
  go_ret
  exact ⟨rfl, ⟨_, StAt.put (s := s) (show StAt _ sb s from HS1.out) T hT5 _, HE.out⟩, (HK1.out.drew).trans (Keeps.one _ _ _ _) (fun _ _ h => h)⟩

set_option maxRecDepth 100000 in
set_option maxHeartbeats 2000000 in
theorem rfrom_else (sb : Nat) (S T D imm : Int) (s : Cp.St) (w : World) (hS : StAt w sb s) (hT5 : 0 ≤ T ∧ T < 32) (h0 : s.R 0 = 0) (n8 : (D == 8) = false) (n9 : (D == 9) = false) (n11 : (D == 11) = false) (n12 : (D == 12) = false) (n13 : (D == 13) = false) (n14 : (D == 14) = false) :
    Calls Tryz.prog 87 #[.pointer (some ⟨sb, 0, none⟩), .agg (insC ⟨43, S, T, D, imm⟩)] w fun e w' => RfOk w w' sb (10, s) e := by
  have HO := Lib.hid (ref_open hS ⟨43, S, T, D, imm⟩)
  have HZ := Lib.hid h0
  obtain ⟨T, rfl⟩ := Int.eq_ofNat_of_zero_le hT5.1
  clear hS h0
  unfold insC
  go_enter Tryz.func87, Tryz.ntmps87
  go_upto_region 1 with fail
  obtain ⟨hS1, hI1, hk1⟩ := HO.out
  simp only at hS1 hI1 hk1
  generalize w.alloc _ = w1 at *
  generalize w.heap.size = x at *
  obtain ⟨i0, i1, i2, i3, i4⟩ := hI1.cells
  simp only at i0 i1 i2 i3 i4
  have HS1 := Lib.hid hS1
  have HI1 := Lib.hid hI1
  have HK1 := Lib.hid hk1
  have hT6 : (T : Int) < 32 := by omega
  clear hS1 hI1 hk1
  go_wp2_with fail
  go_ret
  exact ⟨rfl, ⟨s, HS1.out, Cp.ends_bad 10 (by decide)⟩, HK1.out⟩

set_option maxRecDepth 100000 in
set_option maxHeartbeats 2000000 in
theorem rto_11 (sb : Nat) (S T imm : Int) (s : Cp.St) (w : World) (hS : StAt w sb s) (hT5 : 0 ≤ T ∧ T < 32) (h0 : s.R 0 = 0) (a : Int) (hav : s.R T.toNat = a) (ha : 0 ≤ a ∧ a < 4294967296) :
    Calls Tryz.prog 87 #[.pointer (some ⟨sb, 0, none⟩), .agg (insC ⟨44, S, T, 11, imm⟩)] w fun e w' => RfOk w w' sb (-1, { s with compare := a }) e := by
  have HO := Lib.hid (ref_open hS ⟨44, S, T, 11, imm⟩)
  have HZ := Lib.hid h0
  obtain ⟨T, rfl⟩ := Int.eq_ofNat_of_zero_le hT5.1
  rw [Int.toNat_natCast] at hav
  have HAV := Lib.hid hav
  clear hav
  clear hS h0
  unfold insC
  go_enter Tryz.func87, Tryz.ntmps87
  go_upto_region 1 with fail
  obtain ⟨hS1, hI1, hk1⟩ := HO.out
  simp only at hS1 hI1 hk1
  generalize w.alloc _ = w1 at *
  generalize w.heap.size = x at *
  obtain ⟨i0, i1, i2, i3, i4⟩ := hI1.cells
  simp only at i0 i1 i2 i3 i4
  have HS1 := Lib.hid hS1
  have HI1 := Lib.hid hI1
  have HK1 := Lib.hid hk1
  have hT6 : (T : Int) < 32 := by omega
  have rT := hS1.reg T (by omega)
  have HW := Lib.hid (fun d => (⟨HS1.out.drewN d, HI1.out.drewN d, HK1.out.drewN d⟩ : StAt (w1.drewN d) sb s ∧ IAt (w1.drewN d) x ⟨44, S, T, 11, imm⟩ ∧ Keeps (· = sb) w (w1.drewN d)))
  rw [HAV.out] at rT
  clear hS1 hI1 hk1
  go_upto_region 23 with fail
  go_quiet (fail)
  obtain ⟨hS1, hI1, hk1⟩ := HW.out nq
  clear i0 i1 i2 i3 i4 rT HS1 HI1 HK1 HO HW
  generalize w1.drewN nq = w2 at *
  have HS1 := Lib.hid hS1
  have HK1 := Lib.hid hk1
  obtain ⟨i0, i1, i2, i3, i4⟩ := hI1.cells
  simp only at i0 i1 i2 i3 i4
  obtain ⟨_, _, _, _, _, _, _, _, _, s41, _⟩ := hS1.cells
  have fF := hS1.frozen 41
  have HP := Lib.hid (hS1.set 9 (.int .u32 a) (s' := { s with compare := a }) rfl rfl)
  clear hS1 hI1 hk1
  go_wp2_with fail
  go_ret
  exact ⟨rfl, ⟨_, HP.out, Cp.ends_same (s := { s with compare := a }) HZ.out⟩, HK1.out.trans (Keeps.one _ _ _ _) (fun _ _ h => h)⟩

set_option maxRecDepth 100000 in
set_option maxHeartbeats 2000000 in
theorem rto_12 (sb : Nat) (S T imm : Int) (s : Cp.St) (w : World) (hS : StAt w sb s) (hT5 : 0 ≤ T ∧ T < 32) (h0 : s.R 0 = 0) (a : Int) (hav : s.R T.toNat = a) (ha : 0 ≤ a ∧ a < 4294967296) :
    Calls Tryz.prog 87 #[.pointer (some ⟨sb, 0, none⟩), .agg (insC ⟨44, S, T, 12, imm⟩)] w fun e w' => RfOk w w' sb (-1, { s with status := (a % 4) }) e := by
  have HO := Lib.hid (ref_open hS ⟨44, S, T, 12, imm⟩)
  have HZ := Lib.hid h0
  obtain ⟨T, rfl⟩ := Int.eq_ofNat_of_zero_le hT5.1
  rw [Int.toNat_natCast] at hav
  have HAV := Lib.hid hav
  clear hav
  have HPT := Lib.hid (fun w => part_any a 0 2 w ha (by omega) (by omega))
  rw [show a / 2 ^ (0 : Int).toNat % 2 ^ (2 : Int).toNat = a % 4 by simp] at HPT
  clear hS h0
  unfold insC
  go_enter Tryz.func87, Tryz.ntmps87
  go_upto_region 1 with fail
  obtain ⟨hS1, hI1, hk1⟩ := HO.out
  simp only at hS1 hI1 hk1
  generalize w.alloc _ = w1 at *
  generalize w.heap.size = x at *
  obtain ⟨i0, i1, i2, i3, i4⟩ := hI1.cells
  simp only at i0 i1 i2 i3 i4
  have HS1 := Lib.hid hS1
  have HI1 := Lib.hid hI1
  have HK1 := Lib.hid hk1
  have hT6 : (T : Int) < 32 := by omega
  have rT := hS1.reg T (by omega)
  have HW := Lib.hid (fun d => (⟨HS1.out.drewN d, HI1.out.drewN d, HK1.out.drewN d⟩ : StAt (w1.drewN d) sb s ∧ IAt (w1.drewN d) x ⟨44, S, T, 12, imm⟩ ∧ Keeps (· = sb) w (w1.drewN d)))
  rw [HAV.out] at rT
  clear hS1 hI1 hk1
  go_upto_region 23 with fail
  go_quiet (fail)
  obtain ⟨hS1, hI1, hk1⟩ := HW.out nq
  clear i0 i1 i2 i3 i4 rT HS1 HI1 HK1 HO HW
  generalize w1.drewN nq = w2 at *
  have HS1 := Lib.hid hS1
  have HK1 := Lib.hid hk1
  obtain ⟨i0, i1, i2, i3, i4⟩ := hI1.cells
  simp only at i0 i1 i2 i3 i4
  obtain ⟨_, _, _, _, _, s37, _, _, _, _, _⟩ := hS1.cells
  have fF := hS1.frozen 37
  have HP := Lib.hid (hS1.set 5 (.int .u32 (a % 4)) (s' := { s with status := (a % 4) }) rfl rfl)
  clear hS1 hI1 hk1
  go_wp2_with fail
  refine (HPT.out _).mono ?_
  rintro e w' ⟨rfl, rfl⟩
  go_wp2_with fail
  go_ret
  exact ⟨rfl, ⟨_, HP.out, Cp.ends_same (s := { s with status := (a % 4) }) HZ.out⟩, HK1.out.trans (Keeps.one _ _ _ _) (fun _ _ h => h)⟩

set_option maxRecDepth 100000 in
set_option maxHeartbeats 2000000 in
theorem rto_14 (sb : Nat) (S T imm : Int) (s : Cp.St) (w : World) (hS : StAt w sb s) (hT5 : 0 ≤ T ∧ T < 32) (h0 : s.R 0 = 0) (a : Int) (hav : s.R T.toNat = a) (ha : 0 ≤ a ∧ a < 4294967296) :
    Calls Tryz.prog 87 #[.pointer (some ⟨sb, 0, none⟩), .agg (insC ⟨44, S, T, 14, imm⟩)] w fun e w' => RfOk w w' sb (-1, { s with epc := a }) e := by
  have HO := Lib.hid (ref_open hS ⟨44, S, T, 14, imm⟩)
  have HZ := Lib.hid h0
  obtain ⟨T, rfl⟩ := Int.eq_ofNat_of_zero_le hT5.1
  rw [Int.toNat_natCast] at hav
  have HAV := Lib.hid hav
  clear hav
  clear hS h0
  unfold insC
  go_enter Tryz.func87, Tryz.ntmps87
  go_upto_region 1 with fail
  obtain ⟨hS1, hI1, hk1⟩ := HO.out
  simp only at hS1 hI1 hk1
  generalize w.alloc _ = w1 at *
  generalize w.heap.size = x at *
  obtain ⟨i0, i1, i2, i3, i4⟩ := hI1.cells
  simp only at i0 i1 i2 i3 i4
  have HS1 := Lib.hid hS1
  have HI1 := Lib.hid hI1
  have HK1 := Lib.hid hk1
  have hT6 : (T : Int) < 32 := by omega
  have rT := hS1.reg T (by omega)
  have HW := Lib.hid (fun d => (⟨HS1.out.drewN d, HI1.out.drewN d, HK1.out.drewN d⟩ : StAt (w1.drewN d) sb s ∧ IAt (w1.drewN d) x ⟨44, S, T, 14, imm⟩ ∧ Keeps (· = sb) w (w1.drewN d)))
  rw [HAV.out] at rT
  clear hS1 hI1 hk1
  go_upto_region 23 with fail
  go_quiet (fail)
  obtain ⟨hS1, hI1, hk1⟩ := HW.out nq
  clear i0 i1 i2 i3 i4 rT HS1 HI1 HK1 HO HW
  generalize w1.drewN nq = w2 at *
  have HS1 := Lib.hid hS1
  have HK1 := Lib.hid hk1
  obtain ⟨i0, i1, i2, i3, i4⟩ := hI1.cells
  simp only at i0 i1 i2 i3 i4
  obtain ⟨_, _, _, _, _, _, _, s39, _, _, _⟩ := hS1.cells
  have fF := hS1.frozen 39
  have HP := Lib.hid (hS1.set 7 (.int .u32 a) (s' := { s with epc := a }) rfl rfl)
  clear hS1 hI1 hk1
  go_wp2_with fail
  go_ret
  exact ⟨rfl, ⟨_, HP.out, Cp.ends_same (s := { s with epc := a }) HZ.out⟩, HK1.out.trans (Keeps.one _ _ _ _) (fun _ _ h => h)⟩

set_option maxRecDepth 100000 in
set_option maxHeartbeats 2000000 in
theorem rto_else (sb : Nat) (S T D imm : Int) (s : Cp.St) (w : World) (hS : StAt w sb s) (hT5 : 0 ≤ T ∧ T < 32) (h0 : s.R 0 = 0) (a : Int) (hav : s.R T.toNat = a) (ha : 0 ≤ a ∧ a < 4294967296) (n11 : (D == 11) = false) (n12 : (D == 12) = false) (n14 : (D == 14) = false) :
    Calls Tryz.prog 87 #[.pointer (some ⟨sb, 0, none⟩), .agg (insC ⟨44, S, T, D, imm⟩)] w fun e w' => RfOk w w' sb (10, s) e := by
  have HO := Lib.hid (ref_open hS ⟨44, S, T, D, imm⟩)
  have HZ := Lib.hid h0
  obtain ⟨T, rfl⟩ := Int.eq_ofNat_of_zero_le hT5.1
  rw [Int.toNat_natCast] at hav
  have HAV := Lib.hid hav
  clear hav
  clear hS h0
  unfold insC
  go_enter Tryz.func87, Tryz.ntmps87
  go_upto_region 1 with fail
  obtain ⟨hS1, hI1, hk1⟩ := HO.out
  simp only at hS1 hI1 hk1
  generalize w.alloc _ = w1 at *
  generalize w.heap.size = x at *
  obtain ⟨i0, i1, i2, i3, i4⟩ := hI1.cells
  simp only at i0 i1 i2 i3 i4
  have HS1 := Lib.hid hS1
  have HI1 := Lib.hid hI1
  have HK1 := Lib.hid hk1
  have hT6 : (T : Int) < 32 := by omega
  have rT := hS1.reg T (by omega)
  have HW := Lib.hid (fun d => (⟨HS1.out.drewN d, HI1.out.drewN d, HK1.out.drewN d⟩ : StAt (w1.drewN d) sb s ∧ IAt (w1.drewN d) x ⟨44, S, T, D, imm⟩ ∧ Keeps (· = sb) w (w1.drewN d)))
  rw [HAV.out] at rT
  clear hS1 hI1 hk1
  go_upto_region 23 with fail
  go_quiet (fail)
  obtain ⟨hS1, hI1, hk1⟩ := HW.out nq
  clear i0 i1 i2 i3 i4 rT HS1 HI1 HK1 HO HW
  generalize w1.drewN nq = w2 at *
  have HS1 := Lib.hid hS1
  have HK1 := Lib.hid hk1
  obtain ⟨i0, i1, i2, i3, i4⟩ := hI1.cells
  simp only at i0 i1 i2 i3 i4
  clear hS1 hI1 hk1
  go_wp2_with fail
  go_ret
  exact ⟨rfl, ⟨s, HS1.out, Cp.ends_bad 10 (by decide)⟩, HK1.out⟩

theorem rtrap_any (sb : Nat) (i : Cd.Ins) (s : Cp.St) (w : World) (hS : StAt w sb s) (hs : Cp.Rng s) (hi : Cd.Ok i) (h0 : s.R 0 = 0) (hop : i.op = 9 ∨ i.op = 10 ∨ i.op = 0 ∨ i.op = 43 ∨ i.op = 44) (r : Int × Cp.St) (hr : Hid (r = Cp.trap i s)) :
    Calls Tryz.prog 87 #[.pointer (some ⟨sb, 0, none⟩), .agg (insC i)] w fun e w' => RfOk w w' sb r e := by
  rw [hr.out]
  obtain ⟨op, S, T, D, imm⟩ := i
  have hT5 : 0 ≤ T ∧ T < 32 := hi.T
  have ha : 0 ≤ s.R T.toNat ∧ s.R T.toNat < 4294967296 := hs.R _ (by omega)
  simp only at hop
  rcases hop with rfl | rfl | rfl | rfl | rfl
  · exact rtrap_9 sb S T D imm s w hS hT5 h0
  · exact rtrap_10 sb S T D imm s w hS hT5 h0
  · exact rtrap_0 sb S T D imm s w hS hT5 h0
  · show Calls _ _ _ _ fun e w' => RfOk w w' sb (Cp.from_ ⟨43, S, T, D, imm⟩ s) e
    unfold Cp.from_
    simp only
    by_cases h8 : D = 8
    · subst h8
      first | rw [if_pos rfl] | (simp only [Int.reduceEq, if_false, if_true])
      exact rfrom_8 sb S T imm s w hS hT5 h0
    rw [if_neg h8]
    by_cases h9 : D = 9
    · subst h9
      first | rw [if_pos rfl] | (simp only [Int.reduceEq, if_false, if_true])
      exact rfrom_9 sb S T imm s w hS hT5 h0 hs.count
    rw [if_neg h9]
    by_cases h11 : D = 11
    · subst h11
      first | rw [if_pos rfl] | (simp only [Int.reduceEq, if_false, if_true])
      exact rfrom_11 sb S T imm s w hS hT5 h0
    rw [if_neg h11]
    by_cases h12 : D = 12
    · subst h12
      first | rw [if_pos rfl] | (simp only [Int.reduceEq, if_false, if_true])
      exact rfrom_12 sb S T imm s w hS hT5 h0
    rw [if_neg h12]
    by_cases h13 : D = 13
    · subst h13
      first | rw [if_pos rfl] | (simp only [Int.reduceEq, if_false, if_true])
      exact rfrom_13 sb S T imm s w hS hT5 h0
    rw [if_neg h13]
    by_cases h14 : D = 14
    · subst h14
      first | rw [if_pos rfl] | (simp only [Int.reduceEq, if_false, if_true])
      exact rfrom_14 sb S T imm s w hS hT5 h0
    rw [if_neg h14]
    exact rfrom_else sb S T D imm s w hS hT5 h0 (by simpa using h8) (by simpa using h9) (by simpa using h11) (by simpa using h12) (by simpa using h13) (by simpa using h14)
  · show Calls _ _ _ _ fun e w' => RfOk w w' sb (Cp.to_ ⟨44, S, T, D, imm⟩ s) e
    unfold Cp.to_
    simp only
    by_cases h11 : D = 11
    · subst h11
      first | rw [if_pos rfl] | (simp only [Int.reduceEq, if_false, if_true])
      exact rto_11 sb S T imm s w hS hT5 h0 _ rfl ha
    rw [if_neg h11]
    by_cases h12 : D = 12
    · subst h12
      first | rw [if_pos rfl] | (simp only [Int.reduceEq, if_false, if_true])
      exact rto_12 sb S T imm s w hS hT5 h0 _ rfl ha
    rw [if_neg h12]
    by_cases h14 : D = 14
    · subst h14
      first | rw [if_pos rfl] | (simp only [Int.reduceEq, if_false, if_true])
      exact rto_14 sb S T imm s w hS hT5 h0 _ rfl ha
    rw [if_neg h14]
    exact rto_else sb S T D imm s w hS hT5 h0 _ rfl ha (by simpa using h11) (by simpa using h12) (by simpa using h14)
end Go.Proofs.YtlbdkcnbgdmpaaaGreatDoor

/- Rstore -/
/- The reference's processor: the walk of store. -/
namespace Go.Proofs.YtlbdkcnbgdmpaaaGreatDoor
open Go.RowKit Go.Deep
set_option linter.unusedVariables false

theorem sizeOf_still (op : Nat) (h : 46 ≤ op ∧ op ≤ 53) (w : World) :
    Calls Tryz.prog 95 #[.int .i64 op] w fun e w' => e = .returned (.int .i64 (if Cp.isSg op then - Cp.size op else Cp.size op)) ∧ w' = w :=
  (sizeOf_any op h w).mono fun e w' ⟨he, hw⟩ => ⟨he, hw.symm⟩
set_option maxRecDepth 100000 in
set_option maxHeartbeats 3000000 in
theorem rstore_any (sb b : Nat) (O : Nat → Prop) (i : Cd.Ins) (s : Cp.St) (B : Sb) (w : World) (hS : StAt w sb s) (hB : RInv b O w B) (hs : Cp.Rng s) (hi : Cd.Ok i) (hop : 51 ≤ i.op ∧ i.op ≤ 53) (hl : B.l.length < 1000000) (hn : B.tn < 1000000)
    (hOs : ¬ O sb) (h0 : s.R 0 = 0) (r : Int × Cp.St × Sb) (hr : Hid (r = Cp.store i s B)) :
    Calls Tryz.prog 86 #[.pointer (some ⟨sb, 0, none⟩), .pointer (some ⟨b, 0, none⟩), .agg (insC i)] w fun e w' => RmOk w w' sb b O r e := by
  obtain ⟨op, S, T, D, imm⟩ := i
  have hS5 : 0 ≤ S ∧ S < 32 := hi.S
  have hT5 : 0 ≤ T ∧ T < 32 := hi.T
  obtain ⟨S, rfl⟩ := Int.eq_ofNat_of_zero_le hS5.1
  obtain ⟨T, rfl⟩ := Int.eq_ofNat_of_zero_le hT5.1
  have him : 0 ≤ imm ∧ imm < 4294967296 := by have := hi.imm; simp only at this; omega
  have hb : 0 ≤ s.R T ∧ s.R T < 4294967296 := hs.R _ (by omega)
  have ha : 0 ≤ s.R S ∧ s.R S < 4294967296 := hs.R _ (by omega)
  have hop2 : 46 ≤ op ∧ op ≤ 53 := by simp only at hop; omega
  have hop3 : op = 51 ∨ op = 52 ∨ op = 53 := by simp only at hop; omega
  have hW := wide_rng imm
  have HW : Hid (Cp.immS ⟨op, S, T, D, imm⟩ = Wd.wide imm 16 true) := Lib.hid rfl
  have HR : Hid (r = Cp.store ⟨op, S, T, D, imm⟩ s B) := hr
  have HADR : Hid (Cp.addr ⟨op, S, T, D, imm⟩ s = Cp.u (s.R S + Wd.wide imm 16 true)) := Lib.hid rfl
  have HO := Lib.hid (ref_open hS ⟨op, S, T, D, imm⟩)
  have HB := Lib.hid hB
  have hOx : ¬ O w.heap.size := fun h => Nat.lt_irrefl _ (hB.lt _ h)
  have HG := Lib.hid hs
  have HZ := Lib.hid h0
  have hcw : (Lit.int .i64 s.count).wf = true := WalkArith.wf_i64 (by have := hs.count; omega)
  have HCW := Lib.hid hcw
  clear hi hs hr hS hB hop h0 hcw
  generalize hbv : s.R T = bb at *
  have HBV := Lib.hid hbv
  clear hbv
  generalize hav : s.R S = a at *
  generalize hnv : Wd.wide imm 16 true = n at *
  have HAV := Lib.hid hav
  have HNV := Lib.hid (HW.out.trans (by rfl : n = n))
  clear hav hnv HW
  unfold insC
  go_enter Tryz.func86, Tryz.ntmps86
  go_upto_region 1 with fail
  obtain ⟨hS1, hI1, hk1⟩ := HO.out
  simp only at hS1 hI1 hk1
  generalize w.alloc _ = w1 at *
  generalize w.heap.size = x at *
  have HS1 := Lib.hid hS1
  have HI1 := Lib.hid hI1
  have HK1 := Lib.hid hk1
  obtain ⟨i0, i1, i2, i3, i4⟩ := hI1.cells
  simp only at i0 i1 i2 i3 i4
  have rS := hS1.reg S (by omega)
  rw [HAV.out] at rS
  have hS6 : (S : Int) < 32 := by omega
  have hT6 : (T : Int) < 32 := by omega
  clear hS1 hI1 hk1 HO
  go_region_held3 (fun w' => Keeps (fun _ => False) w1 w' ∧ w'.cell? ⟨x, 0, none⟩ = some (.int .i64 op) ∧ w'.cell? ⟨x, 1, none⟩ = some (.int .i64 (S : Int)) ∧ w'.cell? ⟨x, 2, none⟩ = some (.int .i64 (T : Int)) ∧ w'.cell? ⟨x, 3, none⟩ = some (.int .i64 D) ∧ w'.cell? ⟨x, 4, none⟩ = some (.int .u32 imm) ∧ w'.cell? ⟨sb, S, none⟩ = some (.int .u32 a))
    (first | (refine ⟨?_, ?_, ?_, ?_, ?_, ?_, ?_⟩ <;> first | ((repeat (first | exact Keeps.refl _ _ | assumption | apply Keeps.drew | apply Keeps.drewN | apply Keeps.alloc | (refine Keeps.trans ?_ (by assumption) (fun _ _ h => h)))); done) | (refine Keeps.cell' (S := fun _ => False) (w := w1) ?_ (by assumption) (fun f => f); (repeat (first | exact Keeps.refl _ _ | assumption | apply Keeps.drew | apply Keeps.drewN | apply Keeps.alloc | (refine Keeps.trans ?_ (by assumption) (fun _ _ h => h)))); done)) | (trace_state; fail))
    (first
      | (go_at_call 94; refine (immOf_k ⟨op, S, T, D, imm⟩ n _ him HNV.out).mono ?_; rintro e w4 ⟨rfl, hk4⟩)
      | (go_at_call 43; refine (plus_any a n _ ha hW).mono ?_; rintro e w' ⟨rfl, rfl⟩))
  rename_i hh
  obtain ⟨hk4, i0', i1', i2', i3', i4', rS'⟩ := hh
  have hS4 := HS1.out.keep hk4 (fun h => h)
  have hK4 := HK1.out.trans hk4 (fun _ _ h => h.elim)
  have HB4 := Lib.hid (HB.out.keep hK4 (fun k hk e => hOs (e ▸ hk)))
  clear i0 i1 i2 i3 i4 rS HS1 HI1 HK1 hk4 i1' i3' i4' rS'
  have HS4 := Lib.hid hS4
  have HK4 := Lib.hid (hK4.mono (T := fun k => k = sb ∨ O k) (fun _ _ h => .inl h))
  have s42 := hS4.cells.2.2.2.2.2.2.2.2.2.2
  have rT := hS4.reg T (by omega)
  rw [HBV.out] at rT
  clear hS4 hK4
  have hu : Cp.W (Cp.u (a + n)) := Cp.W_u _
  have hsw := size_wf2 op
  have hsg : Cp.isSg op = false := by
    have h3 := hop3
    rcases h3 with rfl | rfl | rfl <;> rfl
  have HSZ := Lib.hid (fun w => sizeOf_still op hop2 w)
  rw [hsg] at HSZ
  clear hsg
  simp only [if_false, Bool.false_eq_true] at HSZ
  have HLD0 := Lib.hid (show r = if stC (Cp.u (a + n)) (Cp.size op) ≠ 0 then (5, { s with bad := Cp.u (a + n) }, B) else (-1, s, stepS (Cp.u (a + n)) (Cp.size op) bb s.count B) by
    rw [HR.out, Cp.store, HADR.out, show s.R (Int.toNat (T : Int)) = bb from HBV.out])
  generalize Cp.u (a + n) = ad at *
  generalize Cp.size op = sz at *
  have HWF := Lib.hid hsw
  clear hsw HR HADR HNV
  have hld := fun w4' (h : RInv b O w4' B) => ref_store b O B ad sz bb s.count w4' h hl hn hu HWF.out hb
  generalize hec : stC ad sz = ec at *
  have HLDC := Lib.hid (hld w4.drew (HB4.out.keep ((Keeps.refl (fun _ => False) w4).drew) (fun _ _ h => h)))
  have HEC := Lib.hid hec
  have HLIVE := Lib.hid HS4.out.lt
  clear hld hec
  go_upto_region 2 with fail
  refine wp_region_still_tail 16 (by kernel_rfl) (by kernel_rfl) ?_
  simp only [List.take_succ_cons, List.take_zero, List.drop_succ_cons, List.drop_zero]
  repeat still_step
  still_call (HSZ.out _)
  repeat still_step
  refine wpStill_nil ?_
  change wpList _ _ _ _ _ (World.drew _)
  have HSd := Lib.hid (show StAt w4.drew sb s from HS4.out)
  have HKd := Lib.hid HK4.out.drew
  clear i0' i2' s42 rT
  go_wp2_with fail
  refine HLDC.out.mono ?_
  rintro e w5 ⟨rfl, O', hB5, hk5, hg5⟩
  have hS5' := HSd.out.keep hk5 hOs
  have s40 := hS5'.cells.2.2.2.2.2.2.2.2.1
  have f40 := hS5'.frozen 40
  have HSET := Lib.hid (hS5'.set 8 (.int .u32 ad) (s' := { s with bad := ad }) rfl rfl)
  have hO' : ¬ O' sb := fun h => by
    rcases hg5 sb h with h | h
    · exact hOs h
    · have := HSd.out.lt; omega
  have HO' := Lib.hid hO'
  have HB5 := Lib.hid hB5
  have HK5 := Lib.hid (HKd.out.trans hk5 (fun k _ h => .inr h))
  have HG5 := Lib.hid (hg5.low (w := w) HKd.out.size)
  have HS5 := Lib.hid hS5'
  clear hB5 hk5 hg5 hS5' hO' HLDC
  by_cases hc : ec = 0
  · subst hc
    have HL := Lib.hid (show r = (-1, s, stepS ad sz bb s.count B) by rw [HLD0.out]; exact if_neg (by decide))
    have HE := Lib.hid (Cp.ends_same HZ.out)
    clear HLD0
    go_wp2_with fail
    go_ret
    refine ⟨by rw [HL.out]; rfl, ⟨_, HS5.out, by rw [HL.out]; exact HE.out⟩, O', ?_, HG5.out, HK5.out⟩
    rw [HL.out]
    exact HB5.out
  · have HL := Lib.hid (show r = (5, { s with bad := ad }, B) by rw [HLD0.out]; exact if_pos hc)
    have HST := Lib.hid (show stepS ad sz bb s.count B = B from if_pos (by rw [HEC.out]; exact hc))
    have hc2 : decide ((0 : Int) < (ec : Int)) = true := decide_eq_true (by omega)
    clear HLD0
    go_wp2_with fail
    go_ret
    refine ⟨by rw [HL.out]; rfl, ⟨_, HSET.out, by rw [HL.out]; exact Cp.ends_bad 5 (by decide)⟩, O', ?_, HG5.out, HK5.out.trans (Keeps.one _ _ _ _) (fun _ _ h => .inl h)⟩
    rw [HL.out, ← HST.out]
    exact HB5.out.keep (Keeps.one _ _ _ _) (fun k hk e => HO'.out (e ▸ hk))
end Go.Proofs.YtlbdkcnbgdmpaaaGreatDoor

/- RefIs -/
/- The walks of the reference's Part and IsOf. -/
namespace Go.Proofs.YtlbdkcnbgdmpaaaGreatDoor
open Go.RowKit Go.Deep
set_option linter.unusedVariables false

theorem part_n (v : Int) (u n : Nat) (hu : u < 32) (hn : n < 32) (hv : 0 ≤ v ∧ v < 4294967296) (w : World) :
    Calls Tryz.prog 20 #[.int .u32 v, .int .i64 u, .int .i64 n] w fun e w' => e = .returned (.int .i64 (Cd.part v u n)) ∧ w = w' :=
  part_any v u n w hv (by omega) (by omega)
/-- a text has a letter -/
theorem has_step (l : List UInt8) (c : UInt8) (i : Nat) (hi : i < l.length) : Cd.has (l.take (i + 1)) c = (Cd.has (l.take i) c || l[i] == c) := by
  unfold Cd.has
  rw [List.take_succ_eq_append_getElem hi, List.contains_append]
  congr 1
  rw [List.contains_cons, List.contains_nil, Bool.or_false, Bool.beq_comm]
set_option maxHeartbeats 1000000 in
theorem isOf_any (l : List UInt8) (c : UInt8) (hl : l.length < 100) (w : World) :
    Calls Tryz.prog 66 #[.string ⟨l.toArray⟩, .int .u8 c.toNat] w fun e w' => e = .returned (.bool (Cd.has l c)) ∧ w = w' := by
  have hsz : (⟨l.toArray⟩ : ByteArray).size = l.length := by simp [ByteArray.size]
  go_enter Tryz.func66, Tryz.ntmps66
  go_wp2_with fail
  go_loopw [5] (fun s5 wr => ∃ i : Nat, i ≤ l.length ∧ s5 = .int .i64 i ∧ Cd.has (l.take i) c = false ∧ w = wr) (fun s5 _ => l.length - (intOf s5).toNat)
  case atStart => exact ⟨0, by omega, rfl, rfl, rfl⟩
  case round =>
    obtain ⟨i, hi, rfl, hf, rfl⟩ := hrel
    by_cases hlt : i < l.length
    · have hs := has_step l c i hlt
      rw [hf, Bool.false_or] at hs
      have ht : ((((⟨l.toArray⟩ : ByteArray)[i]'(by rw [hsz]; exact hlt)).toNat : Int) == (c.toNat : Int)) = (l[i] == c) := by
        have e : (⟨l.toArray⟩ : ByteArray)[i]'(by rw [hsz]; exact hlt) = l[i] := rfl
        rw [e, Bool.eq_iff_iff, beq_iff_eq, beq_iff_eq]
        constructor
        · intro h
          exact UInt8.toNat_inj.1 (by omega)
        · intro h
          rw [h]
      cases hb : (l[i] == c)
      · rw [hb] at hs ht
        clear hb
        go_wp2_with fail
        go_roundw
        case rel => exact ⟨i + 1, by omega, by go_num, hs, trivial⟩
        case measure => simp [intOf]; omega
      · rw [hb] at hs ht
        have HF : Hid (Cd.has l c = true) := Lib.hid (by
          unfold Cd.has at hs ⊢
          rw [List.contains_iff_mem] at hs ⊢
          exact List.mem_of_mem_take hs)
        clear hb
        go_wp2_with fail
        go_ret
        exact ⟨by rw [HF.out]; rfl, rfl⟩
    · obtain rfl : i = l.length := by omega
      rw [List.take_length] at hf
      have HF := Lib.hid hf
      clear hf
      go_wp2_with fail
      go_ret
      exact ⟨by rw [HF.out]; rfl, rfl⟩
end Go.Proofs.YtlbdkcnbgdmpaaaGreatDoor
