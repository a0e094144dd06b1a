import Derived.Test.YtlbdkcnbgdmpaaaGreatDoorOnez9
import Derived.Test.YtlbdkcnbgdmpaaaGreatDoorOnez7
import Derived.StillTailTactics
import Derived.OrdersHeld
import Derived.StillTail
import Derived.Deep.RegionHeld
import Derived.Test.YtlbdkcnbgdmpaaaGreatDoorOnez0

/- CpuRegs -/
/- The walks of cpu.from, to, trap. -/
namespace Go.Proofs.YtlbdkcnbgdmpaaaGreatDoor
open Go.RowKit Go.Deep
set_option linter.unusedVariables false

set_option maxRecDepth 100000 in
set_option maxHeartbeats 2000000 in
theorem from_8 (x sb b : Nat) (op : Nat) (S T imm nx : Int) (br : Bool) (s : Cp.St) (w : World) (X : XAt w x sb b ⟨op, S, T, 8, imm⟩ nx br) (hS : StAt w sb s) (hT5 : 0 ≤ T ∧ T < 32) (hxs : x ≠ sb) :
    Calls Tryz.prog 76 #[.pointer (some ⟨x, 0, none⟩)] w fun e w' => AluOk w w' sb (-1, Cp.setR s T (s.bad)) e := by
  have HS := Lib.hid hS
  obtain ⟨c0, _, c2, c3, c4, c5, _, _, _⟩ := X.cells
  have sv := hS.cells
  obtain ⟨s32, s33, s34, s35, s36, s37, s38, s39, s40, s41, s42⟩ := sv
  clear X hS s32 s33 s34 s35 s36
  go_enter Tryz.func76, Tryz.ntmps76
  go_upto_region 4 with fail
  go_still_tail 13, (by kernel_rfl)
  change wpList _ _ _ _ _ w.drew
  go_wp2_with fail
  refine (set_any x sb s T _ w.drew c0 HS.out hT5).mono ?_
  rintro e w2 ⟨rfl, hS2, hk2⟩
  have HS2 := Lib.hid hS2
  have HK2 := Lib.hid (Keeps.trans ((Keeps.refl (· = sb) w).drew) hk2 (fun _ _ h => h))
  clear hS2 hk2 c0 c2 c3 c4 c5 s37 s38 s39 s40 s41 s42
  go_wp2_with fail
  go_ret
  exact ⟨rfl, HS2.out, HK2.out⟩

set_option maxRecDepth 100000 in
set_option maxHeartbeats 2000000 in
theorem from_9 (x sb b : Nat) (op : Nat) (S T imm nx : Int) (br : Bool) (s : Cp.St) (w : World) (X : XAt w x sb b ⟨op, S, T, 9, imm⟩ nx br) (hS : StAt w sb s) (hT5 : 0 ≤ T ∧ T < 32) (hxs : x ≠ sb) :
    Calls Tryz.prog 76 #[.pointer (some ⟨x, 0, none⟩)] w fun e w' => AluOk w w' sb (-1, Cp.setR s T (Cp.u s.count)) e := by
  have HS := Lib.hid hS
  obtain ⟨c0, _, c2, c3, c4, c5, _, _, _⟩ := X.cells
  have sv := hS.cells
  obtain ⟨s32, s33, s34, s35, s36, s37, s38, s39, s40, s41, s42⟩ := sv
  clear X hS s32 s33 s34 s35 s36
  go_enter Tryz.func76, Tryz.ntmps76
  go_upto_region 6 with fail
  go_still_tail 14, (by kernel_rfl)
  change wpList _ _ _ _ _ w.drew
  go_wp2_with fail
  refine (set_any x sb s T _ w.drew c0 HS.out hT5).mono ?_
  rintro e w2 ⟨rfl, hS2, hk2⟩
  have HS2 := Lib.hid hS2
  have HK2 := Lib.hid (Keeps.trans ((Keeps.refl (· = sb) w).drew) hk2 (fun _ _ h => h))
  clear hS2 hk2 c0 c2 c3 c4 c5 s37 s38 s39 s40 s41 s42
  go_wp2_with fail
  go_ret
  exact ⟨rfl, HS2.out, HK2.out⟩

set_option maxRecDepth 100000 in
set_option maxHeartbeats 2000000 in
theorem from_11 (x sb b : Nat) (op : Nat) (S T imm nx : Int) (br : Bool) (s : Cp.St) (w : World) (X : XAt w x sb b ⟨op, S, T, 11, imm⟩ nx br) (hS : StAt w sb s) (hT5 : 0 ≤ T ∧ T < 32) (hxs : x ≠ sb) :
    Calls Tryz.prog 76 #[.pointer (some ⟨x, 0, none⟩)] w fun e w' => AluOk w w' sb (-1, Cp.setR s T (s.compare)) e := by
  have HS := Lib.hid hS
  obtain ⟨c0, _, c2, c3, c4, c5, _, _, _⟩ := X.cells
  have sv := hS.cells
  obtain ⟨s32, s33, s34, s35, s36, s37, s38, s39, s40, s41, s42⟩ := sv
  clear X hS s32 s33 s34 s35 s36
  go_enter Tryz.func76, Tryz.ntmps76
  go_upto_region 8 with fail
  go_still_tail 13, (by kernel_rfl)
  change wpList _ _ _ _ _ w.drew
  go_wp2_with fail
  refine (set_any x sb s T _ w.drew c0 HS.out hT5).mono ?_
  rintro e w2 ⟨rfl, hS2, hk2⟩
  have HS2 := Lib.hid hS2
  have HK2 := Lib.hid (Keeps.trans ((Keeps.refl (· = sb) w).drew) hk2 (fun _ _ h => h))
  clear hS2 hk2 c0 c2 c3 c4 c5 s37 s38 s39 s40 s41 s42
  go_wp2_with fail
  go_ret
  exact ⟨rfl, HS2.out, HK2.out⟩

set_option maxRecDepth 100000 in
set_option maxHeartbeats 2000000 in
theorem from_12 (x sb b : Nat) (op : Nat) (S T imm nx : Int) (br : Bool) (s : Cp.St) (w : World) (X : XAt w x sb b ⟨op, S, T, 12, imm⟩ nx br) (hS : StAt w sb s) (hT5 : 0 ≤ T ∧ T < 32) (hxs : x ≠ sb) :
    Calls Tryz.prog 76 #[.pointer (some ⟨x, 0, none⟩)] w fun e w' => AluOk w w' sb (-1, Cp.setR s T (s.status)) e := by
  have HS := Lib.hid hS
  obtain ⟨c0, _, c2, c3, c4, c5, _, _, _⟩ := X.cells
  have sv := hS.cells
  obtain ⟨s32, s33, s34, s35, s36, s37, s38, s39, s40, s41, s42⟩ := sv
  clear X hS s32 s33 s34 s35 s36
  go_enter Tryz.func76, Tryz.ntmps76
  go_upto_region 10 with fail
  go_still_tail 13, (by kernel_rfl)
  change wpList _ _ _ _ _ w.drew
  go_wp2_with fail
  refine (set_any x sb s T _ w.drew c0 HS.out hT5).mono ?_
  rintro e w2 ⟨rfl, hS2, hk2⟩
  have HS2 := Lib.hid hS2
  have HK2 := Lib.hid (Keeps.trans ((Keeps.refl (· = sb) w).drew) hk2 (fun _ _ h => h))
  clear hS2 hk2 c0 c2 c3 c4 c5 s37 s38 s39 s40 s41 s42
  go_wp2_with fail
  go_ret
  exact ⟨rfl, HS2.out, HK2.out⟩

set_option maxRecDepth 100000 in
set_option maxHeartbeats 2000000 in
theorem from_13 (x sb b : Nat) (op : Nat) (S T imm nx : Int) (br : Bool) (s : Cp.St) (w : World) (X : XAt w x sb b ⟨op, S, T, 13, imm⟩ nx br) (hS : StAt w sb s) (hT5 : 0 ≤ T ∧ T < 32) (hxs : x ≠ sb) :
    Calls Tryz.prog 76 #[.pointer (some ⟨x, 0, none⟩)] w fun e w' => AluOk w w' sb (-1, Cp.setR s T (s.cause)) e := by
  have HS := Lib.hid hS
  obtain ⟨c0, _, c2, c3, c4, c5, _, _, _⟩ := X.cells
  have sv := hS.cells
  obtain ⟨s32, s33, s34, s35, s36, s37, s38, s39, s40, s41, s42⟩ := sv
  clear X hS s32 s33 s34 s35 s36
  go_enter Tryz.func76, Tryz.ntmps76
  go_upto_region 12 with fail
  go_still_tail 13, (by kernel_rfl)
  change wpList _ _ _ _ _ w.drew
  go_wp2_with fail
  refine (set_any x sb s T _ w.drew c0 HS.out hT5).mono ?_
  rintro e w2 ⟨rfl, hS2, hk2⟩
  have HS2 := Lib.hid hS2
  have HK2 := Lib.hid (Keeps.trans ((Keeps.refl (· = sb) w).drew) hk2 (fun _ _ h => h))
  clear hS2 hk2 c0 c2 c3 c4 c5 s37 s38 s39 s40 s41 s42
  go_wp2_with fail
  go_ret
  exact ⟨rfl, HS2.out, HK2.out⟩

set_option maxRecDepth 100000 in
set_option maxHeartbeats 2000000 in
theorem from_14 (x sb b : Nat) (op : Nat) (S T imm nx : Int) (br : Bool) (s : Cp.St) (w : World) (X : XAt w x sb b ⟨op, S, T, 14, imm⟩ nx br) (hS : StAt w sb s) (hT5 : 0 ≤ T ∧ T < 32) (hxs : x ≠ sb) :
    Calls Tryz.prog 76 #[.pointer (some ⟨x, 0, none⟩)] w fun e w' => AluOk w w' sb (-1, Cp.setR s T (s.epc)) e := by
  have HS := Lib.hid hS
  obtain ⟨c0, _, c2, c3, c4, c5, _, _, _⟩ := X.cells
  have sv := hS.cells
  obtain ⟨s32, s33, s34, s35, s36, s37, s38, s39, s40, s41, s42⟩ := sv
  clear X hS s32 s33 s34 s35 s36
  go_enter Tryz.func76, Tryz.ntmps76
  go_upto_region 14 with fail
  go_still_tail 13, (by kernel_rfl)
  change wpList _ _ _ _ _ w.drew
  go_wp2_with fail
  refine (set_any x sb s T _ w.drew c0 HS.out hT5).mono ?_
  rintro e w2 ⟨rfl, hS2, hk2⟩
  have HS2 := Lib.hid hS2
  have HK2 := Lib.hid (Keeps.trans ((Keeps.refl (· = sb) w).drew) hk2 (fun _ _ h => h))
  clear hS2 hk2 c0 c2 c3 c4 c5 s37 s38 s39 s40 s41 s42
  go_wp2_with fail
  go_ret
  exact ⟨rfl, HS2.out, HK2.out⟩

set_option maxRecDepth 100000 in
set_option maxHeartbeats 2000000 in
theorem from_else (x sb b : Nat) (op : Nat) (S T D imm nx : Int) (br : Bool) (s : Cp.St) (w : World) (X : XAt w x sb b ⟨op, S, T, D, imm⟩ nx br) (hS : StAt w sb s) (hT5 : 0 ≤ T ∧ T < 32) (n8 : (D == 8) = false) (n9 : (D == 9) = false) (n11 : (D == 11) = false) (n12 : (D == 12) = false) (n13 : (D == 13) = false) (n14 : (D == 14) = false) (hxs : x ≠ sb) :
    Calls Tryz.prog 76 #[.pointer (some ⟨x, 0, none⟩)] w fun e w' => AluOk w w' sb (10, s) e := by
  have HS := Lib.hid hS
  obtain ⟨c0, _, c2, c3, c4, c5, _, _, _⟩ := X.cells
  clear X hS
  go_enter Tryz.func76, Tryz.ntmps76
  go_wp2_with fail
  go_ret
  exact ⟨rfl, HS.out, Keeps.refl _ _⟩
theorem from_any (x sb b : Nat) (i : Cd.Ins) (nx : Int) (br : Bool) (s : Cp.St) (w : World) (X : XAt w x sb b i nx br) (hS : StAt w sb s) (hi : Cd.Ok i) (hxs : x ≠ sb) :
    Calls Tryz.prog 76 #[.pointer (some ⟨x, 0, none⟩)] w fun e w' => AluOk w w' sb (Cp.from_ i s) e := by
  obtain ⟨op, S, T, D, imm⟩ := i
  have hT5 : 0 ≤ T ∧ T < 32 := hi.T
  unfold Cp.from_
  simp only
  by_cases h8 : D = 8
  · subst h8
    first | rw [if_pos rfl] | (simp only [Int.reduceEq, if_false, if_true])
    exact from_8 x sb b op S T imm nx br s w X hS hT5 hxs
  rw [if_neg h8]
  by_cases h9 : D = 9
  · subst h9
    first | rw [if_pos rfl] | (simp only [Int.reduceEq, if_false, if_true])
    exact from_9 x sb b op S T imm nx br s w X hS hT5 hxs
  rw [if_neg h9]
  by_cases h11 : D = 11
  · subst h11
    first | rw [if_pos rfl] | (simp only [Int.reduceEq, if_false, if_true])
    exact from_11 x sb b op S T imm nx br s w X hS hT5 hxs
  rw [if_neg h11]
  by_cases h12 : D = 12
  · subst h12
    first | rw [if_pos rfl] | (simp only [Int.reduceEq, if_false, if_true])
    exact from_12 x sb b op S T imm nx br s w X hS hT5 hxs
  rw [if_neg h12]
  by_cases h13 : D = 13
  · subst h13
    first | rw [if_pos rfl] | (simp only [Int.reduceEq, if_false, if_true])
    exact from_13 x sb b op S T imm nx br s w X hS hT5 hxs
  rw [if_neg h13]
  by_cases h14 : D = 14
  · subst h14
    first | rw [if_pos rfl] | (simp only [Int.reduceEq, if_false, if_true])
    exact from_14 x sb b op S T imm nx br s w X hS hT5 hxs
  rw [if_neg h14]
  exact from_else x sb b op S T D imm nx br s w X hS hT5 (by simpa using h8) (by simpa using h9) (by simpa using h11) (by simpa using h12) (by simpa using h13) (by simpa using h14) hxs

set_option maxRecDepth 100000 in
set_option maxHeartbeats 2000000 in
theorem to_11 (x sb b : Nat) (op : Nat) (S T imm nx : Int) (br : Bool) (s : Cp.St) (w : World) (X : XAt w x sb b ⟨op, S, T, 11, imm⟩ nx br) (hS : StAt w sb s) (hT5 : 0 ≤ T ∧ T < 32) (hs : Cp.Rng s) (hxs : x ≠ sb) :
    Calls Tryz.prog 77 #[.pointer (some ⟨x, 0, none⟩)] w fun e w' => AluOk w w' sb (-1, { s with compare := s.R T.toNat }) e := by
  have HS := Lib.hid hS
  obtain ⟨c0, _, c2, c3, c4, c5, _, _, _⟩ := X.cells
  have ha : 0 ≤ s.R T.toNat ∧ s.R T.toNat < 4294967296 := hs.R _ (by omega)
  have HB := Lib.hid (Cp.and3 _ ha)
  have sv := hS.cells
  obtain ⟨s32, s33, s34, s35, s36, s37, s38, s39, s40, s41, s42⟩ := sv
  have f37 := hS.frozen 37
  have f39 := hS.frozen 39
  have f41 := hS.frozen 41
  have HS2 := Lib.hid (hS.set 9 (.int .u32 (s.R T.toNat)) (s' := { s with compare := s.R T.toNat }) rfl rfl)
  generalize hav : s.R T.toNat = a at *
  have HAV := Lib.hid hav
  clear X hS s32 s33 s34 s35 s36 hav hs
  go_enter Tryz.func77, Tryz.ntmps77
  go_wp2_with fail
  refine (v_any x sb s T _ c0 HS.out hT5).mono ?_
  rw [HAV.out]
  rintro e w' ⟨rfl, rfl⟩
  go_wp2_with fail
  try rw [HB.out]
  go_ret
  exact ⟨rfl, HS2.out, Keeps.one _ _ _ _⟩

set_option maxRecDepth 100000 in
set_option maxHeartbeats 2000000 in
theorem to_12 (x sb b : Nat) (op : Nat) (S T imm nx : Int) (br : Bool) (s : Cp.St) (w : World) (X : XAt w x sb b ⟨op, S, T, 12, imm⟩ nx br) (hS : StAt w sb s) (hT5 : 0 ≤ T ∧ T < 32) (hs : Cp.Rng s) (hxs : x ≠ sb) :
    Calls Tryz.prog 77 #[.pointer (some ⟨x, 0, none⟩)] w fun e w' => AluOk w w' sb (-1, { s with status := s.R T.toNat % 4 }) e := by
  have HS := Lib.hid hS
  obtain ⟨c0, _, c2, c3, c4, c5, _, _, _⟩ := X.cells
  have ha : 0 ≤ s.R T.toNat ∧ s.R T.toNat < 4294967296 := hs.R _ (by omega)
  have HB := Lib.hid (Cp.and3 _ ha)
  have sv := hS.cells
  obtain ⟨s32, s33, s34, s35, s36, s37, s38, s39, s40, s41, s42⟩ := sv
  have f37 := hS.frozen 37
  have f39 := hS.frozen 39
  have f41 := hS.frozen 41
  have HS2 := Lib.hid (hS.set 5 (.int .u32 (s.R T.toNat % 4)) (s' := { s with status := s.R T.toNat % 4 }) rfl rfl)
  generalize hav : s.R T.toNat = a at *
  have HAV := Lib.hid hav
  clear X hS s32 s33 s34 s35 s36 hav hs
  go_enter Tryz.func77, Tryz.ntmps77
  go_wp2_with fail
  refine (v_any x sb s T _ c0 HS.out hT5).mono ?_
  rw [HAV.out]
  rintro e w' ⟨rfl, rfl⟩
  go_wp2_with fail
  try rw [HB.out]
  go_ret
  exact ⟨rfl, HS2.out, Keeps.one _ _ _ _⟩

set_option maxRecDepth 100000 in
set_option maxHeartbeats 2000000 in
theorem to_14 (x sb b : Nat) (op : Nat) (S T imm nx : Int) (br : Bool) (s : Cp.St) (w : World) (X : XAt w x sb b ⟨op, S, T, 14, imm⟩ nx br) (hS : StAt w sb s) (hT5 : 0 ≤ T ∧ T < 32) (hs : Cp.Rng s) (hxs : x ≠ sb) :
    Calls Tryz.prog 77 #[.pointer (some ⟨x, 0, none⟩)] w fun e w' => AluOk w w' sb (-1, { s with epc := s.R T.toNat }) e := by
  have HS := Lib.hid hS
  obtain ⟨c0, _, c2, c3, c4, c5, _, _, _⟩ := X.cells
  have ha : 0 ≤ s.R T.toNat ∧ s.R T.toNat < 4294967296 := hs.R _ (by omega)
  have HB := Lib.hid (Cp.and3 _ ha)
  have sv := hS.cells
  obtain ⟨s32, s33, s34, s35, s36, s37, s38, s39, s40, s41, s42⟩ := sv
  have f37 := hS.frozen 37
  have f39 := hS.frozen 39
  have f41 := hS.frozen 41
  have HS2 := Lib.hid (hS.set 7 (.int .u32 (s.R T.toNat)) (s' := { s with epc := s.R T.toNat }) rfl rfl)
  generalize hav : s.R T.toNat = a at *
  have HAV := Lib.hid hav
  clear X hS s32 s33 s34 s35 s36 hav hs
  go_enter Tryz.func77, Tryz.ntmps77
  go_wp2_with fail
  refine (v_any x sb s T _ c0 HS.out hT5).mono ?_
  rw [HAV.out]
  rintro e w' ⟨rfl, rfl⟩
  go_wp2_with fail
  try rw [HB.out]
  go_ret
  exact ⟨rfl, HS2.out, Keeps.one _ _ _ _⟩

set_option maxRecDepth 100000 in
set_option maxHeartbeats 2000000 in
theorem to_else (x sb b : Nat) (op : Nat) (S T D imm nx : Int) (br : Bool) (s : Cp.St) (w : World) (X : XAt w x sb b ⟨op, S, T, D, imm⟩ nx br) (hS : StAt w sb s) (hT5 : 0 ≤ T ∧ T < 32) (n11 : (D == 11) = false) (n12 : (D == 12) = false) (n14 : (D == 14) = false) (hxs : x ≠ sb) :
    Calls Tryz.prog 77 #[.pointer (some ⟨x, 0, none⟩)] w fun e w' => AluOk w w' sb (10, s) e := by
  have HS := Lib.hid hS
  obtain ⟨c0, _, c2, c3, c4, c5, _, _, _⟩ := X.cells
  clear X hS
  go_enter Tryz.func77, Tryz.ntmps77
  go_wp2_with fail
  refine (v_any x sb s T _ c0 HS.out hT5).mono ?_
  rintro e w' ⟨rfl, rfl⟩
  generalize s.R T.toNat = a at *
  go_wp2_with fail
  go_ret
  exact ⟨rfl, HS.out, Keeps.refl _ _⟩
theorem to_any (x sb b : Nat) (i : Cd.Ins) (nx : Int) (br : Bool) (s : Cp.St) (w : World) (X : XAt w x sb b i nx br) (hS : StAt w sb s) (hs : Cp.Rng s) (hi : Cd.Ok i) (hxs : x ≠ sb) :
    Calls Tryz.prog 77 #[.pointer (some ⟨x, 0, none⟩)] w fun e w' => AluOk w w' sb (Cp.to_ i s) e := by
  obtain ⟨op, S, T, D, imm⟩ := i
  have hT5 : 0 ≤ T ∧ T < 32 := hi.T
  unfold Cp.to_
  simp only
  by_cases h11 : D = 11
  · subst h11
    first | rw [if_pos rfl] | (simp only [Int.reduceEq, if_false, if_true])
    exact to_11 x sb b op S T imm nx br s w X hS hT5 hs hxs
  rw [if_neg h11]
  by_cases h12 : D = 12
  · subst h12
    first | rw [if_pos rfl] | (simp only [Int.reduceEq, if_false, if_true])
    exact to_12 x sb b op S T imm nx br s w X hS hT5 hs hxs
  rw [if_neg h12]
  by_cases h14 : D = 14
  · subst h14
    first | rw [if_pos rfl] | (simp only [Int.reduceEq, if_false, if_true])
    exact to_14 x sb b op S T imm nx br s w X hS hT5 hs hxs
  rw [if_neg h14]
  exact to_else x sb b op S T D imm nx br s w X hS hT5 (by simpa using h11) (by simpa using h12) (by simpa using h14) hxs
end Go.Proofs.YtlbdkcnbgdmpaaaGreatDoor

/- CpuTrap -/
/- The walks of cpu.trap, enter, Due. -/
namespace Go.Proofs.YtlbdkcnbgdmpaaaGreatDoor
open Go.RowKit Go.Deep
set_option linter.unusedVariables false

set_option maxRecDepth 100000 in
set_option maxHeartbeats 3000000 in
theorem trap_const (x sb b : Nat) (op : Nat) (S T D imm nx : Int) (br : Bool) (s : Cp.St) (w : World) (X : XAt w x sb b ⟨op, S, T, D, imm⟩ nx br) (hS : StAt w sb s) (hop : op = 9 ∨ op = 10 ∨ op = 0) (r : Int × Cp.St) (hr : Hid (r = Cp.trap ⟨op, S, T, D, imm⟩ s)) :
    Calls Tryz.prog 57 #[.pointer (some ⟨x, 0, none⟩)] w fun e w' => AluOk w w' sb r e := by
  have HS := Lib.hid hS
  obtain ⟨_, _, c2, _, _, _, _, _, _⟩ := X.cells
  clear X hS
  rcases hop with rfl | rfl | rfl
  all_goals
    go_enter Tryz.func57, Tryz.ntmps57
    go_wp2_with fail
    go_ret
    exact ⟨by rw [hr.out]; rfl, by rw [hr.out]; exact HS.out, Keeps.refl _ _⟩
set_option maxRecDepth 100000 in
set_option maxHeartbeats 1000000 in
theorem trap_regs (x sb b : Nat) (op : Nat) (S T D imm nx : Int) (br : Bool) (s : Cp.St) (w : World) (X : XAt w x sb b ⟨op, S, T, D, imm⟩ nx br) (hS : StAt w sb s) (hs : Cp.Rng s) (hi : Cd.Ok ⟨op, S, T, D, imm⟩) (hxs : x ≠ sb) (hop : op = 43 ∨ op = 44) (r : Int × Cp.St) (hr : Hid (r = Cp.trap ⟨op, S, T, D, imm⟩ s)) :
    Calls Tryz.prog 57 #[.pointer (some ⟨x, 0, none⟩)] w fun e w' => AluOk w w' sb r e := by
  have HS := Lib.hid hS
  have HX := Lib.hid X
  have HI := Lib.hid hi
  have HG := Lib.hid hs
  obtain ⟨_, _, c2, _, _, _, _, _, _⟩ := X.cells
  clear X hS hi hs
  rcases hop with rfl | rfl
  · have HR : Hid (r = Cp.from_ ⟨43, S, T, D, imm⟩ s) := hr
    go_enter Tryz.func57, Tryz.ntmps57
    go_wp2_with fail
    refine (from_any x sb b _ nx br s _ HX.out HS.out HI.out hxs).mono ?_
    rw [← HR.out]
    rintro e w2 ⟨rfl, hS2, hk2⟩
    have HS2 := Lib.hid hS2
    have HK2 := Lib.hid hk2
    clear hS2 hk2 c2
    go_wp2_with fail
    go_ret
    exact ⟨rfl, HS2.out, HK2.out⟩
  · have HR : Hid (r = Cp.to_ ⟨44, S, T, D, imm⟩ s) := hr
    go_enter Tryz.func57, Tryz.ntmps57
    go_wp2_with fail
    refine (to_any x sb b _ nx br s _ HX.out HS.out HG.out HI.out hxs).mono ?_
    rw [← HR.out]
    rintro e w2 ⟨rfl, hS2, hk2⟩
    have HS2 := Lib.hid hS2
    have HK2 := Lib.hid hk2
    clear hS2 hk2 c2
    go_wp2_with fail
    go_ret
    exact ⟨rfl, HS2.out, HK2.out⟩
end Go.Proofs.YtlbdkcnbgdmpaaaGreatDoor

/- RegionLast -/
/- A region that draws its order, one operation of which (z) undoes what the others lean on (S): whatever is taken first, z waits for. -/
namespace Go.Proofs.YtlbdkcnbgdmpaaaGreatDoor
open Go
section
variable {P : Program} {ops : Array Oper} {Q : Exit → Act → World → Prop} {md : Region.Mode} {S : World → Prop} {z : Nat}

/-- whatever comes up; S holds behind each operation but z -/
def AnyZ (P : Program) (md : Region.Mode) (ops : Array Oper) (Q : Exit → Act → World → Prop) (S : World → Prop) (z : Nat) : Nat → Array Bool → Act → World → Prop
  | 0, listed, a, w => Region.ready md ops listed = [] ∧ Q .normal a w
  | n + 1, listed, a, w => (Region.ready md ops listed = [] → Q .normal a w) ∧
      ∀ i ∈ Region.ready md ops listed, wpOp P ops Q i (fun a' w' => (i ≠ z → S w') ∧ AnyZ P md ops Q S z n (listed.setIfInBounds i true) a' w') a w

theorem AnyZ.any : ∀ (n : Nat) (listed : Array Bool) (a : Act) (w : World), AnyZ P md ops Q S z n listed a w → wpAny P md ops Q n listed a w
  | 0, _, _, _, h => h
  | n + 1, _, _, _, h => ⟨h.1, fun i hi => wpOp_mono (fun a' w' h' => AnyZ.any n _ a' w' h'.2) (h.2 i hi)⟩

theorem AnyZ.first {i : Nat} {oi : Oper} {v : Value} (hi : ops[i]? = some oi) (hsel : ∀ (j : Nat) (o : Oper) cs b, ops[j]? = some o → o.op ≠ .select cs b)
    (hQ : ∀ c a w, Q (.panic c) (a.put oi.dst v) w → Q (.panic c) a w) (hz : Region.waitsFor md ops z i = true) :
    ∀ (n : Nat) (listed : Array Bool) (a : Act) (w : World),
      (∀ j oj, ops[j]? = some oj → j ≠ i → listed.getD j true = false → (∀ e ∈ oj.after, Region.binds md e = true → e.on ≠ i) → oi.apart ops oj = true) →
      i ∈ Region.ready md ops listed → YieldsIf P ops S oi v a → S w →
      AnyZ P md ops Q S z n (listed.setIfInBounds i true) (a.put oi.dst v) w → AnyZ P md ops Q S z (n + 1) listed a w := by
  intro n
  induction n with
  | zero =>
    intro listed a w _ hr hy hS H
    refine ⟨fun h => (by rw [h] at hr; cases hr), fun j hj => ?_⟩
    by_cases hji : j = i
    · subst hji
      exact hy.wpOp hi hS ⟨fun _ => hS, H⟩
    · have h0 := ready_mono hj hji
      rw [H.1] at h0
      cases h0
  | succ n ih =>
    intro listed a w hfree hr hy hS H
    refine ⟨fun h => (by rw [h] at hr; cases hr), fun j hj => ?_⟩
    by_cases hji : j = i
    · subst hji
      exact hy.wpOp hi hS ⟨fun _ => hS, H⟩
    obtain ⟨hjun, oj, hoj, hall⟩ := mem_ready.1 hj
    have hin : listed.getD i false = false := getD_both (mem_ready.1 hr).1
    have hnot : ∀ e ∈ oj.after, Region.binds md e = true → e.on ≠ i := fun e he hb heq => by
      have h1 := hall e he hb
      rw [heq, hin] at h1
      cases h1
    have hjz : j ≠ z := fun e => by
      subst e
      obtain ⟨o', ho', g, hg, hb, hon⟩ := Region.waitsFor_spec hz
      obtain rfl : o' = oj := Option.some.inj (ho'.symm.trans hoj)
      exact hnot g hg hb hon
    have h2 := wpOp_putIf hoj (hfree j oj hoj hji hjun hnot) (fun cs b => hsel i oi cs b hi) (fun cs b => hsel j oj cs b hoj) hQ hy (H.2 j (ready_mono hj hji))
    refine wpOp_mono (fun a' w' h3 => ⟨fun _ => h3.2.1 hjz, ih (listed.setIfInBounds j true) a' w' (fun k ok hk hki hun hno => ?_) (ready_mono hr (Ne.symm hji)) h3.1 (h3.2.1 hjz) ?_⟩) h2
    · refine hfree k ok hk hki ?_ hno
      by_cases hjk : j = k
      · subst hjk
        exact hjun
      · rw [getD_set_ne true hjk] at hun
        exact hun
    · rw [Array.setIfInBounds_comm _ _ hji]
      exact h3.2.2
theorem AnyZ.take {i : Nat} {oi : Oper} {v : Value} {n : Nat} {listed : Array Bool} {a : Act} {w : World} (hi : ops[i]? = some oi)
    (hs : Region.noSelect ops = true) (hf : Region.free md ops listed i = true) (hr : (Region.ready md ops listed).contains i = true) (hz : Region.waitsFor md ops z i = true)
    (hQ : ∀ c a w, Q (.panic c) (a.put oi.dst v) w → Q (.panic c) a w) (hy : YieldsIf P ops S oi v a) (hS : S w)
    (h : AnyZ P md ops Q S z n (listed.setIfInBounds i true) (a.put oi.dst v) w) : AnyZ P md ops Q S z (n + 1) listed a w :=
  AnyZ.first hi (Region.noSelect_spec hs) hQ hz n listed a w (Region.free_spec hi hf) (by simpa using hr) hy hS h
theorem AnyZ.run {i : Nat} {o : Oper} {n : Nat} {listed : Array Bool} {a : Act} {w : World} (hr : Region.ready md ops listed = [i]) (ho : ops[i]? = some o)
    (h : ∀ K' : Act → World → Prop, Shut (∀ a w, (i ≠ z → S w) → ((i ≠ z → S w) → AnyZ P md ops Q S z n (listed.setIfInBounds i true) a w) → K' a w) → if Region.wanted o (yielded ops a.tmps) = true then Oper.wp P o a w K' Q else K' (a.put o.dst undef) w) :
    AnyZ P md ops Q S z (n + 1) listed a w :=
  ⟨fun h0 => (by rw [h0] at hr; cases hr), fun j hj => by
    rw [hr] at hj
    obtain rfl : j = i := by simpa using hj
    exact wpOp_step ho (fun K' hK => h K' (fun a w hS hW => hK a w ⟨hS, hW hS⟩))⟩
theorem AnyZ.done {listed : Array Bool} {a : Act} {w : World} (hr : Region.ready md ops listed = []) (h : Q .normal a w) : AnyZ P md ops Q S z 0 listed a w := ⟨hr, h⟩
theorem AnyZ.begin {id : Nat} {a : Act} {w : World} (hm : P.follows .mixedOrders = true) (hS : S w.drew)
    (h : S w.drew → AnyZ P .any ops Q S z ops.size (Array.replicate ops.size false) a w.drew) : (Code.region id ops true).wp P Q a w :=
  wp_region_any hm (AnyZ.any _ _ _ _ (h hS))
end
end Go.Proofs.YtlbdkcnbgdmpaaaGreatDoor

/- CpuEret -/
/- The walk of cpu.trap's return. -/
namespace Go.Proofs.YtlbdkcnbgdmpaaaGreatDoor
open Go.RowKit Go.Deep
set_option linter.unusedVariables false
set_option linter.unusedSimpArgs false

/-- the flag 2 of a word, tested -/
theorem test2 (v : Int) (h : 0 ≤ v ∧ v < 4294967296) : (bits .and .u32 v 2 == 0) = decide (v / 2 % 2 = 0) := by
  rw [Cp.and2 v h, Bool.eq_iff_iff, beq_iff_eq, decide_eq_true_iff]
  omega

set_option maxRecDepth 100000 in
set_option maxHeartbeats 3000000 in
theorem trap_eret (x sb b : Nat) (S T D imm nx : Int) (br : Bool) (s : Cp.St) (w : World) (X : XAt w x sb b ⟨45, S, T, D, imm⟩ nx br) (hS : StAt w sb s) (hs : Cp.Rng s) (hxs : x ≠ sb) (r : Int × Cp.St) (hr : Hid (r = Cp.trap ⟨45, S, T, D, imm⟩ s)) :
    Calls Tryz.prog 57 #[.pointer (some ⟨x, 0, none⟩)] w fun e w' => AluOk w w' sb r e := by
  have HS := Lib.hid hS
  obtain ⟨c0, _, c2, _, _, _, _, _, _⟩ := X.cells
  obtain ⟨_, _, s34, s35, s36, s37, _, s39, _, _, _⟩ := hS.cells
  have f34 := hS.frozen 34
  have f35 := hS.frozen 35
  have f37 := hS.frozen 37
  have ht := test2 s.status hs.status
  have hst := hs.status
  have HR : r = if s.status / 2 % 2 = 0 ∨ s.slot = true then (10, s) else (-1, { s with pc := s.epc, next := Cp.u (s.epc + 4), status := s.status - 2 }) := hr.out
  clear X hS hs hr
  by_cases h1 : s.status / 2 % 2 = 0
  · rw [if_pos (.inl h1)] at HR
    replace HR := Lib.hid HR
    rw [decide_eq_true h1] at ht
    go_enter Tryz.func57, Tryz.ntmps57
    go_wp2_with fail
    go_ret
    exact ⟨by rw [HR.out]; rfl, by rw [HR.out]; exact HS.out, Keeps.refl _ _⟩
  · rw [decide_eq_false h1] at ht
    cases hsl : s.slot
    · rw [if_neg (by rw [hsl]; simp; exact h1)] at HR
      rw [hsl] at s36
      have HN := Lib.hid (Cp.not2 s.status hst h1)
      have HS2 := Lib.hid (((HS.out.set 2 (.int .u32 s.epc) (s' := { s with pc := s.epc }) rfl rfl).set 3 (.int .u32 (Cp.u (s.epc + 4))) (s' := { s with pc := s.epc, next := Cp.u (s.epc + 4) }) rfl rfl).set 5 (.int .u32 (bits .andNot .u32 s.status 2)) (s' := { s with pc := s.epc, next := Cp.u (s.epc + 4), status := bits .andNot .u32 s.status 2 }) rfl rfl)
      have HR2 := Lib.hid (show r = (-1, { s with pc := s.epc, next := Cp.u (s.epc + 4), status := bits .andNot .u32 s.status 2 }) by rw [HR, HN.out])
      clear hst h1 hsl HR
      go_enter Tryz.func57, Tryz.ntmps57
      go_upto_region 13 with fail
      clear c2 s36 ht
      clear f34 f35 f37
      have g34 := HS.out.frozen 34
      have g35 := HS.out.frozen 35
      have g37 := HS.out.frozen 37
      have ox : ∀ (w : World) (k : Nat) (v : Value), (w.setCell ⟨sb, k, none⟩ v).cell? ⟨x, 0, none⟩ = w.cell? ⟨x, 0, none⟩ := fun w k v => World.cell?_setCell_far w _ _ v (Ne.symm hxs)
      have os : ∀ (w : World) (k j : Nat) (v : Value), k ≠ j → (w.setCell ⟨sb, k, none⟩ v).cell? ⟨sb, j, none⟩ = w.cell? ⟨sb, j, none⟩ := fun w k j v h => World.cell?_setCell_other w _ _ v (fun e => h (by injection e))
      refine AnyZ.begin (S := fun w' => w'.cell? ⟨x, 0, none⟩ = some (.pointer (some ⟨sb, 0, none⟩)) ∧ w'.cell? ⟨sb, 39, none⟩ = some (.int .u32 s.epc) ∧ w'.cell? ⟨sb, 37, none⟩ = some (.int .u32 s.status)) (z := 43) (by kernel_rfl) ⟨c0, s39, s37⟩ (fun hH => ?_)
      refine AnyZ.take (i := 0) (v := ?_) rfl (by kernel_rfl) (by kernel_rfl) (by kernel_rfl) (by kernel_rfl) (fun _ _ _ h => h) (Or.inl ⟨by rfl, ?_⟩) hH ?_
      rotate_left
      · intro w hSw
        obtain ⟨hS0, hS1, hS2⟩ := hSw
        go_simp
        try with_reducible rfl
      simp only [Act.put, List.setIfInBounds_toArray, List.set_cons_zero, List.set_cons_succ]
      refine AnyZ.take (i := 1) (v := ?_) rfl (by kernel_rfl) (by kernel_rfl) (by kernel_rfl) (by kernel_rfl) (fun _ _ _ h => h) (Or.inl ⟨by rfl, ?_⟩) hH ?_
      rotate_left
      · intro w hSw
        obtain ⟨hS0, hS1, hS2⟩ := hSw
        go_simp
        try with_reducible rfl
      simp only [Act.put, List.setIfInBounds_toArray, List.set_cons_zero, List.set_cons_succ]
      refine AnyZ.take (i := 2) (v := ?_) rfl (by kernel_rfl) (by kernel_rfl) (by kernel_rfl) (by kernel_rfl) (fun _ _ _ h => h) (Or.inl ⟨by rfl, ?_⟩) hH ?_
      rotate_left
      · intro w hSw
        obtain ⟨hS0, hS1, hS2⟩ := hSw
        go_simp
        try with_reducible rfl
      simp only [Act.put, List.setIfInBounds_toArray, List.set_cons_zero, List.set_cons_succ]
      refine AnyZ.take (i := 3) (v := ?_) rfl (by kernel_rfl) (by kernel_rfl) (by kernel_rfl) (by kernel_rfl) (fun _ _ _ h => h) (Or.inl ⟨by rfl, ?_⟩) hH ?_
      rotate_left
      · intro w hSw
        obtain ⟨hS0, hS1, hS2⟩ := hSw
        go_simp
        try with_reducible rfl
      simp only [Act.put, List.setIfInBounds_toArray, List.set_cons_zero, List.set_cons_succ]
      refine AnyZ.take (i := 4) (v := ?_) rfl (by kernel_rfl) (by kernel_rfl) (by kernel_rfl) (by kernel_rfl) (fun _ _ _ h => h) (Or.inl ⟨by rfl, ?_⟩) hH ?_
      rotate_left
      · intro w hSw
        obtain ⟨hS0, hS1, hS2⟩ := hSw
        go_simp
        try with_reducible rfl
      simp only [Act.put, List.setIfInBounds_toArray, List.set_cons_zero, List.set_cons_succ]
      refine AnyZ.take (i := 5) (v := ?_) rfl (by kernel_rfl) (by kernel_rfl) (by kernel_rfl) (by kernel_rfl) (fun _ _ _ h => h) (Or.inl ⟨by rfl, ?_⟩) hH ?_
      rotate_left
      · intro w hSw
        obtain ⟨hS0, hS1, hS2⟩ := hSw
        go_simp
        try with_reducible rfl
      simp only [Act.put, List.setIfInBounds_toArray, List.set_cons_zero, List.set_cons_succ]
      refine AnyZ.take (i := 6) (v := ?_) rfl (by kernel_rfl) (by kernel_rfl) (by kernel_rfl) (by kernel_rfl) (fun _ _ _ h => h) (Or.inl ⟨by rfl, ?_⟩) hH ?_
      rotate_left
      · intro w hSw
        obtain ⟨hS0, hS1, hS2⟩ := hSw
        go_simp
        try with_reducible rfl
      simp only [Act.put, List.setIfInBounds_toArray, List.set_cons_zero, List.set_cons_succ]
      refine AnyZ.take (i := 7) (v := ?_) rfl (by kernel_rfl) (by kernel_rfl) (by kernel_rfl) (by kernel_rfl) (fun _ _ _ h => h) (Or.inl ⟨by rfl, ?_⟩) hH ?_
      rotate_left
      · intro w hSw
        obtain ⟨hS0, hS1, hS2⟩ := hSw
        go_simp
        try with_reducible rfl
      simp only [Act.put, List.setIfInBounds_toArray, List.set_cons_zero, List.set_cons_succ]
      refine AnyZ.take (i := 8) (v := ?_) rfl (by kernel_rfl) (by kernel_rfl) (by kernel_rfl) (by kernel_rfl) (fun _ _ _ h => h) (Or.inl ⟨by rfl, ?_⟩) hH ?_
      rotate_left
      · intro w hSw
        obtain ⟨hS0, hS1, hS2⟩ := hSw
        go_simp
        try with_reducible rfl
      simp only [Act.put, List.setIfInBounds_toArray, List.set_cons_zero, List.set_cons_succ]
      refine AnyZ.take (i := 9) (v := ?_) rfl (by kernel_rfl) (by kernel_rfl) (by kernel_rfl) (by kernel_rfl) (fun _ _ _ h => h) (Or.inl ⟨by rfl, ?_⟩) hH ?_
      rotate_left
      · intro w hSw
        obtain ⟨hS0, hS1, hS2⟩ := hSw
        go_simp
        try with_reducible rfl
      simp only [Act.put, List.setIfInBounds_toArray, List.set_cons_zero, List.set_cons_succ]
      refine AnyZ.take (i := 10) (v := ?_) rfl (by kernel_rfl) (by kernel_rfl) (by kernel_rfl) (by kernel_rfl) (fun _ _ _ h => h) (Or.inl ⟨by rfl, ?_⟩) hH ?_
      rotate_left
      · intro w hSw
        obtain ⟨hS0, hS1, hS2⟩ := hSw
        go_simp
        try with_reducible rfl
      simp only [Act.put, List.setIfInBounds_toArray, List.set_cons_zero, List.set_cons_succ]
      refine AnyZ.take (i := 11) (v := ?_) rfl (by kernel_rfl) (by kernel_rfl) (by kernel_rfl) (by kernel_rfl) (fun _ _ _ h => h) (Or.inl ⟨by rfl, ?_⟩) hH ?_
      rotate_left
      · intro w hSw
        obtain ⟨hS0, hS1, hS2⟩ := hSw
        go_simp
        try with_reducible rfl
      simp only [Act.put, List.setIfInBounds_toArray, List.set_cons_zero, List.set_cons_succ]
      refine AnyZ.take (i := 12) (v := ?_) rfl (by kernel_rfl) (by kernel_rfl) (by kernel_rfl) (by kernel_rfl) (fun _ _ _ h => h) (Or.inl ⟨by rfl, ?_⟩) hH ?_
      rotate_left
      · intro w hSw
        obtain ⟨hS0, hS1, hS2⟩ := hSw
        go_simp
        try with_reducible rfl
      simp only [Act.put, List.setIfInBounds_toArray, List.set_cons_zero, List.set_cons_succ]
      refine AnyZ.take (i := 13) (v := ?_) rfl (by kernel_rfl) (by kernel_rfl) (by kernel_rfl) (by kernel_rfl) (fun _ _ _ h => h) (Or.inl ⟨by rfl, ?_⟩) hH ?_
      rotate_left
      · intro w hSw
        obtain ⟨hS0, hS1, hS2⟩ := hSw
        go_simp
        try with_reducible rfl
      simp only [Act.put, List.setIfInBounds_toArray, List.set_cons_zero, List.set_cons_succ]
      refine AnyZ.take (i := 14) (v := ?_) rfl (by kernel_rfl) (by kernel_rfl) (by kernel_rfl) (by kernel_rfl) (fun _ _ _ h => h) (Or.inl ⟨by rfl, ?_⟩) hH ?_
      rotate_left
      · intro w hSw
        obtain ⟨hS0, hS1, hS2⟩ := hSw
        go_simp
        try with_reducible rfl
      simp only [Act.put, List.setIfInBounds_toArray, List.set_cons_zero, List.set_cons_succ]
      refine AnyZ.take (i := 15) (v := ?_) rfl (by kernel_rfl) (by kernel_rfl) (by kernel_rfl) (by kernel_rfl) (fun _ _ _ h => h) (Or.inl ⟨by rfl, ?_⟩) hH ?_
      rotate_left
      · intro w hSw
        obtain ⟨hS0, hS1, hS2⟩ := hSw
        go_simp
        try with_reducible rfl
      simp only [Act.put, List.setIfInBounds_toArray, List.set_cons_zero, List.set_cons_succ]
      refine AnyZ.take (i := 16) (v := ?_) rfl (by kernel_rfl) (by kernel_rfl) (by kernel_rfl) (by kernel_rfl) (fun _ _ _ h => h) (Or.inl ⟨by rfl, ?_⟩) hH ?_
      rotate_left
      · intro w hSw
        obtain ⟨hS0, hS1, hS2⟩ := hSw
        go_simp
        try with_reducible rfl
      simp only [Act.put, List.setIfInBounds_toArray, List.set_cons_zero, List.set_cons_succ]
      refine AnyZ.take (i := 17) (v := ?_) rfl (by kernel_rfl) (by kernel_rfl) (by kernel_rfl) (by kernel_rfl) (fun _ _ _ h => h) (Or.inl ⟨by rfl, ?_⟩) hH ?_
      rotate_left
      · intro w hSw
        obtain ⟨hS0, hS1, hS2⟩ := hSw
        go_simp
        try with_reducible rfl
      simp only [Act.put, List.setIfInBounds_toArray, List.set_cons_zero, List.set_cons_succ]
      refine AnyZ.take (i := 18) (v := ?_) rfl (by kernel_rfl) (by kernel_rfl) (by kernel_rfl) (by kernel_rfl) (fun _ _ _ h => h) (Or.inl ⟨by rfl, ?_⟩) hH ?_
      rotate_left
      · intro w hSw
        obtain ⟨hS0, hS1, hS2⟩ := hSw
        go_simp
        try with_reducible rfl
      simp only [Act.put, List.setIfInBounds_toArray, List.set_cons_zero, List.set_cons_succ]
      refine AnyZ.take (i := 19) (v := ?_) rfl (by kernel_rfl) (by kernel_rfl) (by kernel_rfl) (by kernel_rfl) (fun _ _ _ h => h) (Or.inl ⟨by rfl, ?_⟩) hH ?_
      rotate_left
      · intro w hSw
        obtain ⟨hS0, hS1, hS2⟩ := hSw
        go_simp
        try with_reducible rfl
      simp only [Act.put, List.setIfInBounds_toArray, List.set_cons_zero, List.set_cons_succ]
      refine AnyZ.take (i := 20) (v := ?_) rfl (by kernel_rfl) (by kernel_rfl) (by kernel_rfl) (by kernel_rfl) (fun _ _ _ h => h) (Or.inl ⟨by rfl, ?_⟩) hH ?_
      rotate_left
      · intro w hSw
        obtain ⟨hS0, hS1, hS2⟩ := hSw
        go_simp
        try with_reducible rfl
      simp only [Act.put, List.setIfInBounds_toArray, List.set_cons_zero, List.set_cons_succ]
      refine AnyZ.take (i := 21) (v := ?_) rfl (by kernel_rfl) (by kernel_rfl) (by kernel_rfl) (by kernel_rfl) (fun _ _ _ h => h) (Or.inl ⟨by rfl, ?_⟩) hH ?_
      rotate_left
      · intro w hSw
        obtain ⟨hS0, hS1, hS2⟩ := hSw
        go_simp
        try with_reducible rfl
      simp only [Act.put, List.setIfInBounds_toArray, List.set_cons_zero, List.set_cons_succ]
      refine AnyZ.take (i := 22) (v := ?_) rfl (by kernel_rfl) (by kernel_rfl) (by kernel_rfl) (by kernel_rfl) (fun _ _ _ h => h) (Or.inl ⟨by rfl, ?_⟩) hH ?_
      rotate_left
      · intro w hSw
        obtain ⟨hS0, hS1, hS2⟩ := hSw
        go_simp
        try with_reducible rfl
      simp only [Act.put, List.setIfInBounds_toArray, List.set_cons_zero, List.set_cons_succ]
      refine AnyZ.take (i := 23) (v := ?_) rfl (by kernel_rfl) (by kernel_rfl) (by kernel_rfl) (by kernel_rfl) (fun _ _ _ h => h) (Or.inl ⟨by rfl, ?_⟩) hH ?_
      rotate_left
      · intro w hSw
        obtain ⟨hS0, hS1, hS2⟩ := hSw
        go_simp
        try with_reducible rfl
      simp only [Act.put, List.setIfInBounds_toArray, List.set_cons_zero, List.set_cons_succ]
      refine AnyZ.take (i := 24) (v := ?_) rfl (by kernel_rfl) (by kernel_rfl) (by kernel_rfl) (by kernel_rfl) (fun _ _ _ h => h) (Or.inl ⟨by rfl, ?_⟩) hH ?_
      rotate_left
      · intro w hSw
        obtain ⟨hS0, hS1, hS2⟩ := hSw
        go_simp
        try with_reducible rfl
      simp only [Act.put, List.setIfInBounds_toArray, List.set_cons_zero, List.set_cons_succ]
      refine AnyZ.take (i := 25) (v := ?_) rfl (by kernel_rfl) (by kernel_rfl) (by kernel_rfl) (by kernel_rfl) (fun _ _ _ h => h) (Or.inl ⟨by rfl, ?_⟩) hH ?_
      rotate_left
      · intro w hSw
        obtain ⟨hS0, hS1, hS2⟩ := hSw
        go_simp
        try with_reducible rfl
      simp only [Act.put, List.setIfInBounds_toArray, List.set_cons_zero, List.set_cons_succ]
      refine AnyZ.take (i := 26) (v := ?_) rfl (by kernel_rfl) (by kernel_rfl) (by kernel_rfl) (by kernel_rfl) (fun _ _ _ h => h) (Or.inl ⟨by rfl, ?_⟩) hH ?_
      rotate_left
      · intro w hSw
        obtain ⟨hS0, hS1, hS2⟩ := hSw
        go_simp
        try with_reducible rfl
      simp only [Act.put, List.setIfInBounds_toArray, List.set_cons_zero, List.set_cons_succ]
      refine AnyZ.take (i := 27) (v := ?_) rfl (by kernel_rfl) (by kernel_rfl) (by kernel_rfl) (by kernel_rfl) (fun _ _ _ h => h) (Or.inl ⟨by rfl, ?_⟩) hH ?_
      rotate_left
      · intro w hSw
        obtain ⟨hS0, hS1, hS2⟩ := hSw
        go_simp
        try with_reducible rfl
      simp only [Act.put, List.setIfInBounds_toArray, List.set_cons_zero, List.set_cons_succ]
      refine AnyZ.take (i := 28) (v := ?_) rfl (by kernel_rfl) (by kernel_rfl) (by kernel_rfl) (by kernel_rfl) (fun _ _ _ h => h) (Or.inl ⟨by rfl, ?_⟩) hH ?_
      rotate_left
      · intro w hSw
        obtain ⟨hS0, hS1, hS2⟩ := hSw
        go_simp
        try with_reducible rfl
      simp only [Act.put, List.setIfInBounds_toArray, List.set_cons_zero, List.set_cons_succ]
      refine AnyZ.take (i := 29) (v := ?_) rfl (by kernel_rfl) (by kernel_rfl) (by kernel_rfl) (by kernel_rfl) (fun _ _ _ h => h) (Or.inl ⟨by rfl, ?_⟩) hH ?_
      rotate_left
      · intro w hSw
        obtain ⟨hS0, hS1, hS2⟩ := hSw
        go_simp
        try with_reducible rfl
      simp only [Act.put, List.setIfInBounds_toArray, List.set_cons_zero, List.set_cons_succ]
      refine AnyZ.take (i := 30) (v := ?_) rfl (by kernel_rfl) (by kernel_rfl) (by kernel_rfl) (by kernel_rfl) (fun _ _ _ h => h) (Or.inl ⟨by rfl, ?_⟩) hH ?_
      rotate_left
      · intro w hSw
        obtain ⟨hS0, hS1, hS2⟩ := hSw
        go_simp
        try with_reducible rfl
      simp only [Act.put, List.setIfInBounds_toArray, List.set_cons_zero, List.set_cons_succ]
      refine AnyZ.take (i := 31) (v := ?_) rfl (by kernel_rfl) (by kernel_rfl) (by kernel_rfl) (by kernel_rfl) (fun _ _ _ h => h) (Or.inl ⟨by rfl, ?_⟩) hH ?_
      rotate_left
      · intro w hSw
        obtain ⟨hS0, hS1, hS2⟩ := hSw
        go_simp
        try with_reducible rfl
      simp only [Act.put, List.setIfInBounds_toArray, List.set_cons_zero, List.set_cons_succ]
      refine AnyZ.take (i := 32) (v := ?_) rfl (by kernel_rfl) (by kernel_rfl) (by kernel_rfl) (by kernel_rfl) (fun _ _ _ h => h) (Or.inl ⟨by rfl, ?_⟩) hH ?_
      rotate_left
      · intro w hSw
        obtain ⟨hS0, hS1, hS2⟩ := hSw
        go_simp
        try with_reducible rfl
      simp only [Act.put, List.setIfInBounds_toArray, List.set_cons_zero, List.set_cons_succ]
      refine AnyZ.take (i := 33) (v := ?_) rfl (by kernel_rfl) (by kernel_rfl) (by kernel_rfl) (by kernel_rfl) (fun _ _ _ h => h) (Or.inl ⟨by rfl, ?_⟩) hH ?_
      rotate_left
      · intro w hSw
        obtain ⟨hS0, hS1, hS2⟩ := hSw
        go_simp
        try with_reducible rfl
      simp only [Act.put, List.setIfInBounds_toArray, List.set_cons_zero, List.set_cons_succ]
      refine AnyZ.take (i := 34) (v := ?_) rfl (by kernel_rfl) (by kernel_rfl) (by kernel_rfl) (by kernel_rfl) (fun _ _ _ h => h) (Or.inl ⟨by rfl, ?_⟩) hH ?_
      rotate_left
      · intro w hSw
        obtain ⟨hS0, hS1, hS2⟩ := hSw
        go_simp
        try with_reducible rfl
      simp only [Act.put, List.setIfInBounds_toArray, List.set_cons_zero, List.set_cons_succ]
      refine AnyZ.take (i := 35) (v := ?_) rfl (by kernel_rfl) (by kernel_rfl) (by kernel_rfl) (by kernel_rfl) (fun _ _ _ h => h) (Or.inl ⟨by rfl, ?_⟩) hH ?_
      rotate_left
      · intro w hSw
        obtain ⟨hS0, hS1, hS2⟩ := hSw
        go_simp
        try with_reducible rfl
      simp only [Act.put, List.setIfInBounds_toArray, List.set_cons_zero, List.set_cons_succ]
      refine AnyZ.take (i := 36) (v := ?_) rfl (by kernel_rfl) (by kernel_rfl) (by kernel_rfl) (by kernel_rfl) (fun _ _ _ h => h) (Or.inl ⟨by rfl, ?_⟩) hH ?_
      rotate_left
      · intro w hSw
        obtain ⟨hS0, hS1, hS2⟩ := hSw
        go_simp
        try with_reducible rfl
      simp only [Act.put, List.setIfInBounds_toArray, List.set_cons_zero, List.set_cons_succ]
      refine AnyZ.run (i := 37) (by kernel_rfl) rfl (fun K hK => ?_)
      go_simp
      refine hK.out _ _ (fun _ => ⟨(ox _ _ _).trans c0, (os _ _ _ _ (by decide)).trans s39, (os _ _ _ _ (by decide)).trans s37⟩) (fun hH0 => ?_)
      clear hK K hH
      have hH := hH0 (by decide)
      clear hH0
      try simp only [Act.put, List.setIfInBounds_toArray, List.set_cons_zero, List.set_cons_succ]
      refine AnyZ.take (i := 38) (v := ?_) rfl (by kernel_rfl) (by kernel_rfl) (by kernel_rfl) (by kernel_rfl) (fun _ _ _ h => h) (Or.inl ⟨by rfl, ?_⟩) hH ?_
      rotate_left
      · intro w hSw
        obtain ⟨hS0, hS1, hS2⟩ := hSw
        go_simp
        try with_reducible rfl
      simp only [Act.put, List.setIfInBounds_toArray, List.set_cons_zero, List.set_cons_succ]
      refine AnyZ.take (i := 39) (v := ?_) rfl (by kernel_rfl) (by kernel_rfl) (by kernel_rfl) (by kernel_rfl) (fun _ _ _ h => h) (Or.inl ⟨by rfl, ?_⟩) hH ?_
      rotate_left
      · intro w hSw
        obtain ⟨hS0, hS1, hS2⟩ := hSw
        go_simp
        try with_reducible rfl
      simp only [Act.put, List.setIfInBounds_toArray, List.set_cons_zero, List.set_cons_succ]
      refine AnyZ.run (i := 40) (by kernel_rfl) rfl (fun K hK => ?_)
      go_simp
      refine hK.out _ _ (fun _ => ⟨(ox _ _ _).trans hH.1, (os _ _ _ _ (by decide)).trans hH.2.1, (os _ _ _ _ (by decide)).trans hH.2.2⟩) (fun hH0 => ?_)
      clear hK K hH
      have hH := hH0 (by decide)
      clear hH0
      try simp only [Act.put, List.setIfInBounds_toArray, List.set_cons_zero, List.set_cons_succ]
      refine AnyZ.run (i := 41) (by kernel_rfl) rfl (fun K hK => ?_)
      go_simp
      refine hK.out _ _ (fun _ => hH) (fun _ => ?_)
      clear hK K
      try simp only [Act.put, List.setIfInBounds_toArray, List.set_cons_zero, List.set_cons_succ]
      refine AnyZ.run (i := 42) (by kernel_rfl) rfl (fun K hK => ?_)
      go_simp
      refine hK.out _ _ (fun _ => hH) (fun _ => ?_)
      clear hK K
      try simp only [Act.put, List.setIfInBounds_toArray, List.set_cons_zero, List.set_cons_succ]
      refine AnyZ.run (i := 43) (by kernel_rfl) rfl (fun K hK => ?_)
      go_simp
      refine hK.out _ _ (fun h => absurd rfl h) (fun _ => ?_)
      clear hK K hH
      try simp only [Act.put, List.setIfInBounds_toArray, List.set_cons_zero, List.set_cons_succ]
      refine AnyZ.done (by kernel_rfl) ?_
      go_wp2_with fail
      go_ret
      refine ⟨by rw [HR2.out]; rfl, ?_, (Keeps.trans (Keeps.trans (Keeps.one _ _ _ _) (Keeps.one _ _ _ _) (fun _ _ h => h)) (Keeps.one _ _ _ _) (fun _ _ h => h)).drew⟩
      rw [HR2.out]
      exact StAt.drew2 HS2.out
    · rw [if_pos (.inr hsl)] at HR
      replace HR := Lib.hid HR
      rw [hsl] at s36
      clear hsl
      go_enter Tryz.func57, Tryz.ntmps57
      go_wp2_with fail
      go_ret
      exact ⟨by rw [HR.out]; rfl, by rw [HR.out]; exact HS.out, Keeps.refl _ _⟩
end Go.Proofs.YtlbdkcnbgdmpaaaGreatDoor

/- CpuBr -/
/- The walks of cpu.branch, one an operation: what they leave. -/
namespace Go.Proofs.YtlbdkcnbgdmpaaaGreatDoor
open Go.RowKit Go.Deep
set_option linter.unusedVariables false

theorem XAt.setNext {w : World} {x sb b : Nat} {i : Cd.Ins} {nx : Int} {br : Bool} (h : XAt w x sb b i nx br) (v v' : Int) (hv : v = v') : XAt (w.setCell ⟨x, 7, none⟩ (.int .u32 v)) x sb b i v' br := by
  subst hv
  exact set_block h 7 (.int .u32 v)
theorem XAt.setSlot {w : World} {x sb b : Nat} {i : Cd.Ins} {nx : Int} {br : Bool} (h : XAt w x sb b i nx br) : XAt (w.setCell ⟨x, 8, none⟩ (.bool true)) x sb b i nx true := set_block h 8 (.bool true)
/-- what a branch leaves -/
structure BrOk (w w' : World) (x sb b : Nat) (i : Cd.Ins) (r : Int × Cp.St × Int × Bool) (e : Ending) : Prop where
  e : e = .returned (.int .i64 r.1)
  st : StAt w' sb r.2.1
  xa : XAt w' x sb b i r.2.2.1 r.2.2.2
  k : Keeps (fun k => k = sb ∨ k = x) w w'
set_option maxHeartbeats 1000000 in
theorem branch_slot (x sb b : Nat) (i : Cd.Ins) (nx : Int) (br : Bool) (s : Cp.St) (w : World) (X : XAt w x sb b i nx br) (hS : StAt w sb s) (hsl : s.slot = true) :
    Calls Tryz.prog 54 #[.pointer (some ⟨x, 0, none⟩)] w fun e w' => BrOk w w' x sb b i (10, s, nx, br) e := by
  have HS := Lib.hid hS
  have HX := Lib.hid X
  obtain ⟨c0, _, _, _, _, _, _, _, _⟩ := X.cells
  have c36 := hS.cells.2.2.2.2.1
  rw [hsl] at c36
  clear X hS
  go_enter Tryz.func54, Tryz.ntmps54
  go_wp2_with fail
  go_ret
  exact ⟨rfl, HS.out, HX.out, Keeps.refl _ _⟩
end Go.Proofs.YtlbdkcnbgdmpaaaGreatDoor

/- CpuBr0 -/
/- The walks of cpu.branch, one an operation. -/
namespace Go.Proofs.YtlbdkcnbgdmpaaaGreatDoor
open Go.RowKit Go.Deep
set_option linter.unusedVariables false

set_option maxRecDepth 100000 in
set_option maxHeartbeats 3000000 in
theorem branch_31 (x sb b : Nat) (S T D imm nx : Int) (br : Bool) (s : Cp.St) (w : World) (X : XAt w x sb b ⟨31, S, T, D, imm⟩ nx br) (hS : StAt w sb s) (hS5 : 0 ≤ S ∧ S < 32) (hT5 : 0 ≤ T ∧ T < 32) (hD5 : 0 ≤ D ∧ D < 32) (him : 0 ≤ imm ∧ imm < 67108864) (a bb n pc : Int)
    (ha : 0 ≤ a ∧ a < 4294967296) (hb : 0 ≤ bb ∧ bb < 4294967296) (hn : 0 ≤ n ∧ n < 4294967296) (hpc : 0 ≤ pc ∧ pc < 4294967296) (hav : s.R S.toNat = a) (hbv : s.R T.toNat = bb) (hnv : Wd.wide imm 16 true = n) (hpv : s.pc = pc) (hsl : s.slot = false) (hxs : x ≠ sb) (r : Int × Cp.St × Int × Bool) (ht : if a = bb then r = (-1, s, Cp.u (pc + 4 + 4 * n), true) else r = (-1, s, nx, true)) :
    Calls Tryz.prog 54 #[.pointer (some ⟨x, 0, none⟩)] w fun e w' => BrOk w w' x sb b ⟨31, S, T, D, imm⟩ r e := by
  have HAV := Lib.hid hav
  have HBV := Lib.hid hbv
  have HNV := Lib.hid hnv
  have him2 : 0 ≤ imm ∧ imm < 4294967296 := by omega
  have HS1 := Lib.hid (hS.keep (Keeps.one w x 8 (.bool true)) (fun e => hxs e.symm))
  have HX1 := Lib.hid X.setSlot
  have HK1 := Lib.hid ((Keeps.one w x 8 (.bool true)).mono (T := fun k => k = sb ∨ k = x) (fun k _ h => .inr h))
  obtain ⟨c0, _, _, _, _, _, _, _, c8⟩ := X.cells
  have c36 := hS.cells.2.2.2.2.1
  rw [hsl] at c36
  have f8 := X.frozen 8
  clear X hS hav hbv hnv hsl
  go_enter Tryz.func54, Tryz.ntmps54
  go_upto_region 4 with fail
  generalize w.setCell ⟨x, 8, none⟩ (.bool true) = w1 at *
  clear c0 c8 c36 f8
  obtain ⟨c0, _, c2, c3, c4, c5, c6, c7, _⟩ := HX1.out.cells
  have s34 := HS1.out.cells.2.2.1
  rw [hpv] at s34
  go_quiet (first | (go_at_call 70; with_reducible exact v_q x sb s S a _ _ c0 HS1.out hS5 HAV.out) | (go_at_call 70; with_reducible exact v_q x sb s T bb _ _ c0 HS1.out hT5 HBV.out))
  have HX2 := Lib.hid (show XAt (w1.drewN nq) x sb b ⟨31, S, T, D, imm⟩ nx true from HX1.out)
  have HS2 := Lib.hid (show StAt (w1.drewN nq) sb s from HS1.out)
  have HK2 := Lib.hid (HK1.out.drewN nq)
  clear c0 c2 c3 c4 c5 c6 c7 s34 HS1 HX1 HK1
  generalize w1.drewN nq = w2 at *
  obtain ⟨c0, _, c2, _, _, c5, c6, c7, _⟩ := HX2.out.cells
  have s34 := HS2.out.cells.2.2.1
  rw [hpv] at s34
  go_upto_region 5 with fail
  go_quiet ((go_at_call 71; with_reducible exact imm_q x imm n _ _ c6 him2 HNV.out))
  have HX3 := Lib.hid (show XAt (w2.drewN nq) x sb b ⟨31, S, T, D, imm⟩ nx true from HX2.out)
  have HS3 := Lib.hid (show StAt (w2.drewN nq) sb s from HS2.out)
  have HK3 := Lib.hid (HK2.out.drewN nq)
  clear c0 c2 c5 c6 c7 s34 HS2 HX2 HK2
  generalize w2.drewN nq = w3 at *
  obtain ⟨c0, _, c2, _, _, c5, c6, c7, _⟩ := HX3.out.cells
  have s34 := HS3.out.cells.2.2.1
  rw [hpv] at s34
  have f7 := HX3.out.frozen 7
  by_cases hc : a = bb
  · rw [if_pos hc] at ht
    have HR := Lib.hid ht
    have t1 : (a == bb) = true := by simp [hc]
    clear ht hc
    go_wp2_with fail
    go_ret
    refine ⟨by rw [HR.out]; rfl, ?_, ?_, ?_⟩
    · rw [HR.out]; exact HS3.out.keep (Keeps.one _ x 7 _) (fun e => hxs e.symm)
    · rw [HR.out]; exact HX3.out.setNext _ _ (by first | rfl | (simp only [Cp.u]; omega))
    · exact HK3.out.trans (Keeps.one _ _ _ _) (fun k _ h => .inr h)
  · rw [if_neg hc] at ht
    have HR := Lib.hid ht
    have t1 : (a == bb) = false := by simp [hc]
    clear ht hc
    go_wp2_with fail
    go_ret
    exact ⟨by rw [HR.out]; rfl, by rw [HR.out]; exact HS3.out, by rw [HR.out]; exact HX3.out, HK3.out⟩

set_option maxRecDepth 100000 in
set_option maxHeartbeats 3000000 in
theorem branch_32 (x sb b : Nat) (S T D imm nx : Int) (br : Bool) (s : Cp.St) (w : World) (X : XAt w x sb b ⟨32, S, T, D, imm⟩ nx br) (hS : StAt w sb s) (hS5 : 0 ≤ S ∧ S < 32) (hT5 : 0 ≤ T ∧ T < 32) (hD5 : 0 ≤ D ∧ D < 32) (him : 0 ≤ imm ∧ imm < 67108864) (a bb n pc : Int)
    (ha : 0 ≤ a ∧ a < 4294967296) (hb : 0 ≤ bb ∧ bb < 4294967296) (hn : 0 ≤ n ∧ n < 4294967296) (hpc : 0 ≤ pc ∧ pc < 4294967296) (hav : s.R S.toNat = a) (hbv : s.R T.toNat = bb) (hnv : Wd.wide imm 16 true = n) (hpv : s.pc = pc) (hsl : s.slot = false) (hxs : x ≠ sb) (r : Int × Cp.St × Int × Bool) (ht : if a = bb then r = (-1, s, nx, true) else r = (-1, s, Cp.u (pc + 4 + 4 * n), true)) :
    Calls Tryz.prog 54 #[.pointer (some ⟨x, 0, none⟩)] w fun e w' => BrOk w w' x sb b ⟨32, S, T, D, imm⟩ r e := by
  have HAV := Lib.hid hav
  have HBV := Lib.hid hbv
  have HNV := Lib.hid hnv
  have him2 : 0 ≤ imm ∧ imm < 4294967296 := by omega
  have HS1 := Lib.hid (hS.keep (Keeps.one w x 8 (.bool true)) (fun e => hxs e.symm))
  have HX1 := Lib.hid X.setSlot
  have HK1 := Lib.hid ((Keeps.one w x 8 (.bool true)).mono (T := fun k => k = sb ∨ k = x) (fun k _ h => .inr h))
  obtain ⟨c0, _, _, _, _, _, _, _, c8⟩ := X.cells
  have c36 := hS.cells.2.2.2.2.1
  rw [hsl] at c36
  have f8 := X.frozen 8
  clear X hS hav hbv hnv hsl
  go_enter Tryz.func54, Tryz.ntmps54
  go_upto_region 4 with fail
  generalize w.setCell ⟨x, 8, none⟩ (.bool true) = w1 at *
  clear c0 c8 c36 f8
  obtain ⟨c0, _, c2, c3, c4, c5, c6, c7, _⟩ := HX1.out.cells
  have s34 := HS1.out.cells.2.2.1
  rw [hpv] at s34
  go_quiet (first | (go_at_call 70; with_reducible exact v_q x sb s S a _ _ c0 HS1.out hS5 HAV.out) | (go_at_call 70; with_reducible exact v_q x sb s T bb _ _ c0 HS1.out hT5 HBV.out))
  have HX2 := Lib.hid (show XAt (w1.drewN nq) x sb b ⟨32, S, T, D, imm⟩ nx true from HX1.out)
  have HS2 := Lib.hid (show StAt (w1.drewN nq) sb s from HS1.out)
  have HK2 := Lib.hid (HK1.out.drewN nq)
  clear c0 c2 c3 c4 c5 c6 c7 s34 HS1 HX1 HK1
  generalize w1.drewN nq = w2 at *
  obtain ⟨c0, _, c2, _, _, c5, c6, c7, _⟩ := HX2.out.cells
  have s34 := HS2.out.cells.2.2.1
  rw [hpv] at s34
  go_upto_region 5 with fail
  go_quiet ((go_at_call 71; with_reducible exact imm_q x imm n _ _ c6 him2 HNV.out))
  have HX3 := Lib.hid (show XAt (w2.drewN nq) x sb b ⟨32, S, T, D, imm⟩ nx true from HX2.out)
  have HS3 := Lib.hid (show StAt (w2.drewN nq) sb s from HS2.out)
  have HK3 := Lib.hid (HK2.out.drewN nq)
  clear c0 c2 c5 c6 c7 s34 HS2 HX2 HK2
  generalize w2.drewN nq = w3 at *
  obtain ⟨c0, _, c2, _, _, c5, c6, c7, _⟩ := HX3.out.cells
  have s34 := HS3.out.cells.2.2.1
  rw [hpv] at s34
  have f7 := HX3.out.frozen 7
  by_cases hc : a = bb
  · rw [if_pos hc] at ht
    have HR := Lib.hid ht
    have t1 : (a != bb) = false := by simp [hc]
    clear ht hc
    go_wp2_with fail
    go_ret
    exact ⟨by rw [HR.out]; rfl, by rw [HR.out]; exact HS3.out, by rw [HR.out]; exact HX3.out, HK3.out⟩
  · rw [if_neg hc] at ht
    have HR := Lib.hid ht
    have t1 : (a != bb) = true := by simp [hc]
    clear ht hc
    go_wp2_with fail
    go_ret
    refine ⟨by rw [HR.out]; rfl, ?_, ?_, ?_⟩
    · rw [HR.out]; exact HS3.out.keep (Keeps.one _ x 7 _) (fun e => hxs e.symm)
    · rw [HR.out]; exact HX3.out.setNext _ _ (by first | rfl | (simp only [Cp.u]; omega))
    · exact HK3.out.trans (Keeps.one _ _ _ _) (fun k _ h => .inr h)
end Go.Proofs.YtlbdkcnbgdmpaaaGreatDoor
