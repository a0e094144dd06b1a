import Derived.Test.YtlbdkcnbgdmpaaaGreatDoorOnez18
import Derived.StillTailTactics
import Derived.Test.YtlbdkcnbgdmpaaaGreatDoorOnez9
import Derived.Test.YtlbdkcnbgdmpaaaGreatDoorOnez17

/- CpuBr1 -/
/- The walks of cpu.branch, one an operation. -/
namespace Go.Proofs.YtlbdkcnbgdmpaaaGreatDoor
open Go.RowKit Go.Deep
set_option linter.unusedVariables false

set_option maxRecDepth 100000 in
set_option maxHeartbeats 3000000 in
theorem branch_33 (x sb b : Nat) (S T D imm nx : Int) (br : Bool) (s : Cp.St) (w : World) (X : XAt w x sb b ⟨33, S, T, D, imm⟩ nx br) (hS : StAt w sb s) (hS5 : 0 ≤ S ∧ S < 32) (hT5 : 0 ≤ T ∧ T < 32) (hD5 : 0 ≤ D ∧ D < 32) (him : 0 ≤ imm ∧ imm < 67108864) (a bb n pc : Int)
    (ha : 0 ≤ a ∧ a < 4294967296) (hb : 0 ≤ bb ∧ bb < 4294967296) (hn : 0 ≤ n ∧ n < 4294967296) (hpc : 0 ≤ pc ∧ pc < 4294967296) (hav : s.R S.toNat = a) (hbv : s.R T.toNat = bb) (hnv : Wd.wide imm 16 true = n) (hpv : s.pc = pc) (hsl : s.slot = false) (hxs : x ≠ sb) (r : Int × Cp.St × Int × Bool) (ht : if Wd.sg a ≤ 0 then r = (-1, s, Cp.u (pc + 4 + 4 * n), true) else r = (-1, s, nx, true)) :
    Calls Tryz.prog 54 #[.pointer (some ⟨x, 0, none⟩)] w fun e w' => BrOk w w' x sb b ⟨33, S, T, D, imm⟩ r e := by
  have HAV := Lib.hid hav
  have HBV := Lib.hid hbv
  have HNV := Lib.hid hnv
  have him2 : 0 ≤ imm ∧ imm < 4294967296 := by omega
  have HS1 := Lib.hid (hS.keep (Keeps.one w x 8 (.bool true)) (fun e => hxs e.symm))
  have HX1 := Lib.hid X.setSlot
  have HK1 := Lib.hid ((Keeps.one w x 8 (.bool true)).mono (T := fun k => k = sb ∨ k = x) (fun k _ h => .inr h))
  obtain ⟨c0, _, _, _, _, _, _, _, c8⟩ := X.cells
  have c36 := hS.cells.2.2.2.2.1
  rw [hsl] at c36
  have f8 := X.frozen 8
  clear X hS hav hbv hnv hsl
  go_enter Tryz.func54, Tryz.ntmps54
  go_upto_region 4 with fail
  generalize w.setCell ⟨x, 8, none⟩ (.bool true) = w1 at *
  clear c0 c8 c36 f8
  obtain ⟨c0, _, c2, c3, c4, c5, c6, c7, _⟩ := HX1.out.cells
  have s34 := HS1.out.cells.2.2.1
  rw [hpv] at s34
  go_quiet (first | (go_at_call 70; with_reducible exact v_q x sb s S a _ _ c0 HS1.out hS5 HAV.out) | (go_at_call 70; with_reducible exact v_q x sb s T bb _ _ c0 HS1.out hT5 HBV.out))
  have HX2 := Lib.hid (show XAt (w1.drewN nq) x sb b ⟨33, S, T, D, imm⟩ nx true from HX1.out)
  have HS2 := Lib.hid (show StAt (w1.drewN nq) sb s from HS1.out)
  have HK2 := Lib.hid (HK1.out.drewN nq)
  clear c0 c2 c3 c4 c5 c6 c7 s34 HS1 HX1 HK1
  generalize w1.drewN nq = w2 at *
  obtain ⟨c0, _, c2, _, _, c5, c6, c7, _⟩ := HX2.out.cells
  have s34 := HS2.out.cells.2.2.1
  rw [hpv] at s34
  go_upto_region 5 with fail
  go_quiet ((go_at_call 71; with_reducible exact imm_q x imm n _ _ c6 him2 HNV.out))
  have HX3 := Lib.hid (show XAt (w2.drewN nq) x sb b ⟨33, S, T, D, imm⟩ nx true from HX2.out)
  have HS3 := Lib.hid (show StAt (w2.drewN nq) sb s from HS2.out)
  have HK3 := Lib.hid (HK2.out.drewN nq)
  clear c0 c2 c5 c6 c7 s34 HS2 HX2 HK2
  generalize w2.drewN nq = w3 at *
  obtain ⟨c0, _, c2, _, _, c5, c6, c7, _⟩ := HX3.out.cells
  have s34 := HS3.out.cells.2.2.1
  rw [hpv] at s34
  have f7 := HX3.out.frozen 7
  by_cases hc : Wd.sg a ≤ 0
  · rw [if_pos hc] at ht
    have HR := Lib.hid ht
    have t1 : decide (wrap32 a ≤ 0) = true := by rw [Wd.sg_wrap a ha.1 ha.2]; simp; omega
    clear ht hc
    go_wp2_with fail
    go_ret
    refine ⟨by rw [HR.out]; rfl, ?_, ?_, ?_⟩
    · rw [HR.out]; exact HS3.out.keep (Keeps.one _ x 7 _) (fun e => hxs e.symm)
    · rw [HR.out]; exact HX3.out.setNext _ _ (by first | rfl | (simp only [Cp.u]; omega))
    · exact HK3.out.trans (Keeps.one _ _ _ _) (fun k _ h => .inr h)
  · rw [if_neg hc] at ht
    have HR := Lib.hid ht
    have t1 : decide (wrap32 a ≤ 0) = false := by rw [Wd.sg_wrap a ha.1 ha.2]; simp; omega
    clear ht hc
    go_wp2_with fail
    go_ret
    exact ⟨by rw [HR.out]; rfl, by rw [HR.out]; exact HS3.out, by rw [HR.out]; exact HX3.out, HK3.out⟩

set_option maxRecDepth 100000 in
set_option maxHeartbeats 3000000 in
theorem branch_34 (x sb b : Nat) (S T D imm nx : Int) (br : Bool) (s : Cp.St) (w : World) (X : XAt w x sb b ⟨34, S, T, D, imm⟩ nx br) (hS : StAt w sb s) (hS5 : 0 ≤ S ∧ S < 32) (hT5 : 0 ≤ T ∧ T < 32) (hD5 : 0 ≤ D ∧ D < 32) (him : 0 ≤ imm ∧ imm < 67108864) (a bb n pc : Int)
    (ha : 0 ≤ a ∧ a < 4294967296) (hb : 0 ≤ bb ∧ bb < 4294967296) (hn : 0 ≤ n ∧ n < 4294967296) (hpc : 0 ≤ pc ∧ pc < 4294967296) (hav : s.R S.toNat = a) (hbv : s.R T.toNat = bb) (hnv : Wd.wide imm 16 true = n) (hpv : s.pc = pc) (hsl : s.slot = false) (hxs : x ≠ sb) (r : Int × Cp.St × Int × Bool) (ht : if Wd.sg a ≤ 0 then r = (-1, s, nx, true) else r = (-1, s, Cp.u (pc + 4 + 4 * n), true)) :
    Calls Tryz.prog 54 #[.pointer (some ⟨x, 0, none⟩)] w fun e w' => BrOk w w' x sb b ⟨34, S, T, D, imm⟩ r e := by
  have HAV := Lib.hid hav
  have HBV := Lib.hid hbv
  have HNV := Lib.hid hnv
  have him2 : 0 ≤ imm ∧ imm < 4294967296 := by omega
  have HS1 := Lib.hid (hS.keep (Keeps.one w x 8 (.bool true)) (fun e => hxs e.symm))
  have HX1 := Lib.hid X.setSlot
  have HK1 := Lib.hid ((Keeps.one w x 8 (.bool true)).mono (T := fun k => k = sb ∨ k = x) (fun k _ h => .inr h))
  obtain ⟨c0, _, _, _, _, _, _, _, c8⟩ := X.cells
  have c36 := hS.cells.2.2.2.2.1
  rw [hsl] at c36
  have f8 := X.frozen 8
  clear X hS hav hbv hnv hsl
  go_enter Tryz.func54, Tryz.ntmps54
  go_upto_region 4 with fail
  generalize w.setCell ⟨x, 8, none⟩ (.bool true) = w1 at *
  clear c0 c8 c36 f8
  obtain ⟨c0, _, c2, c3, c4, c5, c6, c7, _⟩ := HX1.out.cells
  have s34 := HS1.out.cells.2.2.1
  rw [hpv] at s34
  go_quiet (first | (go_at_call 70; with_reducible exact v_q x sb s S a _ _ c0 HS1.out hS5 HAV.out) | (go_at_call 70; with_reducible exact v_q x sb s T bb _ _ c0 HS1.out hT5 HBV.out))
  have HX2 := Lib.hid (show XAt (w1.drewN nq) x sb b ⟨34, S, T, D, imm⟩ nx true from HX1.out)
  have HS2 := Lib.hid (show StAt (w1.drewN nq) sb s from HS1.out)
  have HK2 := Lib.hid (HK1.out.drewN nq)
  clear c0 c2 c3 c4 c5 c6 c7 s34 HS1 HX1 HK1
  generalize w1.drewN nq = w2 at *
  obtain ⟨c0, _, c2, _, _, c5, c6, c7, _⟩ := HX2.out.cells
  have s34 := HS2.out.cells.2.2.1
  rw [hpv] at s34
  go_upto_region 5 with fail
  go_quiet ((go_at_call 71; with_reducible exact imm_q x imm n _ _ c6 him2 HNV.out))
  have HX3 := Lib.hid (show XAt (w2.drewN nq) x sb b ⟨34, S, T, D, imm⟩ nx true from HX2.out)
  have HS3 := Lib.hid (show StAt (w2.drewN nq) sb s from HS2.out)
  have HK3 := Lib.hid (HK2.out.drewN nq)
  clear c0 c2 c5 c6 c7 s34 HS2 HX2 HK2
  generalize w2.drewN nq = w3 at *
  obtain ⟨c0, _, c2, _, _, c5, c6, c7, _⟩ := HX3.out.cells
  have s34 := HS3.out.cells.2.2.1
  rw [hpv] at s34
  have f7 := HX3.out.frozen 7
  by_cases hc : Wd.sg a ≤ 0
  · rw [if_pos hc] at ht
    have HR := Lib.hid ht
    have t1 : decide (0 < wrap32 a) = false := by rw [Wd.sg_wrap a ha.1 ha.2]; simp; omega
    clear ht hc
    go_wp2_with fail
    go_ret
    exact ⟨by rw [HR.out]; rfl, by rw [HR.out]; exact HS3.out, by rw [HR.out]; exact HX3.out, HK3.out⟩
  · rw [if_neg hc] at ht
    have HR := Lib.hid ht
    have t1 : decide (0 < wrap32 a) = true := by rw [Wd.sg_wrap a ha.1 ha.2]; simp; omega
    clear ht hc
    go_wp2_with fail
    go_ret
    refine ⟨by rw [HR.out]; rfl, ?_, ?_, ?_⟩
    · rw [HR.out]; exact HS3.out.keep (Keeps.one _ x 7 _) (fun e => hxs e.symm)
    · rw [HR.out]; exact HX3.out.setNext _ _ (by first | rfl | (simp only [Cp.u]; omega))
    · exact HK3.out.trans (Keeps.one _ _ _ _) (fun k _ h => .inr h)
end Go.Proofs.YtlbdkcnbgdmpaaaGreatDoor

/- CpuBr2 -/
/- The walks of cpu.branch, one an operation. -/
namespace Go.Proofs.YtlbdkcnbgdmpaaaGreatDoor
open Go.RowKit Go.Deep
set_option linter.unusedVariables false

set_option maxRecDepth 100000 in
set_option maxHeartbeats 3000000 in
theorem branch_29 (x sb b : Nat) (S T D imm nx : Int) (br : Bool) (s : Cp.St) (w : World) (X : XAt w x sb b ⟨29, S, T, D, imm⟩ nx br) (hS : StAt w sb s) (hS5 : 0 ≤ S ∧ S < 32) (hT5 : 0 ≤ T ∧ T < 32) (hD5 : 0 ≤ D ∧ D < 32) (him : 0 ≤ imm ∧ imm < 67108864) (a bb n pc : Int)
    (ha : 0 ≤ a ∧ a < 4294967296) (hb : 0 ≤ bb ∧ bb < 4294967296) (hn : 0 ≤ n ∧ n < 4294967296) (hpc : 0 ≤ pc ∧ pc < 4294967296) (hav : s.R S.toNat = a) (hbv : s.R T.toNat = bb) (hnv : Wd.wide imm 16 true = n) (hpv : s.pc = pc) (hsl : s.slot = false) (hxs : x ≠ sb) (r : Int × Cp.St × Int × Bool) (HR : Hid (r = (-1, s, Cp.u (pc + 4) / 268435456 * 268435456 + 4 * imm, true))) :
    Calls Tryz.prog 54 #[.pointer (some ⟨x, 0, none⟩)] w fun e w' => BrOk w w' x sb b ⟨29, S, T, D, imm⟩ r e := by
  have HAV := Lib.hid hav
  have HBV := Lib.hid hbv
  have HNV := Lib.hid hnv
  have him2 : 0 ≤ imm ∧ imm < 4294967296 := by omega
  have HS1 := Lib.hid (hS.keep (Keeps.one w x 8 (.bool true)) (fun e => hxs e.symm))
  have HX1 := Lib.hid X.setSlot
  have HK1 := Lib.hid ((Keeps.one w x 8 (.bool true)).mono (T := fun k => k = sb ∨ k = x) (fun k _ h => .inr h))
  obtain ⟨c0, _, _, _, _, _, _, _, c8⟩ := X.cells
  have c36 := hS.cells.2.2.2.2.1
  rw [hsl] at c36
  have f8 := X.frozen 8
  clear X hS hav hbv hnv hsl
  go_enter Tryz.func54, Tryz.ntmps54
  go_upto_region 4 with fail
  generalize w.setCell ⟨x, 8, none⟩ (.bool true) = w1 at *
  clear c0 c8 c36 f8
  obtain ⟨c0, _, c2, c3, c4, c5, c6, c7, _⟩ := HX1.out.cells
  have s34 := HS1.out.cells.2.2.1
  rw [hpv] at s34
  go_quiet (first | (go_at_call 70; with_reducible exact v_q x sb s S a _ _ c0 HS1.out hS5 HAV.out) | (go_at_call 70; with_reducible exact v_q x sb s T bb _ _ c0 HS1.out hT5 HBV.out))
  have HX2 := Lib.hid (show XAt (w1.drewN nq) x sb b ⟨29, S, T, D, imm⟩ nx true from HX1.out)
  have HS2 := Lib.hid (show StAt (w1.drewN nq) sb s from HS1.out)
  have HK2 := Lib.hid (HK1.out.drewN nq)
  clear c0 c2 c3 c4 c5 c6 c7 s34 HS1 HX1 HK1
  generalize w1.drewN nq = w2 at *
  obtain ⟨c0, _, c2, _, _, c5, c6, c7, _⟩ := HX2.out.cells
  have s34 := HS2.out.cells.2.2.1
  rw [hpv] at s34
  go_upto_region 5 with fail
  go_quiet ((go_at_call 71; with_reducible exact imm_q x imm n _ _ c6 him2 HNV.out))
  have HX3 := Lib.hid (show XAt (w2.drewN nq) x sb b ⟨29, S, T, D, imm⟩ nx true from HX2.out)
  have HS3 := Lib.hid (show StAt (w2.drewN nq) sb s from HS2.out)
  have HK3 := Lib.hid (HK2.out.drewN nq)
  clear c0 c2 c5 c6 c7 s34 HS2 HX2 HK2
  generalize w2.drewN nq = w3 at *
  obtain ⟨c0, _, c2, _, _, c5, c6, c7, _⟩ := HX3.out.cells
  have s34 := HS3.out.cells.2.2.1
  rw [hpv] at s34
  have f7 := HX3.out.frozen 7
  have hmw : 0 ≤ imm * 4 ∧ imm * 4 < 4294967296 := by omega
  go_upto_region 19 with fail
  go_quiet (fail)
  have HX4 := Lib.hid (show XAt (w3.drewN nq) x sb b ⟨29, S, T, D, imm⟩ nx true from HX3.out)
  have HS4 := Lib.hid (show StAt (w3.drewN nq) sb s from HS3.out)
  have HK4 := Lib.hid (HK3.out.drewN nq)
  clear c0 c2 c5 c6 c7 s34 HS3 HX3 HK3 f7
  generalize w3.drewN nq = w4 at *
  obtain ⟨c0, _, c2, _, _, c5, c6, c7, _⟩ := HX4.out.cells
  have s34 := HS4.out.cells.2.2.1
  rw [hpv] at s34
  have f7 := HX4.out.frozen 7
  go_wp2_with fail
  go_ret
  refine ⟨by rw [HR.out]; rfl, ?_, ?_, ?_⟩
  · rw [HR.out]; exact HS4.out.keep (Keeps.one _ x 7 _) (fun e => hxs e.symm)
  · rw [HR.out]; exact HX4.out.setNext _ _ (by rw [← Cp.jumpB (Cp.u (pc + 4)) imm (Cp.W_u _) him]; first | rfl | (congr 1))
  · exact HK4.out.trans (Keeps.one _ _ _ _) (fun k _ h => .inr h)

set_option maxRecDepth 100000 in
set_option maxHeartbeats 3000000 in
theorem branch_30 (x sb b : Nat) (S T D imm nx : Int) (br : Bool) (s : Cp.St) (w : World) (X : XAt w x sb b ⟨30, S, T, D, imm⟩ nx br) (hS : StAt w sb s) (hS5 : 0 ≤ S ∧ S < 32) (hT5 : 0 ≤ T ∧ T < 32) (hD5 : 0 ≤ D ∧ D < 32) (him : 0 ≤ imm ∧ imm < 67108864) (a bb n pc : Int)
    (ha : 0 ≤ a ∧ a < 4294967296) (hb : 0 ≤ bb ∧ bb < 4294967296) (hn : 0 ≤ n ∧ n < 4294967296) (hpc : 0 ≤ pc ∧ pc < 4294967296) (hav : s.R S.toNat = a) (hbv : s.R T.toNat = bb) (hnv : Wd.wide imm 16 true = n) (hpv : s.pc = pc) (hsl : s.slot = false) (hxs : x ≠ sb) (r : Int × Cp.St × Int × Bool) (HR : Hid (r = (-1, Cp.setR s 31 (Cp.u (pc + 8)), Cp.u (pc + 4) / 268435456 * 268435456 + 4 * imm, true))) :
    Calls Tryz.prog 54 #[.pointer (some ⟨x, 0, none⟩)] w fun e w' => BrOk w w' x sb b ⟨30, S, T, D, imm⟩ r e := by
  have HAV := Lib.hid hav
  have HBV := Lib.hid hbv
  have HNV := Lib.hid hnv
  have him2 : 0 ≤ imm ∧ imm < 4294967296 := by omega
  have HS1 := Lib.hid (hS.keep (Keeps.one w x 8 (.bool true)) (fun e => hxs e.symm))
  have HX1 := Lib.hid X.setSlot
  have HK1 := Lib.hid ((Keeps.one w x 8 (.bool true)).mono (T := fun k => k = sb ∨ k = x) (fun k _ h => .inr h))
  obtain ⟨c0, _, _, _, _, _, _, _, c8⟩ := X.cells
  have c36 := hS.cells.2.2.2.2.1
  rw [hsl] at c36
  have f8 := X.frozen 8
  clear X hS hav hbv hnv hsl
  go_enter Tryz.func54, Tryz.ntmps54
  go_upto_region 4 with fail
  generalize w.setCell ⟨x, 8, none⟩ (.bool true) = w1 at *
  clear c0 c8 c36 f8
  obtain ⟨c0, _, c2, c3, c4, c5, c6, c7, _⟩ := HX1.out.cells
  have s34 := HS1.out.cells.2.2.1
  rw [hpv] at s34
  go_quiet (first | (go_at_call 70; with_reducible exact v_q x sb s S a _ _ c0 HS1.out hS5 HAV.out) | (go_at_call 70; with_reducible exact v_q x sb s T bb _ _ c0 HS1.out hT5 HBV.out))
  have HX2 := Lib.hid (show XAt (w1.drewN nq) x sb b ⟨30, S, T, D, imm⟩ nx true from HX1.out)
  have HS2 := Lib.hid (show StAt (w1.drewN nq) sb s from HS1.out)
  have HK2 := Lib.hid (HK1.out.drewN nq)
  clear c0 c2 c3 c4 c5 c6 c7 s34 HS1 HX1 HK1
  generalize w1.drewN nq = w2 at *
  obtain ⟨c0, _, c2, _, _, c5, c6, c7, _⟩ := HX2.out.cells
  have s34 := HS2.out.cells.2.2.1
  rw [hpv] at s34
  go_upto_region 5 with fail
  go_quiet ((go_at_call 71; with_reducible exact imm_q x imm n _ _ c6 him2 HNV.out))
  have HX3 := Lib.hid (show XAt (w2.drewN nq) x sb b ⟨30, S, T, D, imm⟩ nx true from HX2.out)
  have HS3 := Lib.hid (show StAt (w2.drewN nq) sb s from HS2.out)
  have HK3 := Lib.hid (HK2.out.drewN nq)
  clear c0 c2 c5 c6 c7 s34 HS2 HX2 HK2
  generalize w2.drewN nq = w3 at *
  obtain ⟨c0, _, c2, _, _, c5, c6, c7, _⟩ := HX3.out.cells
  have s34 := HS3.out.cells.2.2.1
  rw [hpv] at s34
  have f7 := HX3.out.frozen 7
  have hmw : 0 ≤ imm * 4 ∧ imm * 4 < 4294967296 := by omega
  go_upto_region 19 with fail
  go_quiet (fail)
  have HX4 := Lib.hid (show XAt (w3.drewN nq) x sb b ⟨30, S, T, D, imm⟩ nx true from HX3.out)
  have HS4 := Lib.hid (show StAt (w3.drewN nq) sb s from HS3.out)
  have HK4 := Lib.hid (HK3.out.drewN nq)
  clear c0 c2 c5 c6 c7 s34 HS3 HX3 HK3 f7
  generalize w3.drewN nq = w4 at *
  obtain ⟨c0, _, c2, _, _, c5, c6, c7, _⟩ := HX4.out.cells
  have s34 := HS4.out.cells.2.2.1
  rw [hpv] at s34
  have f7 := HX4.out.frozen 7
  go_wp2_with fail
  refine (set_any x sb s 31 _ w4 c0 HS4.out (by omega)).mono ?_
  rintro e w5 ⟨rfl, hS5', hk5⟩
  have HS5 := Lib.hid hS5'
  have HX5 := Lib.hid (HX4.out.keep (w := w4) hk5 hxs)
  have HK5 := Lib.hid (HK4.out.trans hk5 (fun k _ h => .inl h))
  clear hS5' hk5 c0 c2 c5 c6 c7 s34 f7
  have c0 := HX5.out.cells.1
  have c7 := HX5.out.cells.2.2.2.2.2.2.2.1
  have f7 := HX5.out.frozen 7
  go_wp2_with fail
  go_ret
  refine ⟨by rw [HR.out]; rfl, ?_, ?_, ?_⟩
  · rw [HR.out]; exact HS5.out.keep (Keeps.one _ x 7 _) (fun e => hxs e.symm)
  · rw [HR.out]; exact HX5.out.setNext _ _ (by rw [← Cp.jumpB (Cp.u (pc + 4)) imm (Cp.W_u _) him]; first | rfl | (congr 1))
  · exact HK5.out.trans (Keeps.one _ _ _ _) (fun k _ h => .inr h)
end Go.Proofs.YtlbdkcnbgdmpaaaGreatDoor

/- CpuBr3 -/
/- The walks of cpu.branch, one an operation. -/
namespace Go.Proofs.YtlbdkcnbgdmpaaaGreatDoor
open Go.RowKit Go.Deep
set_option linter.unusedVariables false

set_option maxRecDepth 100000 in
set_option maxHeartbeats 3000000 in
theorem branch_7 (x sb b : Nat) (S T D imm nx : Int) (br : Bool) (s : Cp.St) (w : World) (X : XAt w x sb b ⟨7, S, T, D, imm⟩ nx br) (hS : StAt w sb s) (hS5 : 0 ≤ S ∧ S < 32) (hT5 : 0 ≤ T ∧ T < 32) (hD5 : 0 ≤ D ∧ D < 32) (him : 0 ≤ imm ∧ imm < 67108864) (a bb n pc : Int)
    (ha : 0 ≤ a ∧ a < 4294967296) (hb : 0 ≤ bb ∧ bb < 4294967296) (hn : 0 ≤ n ∧ n < 4294967296) (hpc : 0 ≤ pc ∧ pc < 4294967296) (hav : s.R S.toNat = a) (hbv : s.R T.toNat = bb) (hnv : Wd.wide imm 16 true = n) (hpv : s.pc = pc) (hsl : s.slot = false) (hxs : x ≠ sb) (r : Int × Cp.St × Int × Bool) (HR : Hid (r = (-1, s, a, true))) :
    Calls Tryz.prog 54 #[.pointer (some ⟨x, 0, none⟩)] w fun e w' => BrOk w w' x sb b ⟨7, S, T, D, imm⟩ r e := by
  have HAV := Lib.hid hav
  have HBV := Lib.hid hbv
  have HNV := Lib.hid hnv
  have him2 : 0 ≤ imm ∧ imm < 4294967296 := by omega
  have HS1 := Lib.hid (hS.keep (Keeps.one w x 8 (.bool true)) (fun e => hxs e.symm))
  have HX1 := Lib.hid X.setSlot
  have HK1 := Lib.hid ((Keeps.one w x 8 (.bool true)).mono (T := fun k => k = sb ∨ k = x) (fun k _ h => .inr h))
  obtain ⟨c0, _, _, _, _, _, _, _, c8⟩ := X.cells
  have c36 := hS.cells.2.2.2.2.1
  rw [hsl] at c36
  have f8 := X.frozen 8
  clear X hS hav hbv hnv hsl
  go_enter Tryz.func54, Tryz.ntmps54
  go_upto_region 4 with fail
  generalize w.setCell ⟨x, 8, none⟩ (.bool true) = w1 at *
  clear c0 c8 c36 f8
  obtain ⟨c0, _, c2, c3, c4, c5, c6, c7, _⟩ := HX1.out.cells
  have s34 := HS1.out.cells.2.2.1
  rw [hpv] at s34
  go_quiet (first | (go_at_call 70; with_reducible exact v_q x sb s S a _ _ c0 HS1.out hS5 HAV.out) | (go_at_call 70; with_reducible exact v_q x sb s T bb _ _ c0 HS1.out hT5 HBV.out))
  have HX2 := Lib.hid (show XAt (w1.drewN nq) x sb b ⟨7, S, T, D, imm⟩ nx true from HX1.out)
  have HS2 := Lib.hid (show StAt (w1.drewN nq) sb s from HS1.out)
  have HK2 := Lib.hid (HK1.out.drewN nq)
  clear c0 c2 c3 c4 c5 c6 c7 s34 HS1 HX1 HK1
  generalize w1.drewN nq = w2 at *
  obtain ⟨c0, _, c2, _, _, c5, c6, c7, _⟩ := HX2.out.cells
  have s34 := HS2.out.cells.2.2.1
  rw [hpv] at s34
  go_upto_region 5 with fail
  go_quiet ((go_at_call 71; with_reducible exact imm_q x imm n _ _ c6 him2 HNV.out))
  have HX3 := Lib.hid (show XAt (w2.drewN nq) x sb b ⟨7, S, T, D, imm⟩ nx true from HX2.out)
  have HS3 := Lib.hid (show StAt (w2.drewN nq) sb s from HS2.out)
  have HK3 := Lib.hid (HK2.out.drewN nq)
  clear c0 c2 c5 c6 c7 s34 HS2 HX2 HK2
  generalize w2.drewN nq = w3 at *
  obtain ⟨c0, _, c2, _, _, c5, c6, c7, _⟩ := HX3.out.cells
  have s34 := HS3.out.cells.2.2.1
  rw [hpv] at s34
  have f7 := HX3.out.frozen 7
  go_wp2_with fail
  go_ret
  refine ⟨by rw [HR.out]; rfl, ?_, ?_, ?_⟩
  · rw [HR.out]; exact HS3.out.keep (Keeps.one _ x 7 _) (fun e => hxs e.symm)
  · rw [HR.out]; exact HX3.out.setNext _ _ rfl
  · exact HK3.out.trans (Keeps.one _ _ _ _) (fun k _ h => .inr h)

set_option maxRecDepth 100000 in
set_option maxHeartbeats 3000000 in
theorem branch_8 (x sb b : Nat) (S T D imm nx : Int) (br : Bool) (s : Cp.St) (w : World) (X : XAt w x sb b ⟨8, S, T, D, imm⟩ nx br) (hS : StAt w sb s) (hS5 : 0 ≤ S ∧ S < 32) (hT5 : 0 ≤ T ∧ T < 32) (hD5 : 0 ≤ D ∧ D < 32) (him : 0 ≤ imm ∧ imm < 67108864) (a bb n pc : Int)
    (ha : 0 ≤ a ∧ a < 4294967296) (hb : 0 ≤ bb ∧ bb < 4294967296) (hn : 0 ≤ n ∧ n < 4294967296) (hpc : 0 ≤ pc ∧ pc < 4294967296) (hav : s.R S.toNat = a) (hbv : s.R T.toNat = bb) (hnv : Wd.wide imm 16 true = n) (hpv : s.pc = pc) (hsl : s.slot = false) (hxs : x ≠ sb) (r : Int × Cp.St × Int × Bool) (HR : Hid (r = (-1, Cp.setR s D (Cp.u (pc + 8)), a, true))) :
    Calls Tryz.prog 54 #[.pointer (some ⟨x, 0, none⟩)] w fun e w' => BrOk w w' x sb b ⟨8, S, T, D, imm⟩ r e := by
  have HAV := Lib.hid hav
  have HBV := Lib.hid hbv
  have HNV := Lib.hid hnv
  have him2 : 0 ≤ imm ∧ imm < 4294967296 := by omega
  have HS1 := Lib.hid (hS.keep (Keeps.one w x 8 (.bool true)) (fun e => hxs e.symm))
  have HX1 := Lib.hid X.setSlot
  have HK1 := Lib.hid ((Keeps.one w x 8 (.bool true)).mono (T := fun k => k = sb ∨ k = x) (fun k _ h => .inr h))
  obtain ⟨c0, _, _, _, _, _, _, _, c8⟩ := X.cells
  have c36 := hS.cells.2.2.2.2.1
  rw [hsl] at c36
  have f8 := X.frozen 8
  clear X hS hav hbv hnv hsl
  go_enter Tryz.func54, Tryz.ntmps54
  go_upto_region 4 with fail
  generalize w.setCell ⟨x, 8, none⟩ (.bool true) = w1 at *
  clear c0 c8 c36 f8
  obtain ⟨c0, _, c2, c3, c4, c5, c6, c7, _⟩ := HX1.out.cells
  have s34 := HS1.out.cells.2.2.1
  rw [hpv] at s34
  go_quiet (first | (go_at_call 70; with_reducible exact v_q x sb s S a _ _ c0 HS1.out hS5 HAV.out) | (go_at_call 70; with_reducible exact v_q x sb s T bb _ _ c0 HS1.out hT5 HBV.out))
  have HX2 := Lib.hid (show XAt (w1.drewN nq) x sb b ⟨8, S, T, D, imm⟩ nx true from HX1.out)
  have HS2 := Lib.hid (show StAt (w1.drewN nq) sb s from HS1.out)
  have HK2 := Lib.hid (HK1.out.drewN nq)
  clear c0 c2 c3 c4 c5 c6 c7 s34 HS1 HX1 HK1
  generalize w1.drewN nq = w2 at *
  obtain ⟨c0, _, c2, _, _, c5, c6, c7, _⟩ := HX2.out.cells
  have s34 := HS2.out.cells.2.2.1
  rw [hpv] at s34
  go_upto_region 5 with fail
  go_quiet ((go_at_call 71; with_reducible exact imm_q x imm n _ _ c6 him2 HNV.out))
  have HX3 := Lib.hid (show XAt (w2.drewN nq) x sb b ⟨8, S, T, D, imm⟩ nx true from HX2.out)
  have HS3 := Lib.hid (show StAt (w2.drewN nq) sb s from HS2.out)
  have HK3 := Lib.hid (HK2.out.drewN nq)
  clear c0 c2 c5 c6 c7 s34 HS2 HX2 HK2
  generalize w2.drewN nq = w3 at *
  obtain ⟨c0, _, c2, _, _, c5, c6, c7, _⟩ := HX3.out.cells
  have s34 := HS3.out.cells.2.2.1
  rw [hpv] at s34
  have f7 := HX3.out.frozen 7
  go_upto_region 24 with fail
  go_still_tail 14, (by kernel_rfl)
  change wpList _ _ _ _ _ w3.drew
  go_wp2_with fail
  refine (set_any x sb s D _ w3.drew c0 HS3.out hD5).mono ?_
  rintro e w5 ⟨rfl, hS5', hk5⟩
  have HS5 := Lib.hid hS5'
  have HX5 := Lib.hid (HX3.out.keep (w := w3.drew) hk5 hxs)
  have HK5 := Lib.hid (HK3.out.drew.trans hk5 (fun k _ h => .inl h))
  clear hS5' hk5 c0 c2 c5 c6 c7 s34 f7
  have c0 := HX5.out.cells.1
  have c7 := HX5.out.cells.2.2.2.2.2.2.2.1
  have f7 := HX5.out.frozen 7
  go_wp2_with fail
  go_ret
  refine ⟨by rw [HR.out]; rfl, ?_, ?_, ?_⟩
  · rw [HR.out]; exact HS5.out.keep (Keeps.one _ x 7 _) (fun e => hxs e.symm)
  · rw [HR.out]; exact HX5.out.setNext _ _ rfl
  · exact HK5.out.trans (Keeps.one _ _ _ _) (fun k _ h => .inr h)
end Go.Proofs.YtlbdkcnbgdmpaaaGreatDoor

/- CpuMem -/
/- The walks of cpu.Size, load, store. -/
namespace Go.Proofs.YtlbdkcnbgdmpaaaGreatDoor
open Go.RowKit Go.Deep
set_option linter.unusedVariables false

theorem size_any (op : Nat) (h : 46 ≤ op ∧ op ≤ 53) (w : World) :
    Calls Tryz.prog 73 #[.int .i64 op] w fun e w' => e = .returned (.tuple #[.int .i64 (Cp.size op), .bool (Cp.isSg op)]) ∧ w = w' := by
  have hops : op = 46 ∨ op = 47 ∨ op = 48 ∨ op = 49 ∨ op = 50 ∨ op = 51 ∨ op = 52 ∨ op = 53 := by omega
  rcases hops with rfl | rfl | rfl | rfl | rfl | rfl | rfl | rfl
  all_goals
    go_enter Tryz.func73, Tryz.ntmps73
    go_wp2
    go_ret2
    exact ⟨rfl, rfl⟩
/-- what a load or a store leaves -/
structure MemOk (w w' : World) (sb b : Nat) (O : Nat → Prop) (r : Int × Cp.St × Sb) (e : Ending) : Prop where
  e : e = .returned (.int .i64 r.1)
  st : StAt w' sb r.2.1
  k : ∃ O', BInv b O' w' r.2.2 ∧ Grew O O' w ∧ Keeps (fun k => k = sb ∨ O k) w w'
theorem Grew.of2 {O O' : Nat → Prop} {w wc : World} (h : Grew O O' wc) (hs : w.heap.size ≤ wc.heap.size) : Grew O O' w := fun k hk => by
  rcases h k hk with h | h
  · exact .inl h
  · exact .inr (Nat.le_trans hs h)
theorem size_wf (op : Nat) : (Lit.int .i64 (Cp.size op)).wf = true := by
  unfold Cp.size
  split <;> decide

set_option maxRecDepth 100000 in
set_option maxHeartbeats 3000000 in
theorem load_any (x sb b : Nat) (O : Nat → Prop) (i : Cd.Ins) (nx : Int) (br : Bool) (s : Cp.St) (B : Sb) (w : World) (ea : Nat → Addr) (E : Errs3 w ea) (X : XAt w x sb b i nx br) (hS : StAt w sb s) (hB : BInv b O w B) (hs : Cp.Rng s) (hi : Cd.Ok i) (hop : 46 ≤ i.op ∧ i.op ≤ 50) (hn : B.tn < 1000000)
    (hxs : x ≠ sb) (hOx : ¬ O x) (hOs : ¬ O sb) (r : Int × Cp.St × Sb) (hr : Hid (r = Cp.load i s B)) :
    Calls Tryz.prog 55 #[.pointer (some ⟨x, 0, none⟩)] w fun e w' => MemOk w w' sb b O r e := by
  obtain ⟨op, S, T, D, imm⟩ := i
  obtain ⟨c0, c1, c2, c3, c4, c5, c6, _, _⟩ := X.cells
  have s42 := hS.cells.2.2.2.2.2.2.2.2.2.2
  have hS5 : 0 ≤ S ∧ S < 32 := hi.S
  have hT5 : 0 ≤ T ∧ T < 32 := hi.T
  have him : 0 ≤ imm ∧ imm < 4294967296 := by have := hi.imm; simp only at this; omega
  have ha : 0 ≤ s.R S.toNat ∧ s.R S.toNat < 4294967296 := hs.R _ (by omega)
  have hop2 : 46 ≤ op ∧ op ≤ 53 := by simp only at hop; omega
  have hW := wide_rng imm
  have HR : Hid (r = Cp.load ⟨op, S, T, D, imm⟩ s B) := hr
  have HADR : Hid (Cp.addr ⟨op, S, T, D, imm⟩ s = Cp.u (s.R S.toNat + Wd.wide imm 16 true)) := Lib.hid rfl
  have HS := Lib.hid hS
  have HX := Lib.hid X
  have HB := Lib.hid hB
  have HE := Lib.hid E
  clear X hi hs hr hS hB E hop
  generalize hav : s.R S.toNat = a at *
  generalize hnv : Wd.wide imm 16 true = n at *
  have HAV := Lib.hid hav
  have HNV := Lib.hid hnv
  clear hav hnv
  go_enter Tryz.func55, Tryz.ntmps55
  go_wp2_with fail
  refine (v_any x sb s S _ c0 HS.out hS5).mono ?_
  rw [HAV.out]
  rintro e w' ⟨rfl, rfl⟩
  go_wp2_with fail
  refine (imm_any x imm _ c6 him).mono ?_
  rw [HNV.out]
  rintro e w' ⟨rfl, rfl⟩
  go_wp2_with fail
  refine (size_any op hop2 _).mono ?_
  rintro e w' ⟨rfl, rfl⟩
  have hu : Cp.W (Cp.u (a + n)) := Cp.W_u _
  have HU : Hid ((a + n) % 4294967296 = Cp.u (a + n)) := Lib.hid rfl
  have HU2 : Hid (IntKind.u32.wrap (a + n) = Cp.u (a + n)) := Lib.hid rfl
  go_upto_region 3 with fail
  first | rw [HU.out] | rw [HU2.out] | skip
  generalize Cp.u (a + n) = ad at *
  generalize hsz : Cp.size op = sz at *
  generalize hsg : Cp.isSg op = sgn at *
  have HSZ := Lib.hid hsz
  have HSG := Lib.hid hsg
  clear hsz hsg
  have HEd := Lib.hid (HE.out.keep ((Keeps.refl (fun _ => False) w).drew) ⟨fun h => h, fun h => h, fun h => h⟩)
  have HBd := Lib.hid (HB.out.keep ((Keeps.refl (fun _ => False) w).drew) (fun _ _ h => h))
  go_region_with (go_at_call 74; refine (bus_load b O B ad sz s.count sgn w.drew ea HEd.out HBd.out hn hu).mono ?_; rintro e w2 ⟨rfl, O', hB2, hk2, hg2⟩)
  all_goals (
    have HB2 := Lib.hid hB2
    have HK2 := Lib.hid (Keeps.trans ((Keeps.refl (fun k => k = sb ∨ O k) w).drew) hk2 (fun k _ h => .inr h))
    have HG2 := Lib.hid (Grew.of2 (w := w) hg2 (Nat.le_refl _))
    have HS2 := Lib.hid (HS.out.keep (w := w.drew) hk2 hOs)
    have HX2 := Lib.hid (HX.out.keep (w := w.drew) hk2 hOx)
    have HLD := Lib.hid (show r = if stC ad sz ≠ 0 then (4, { s with bad := ad }, B) else (-1, Cp.setR s T (ldV ad sz s.count sgn B), stepL ad sz s.count B) by
      rw [HR.out, Cp.load, HADR.out, HSZ.out, HSG.out])
    have hO' : ¬ O' sb := fun h => by
      rcases HG2.out sb h with h | h
      · exact hOs h
      · have := HS.out.lt; omega
    clear hB2 hk2 hg2 c0 c1 c2 c3 c4 c5 c6 s42
    obtain ⟨c0, c1, c2, c3, c4, c5, c6, _, _⟩ := HX2.out.cells
    have s40 := HS2.out.cells.2.2.2.2.2.2.2.2.1
    have f40 := HS2.out.frozen 40
    generalize ldV ad sz s.count sgn B = y at *
    generalize herr : errOf ea (stC ad sz) = er at *
    by_cases hc : stC ad sz = 0
    · rw [hc, show errOf ea 0 = .nilIface from rfl] at herr
      subst herr
      have HL := Lib.hid (show r = (-1, Cp.setR s T y, stepL ad sz s.count B) by rw [HLD.out, if_neg (by simpa using hc)])
      clear hc
      go_wp2_with fail
      refine (set_any x sb s T y w2 c0 HS2.out hT5).mono ?_
      rintro e w3 ⟨rfl, hS3, hk3⟩
      have HS3 := Lib.hid hS3
      have HK3 := Lib.hid hk3
      clear hS3 hk3
      go_wp2_with fail
      go_ret
      refine ⟨by rw [HL.out]; rfl, by rw [HL.out]; exact HS3.out, O', ?_, HG2.out, HK2.out.trans HK3.out (fun k _ h => .inl h)⟩
      rw [HL.out]
      exact HB2.out.keep HK3.out (fun k hk e => hO' (e ▸ hk))
    · rw [errOf_ne hc] at herr
      subst herr
      have HL := Lib.hid (show r = (4, { s with bad := ad }, B) by rw [HLD.out, if_pos hc])
      have HST := Lib.hid (show stepL ad sz s.count B = B from if_pos hc)
      have HSET := Lib.hid (HS2.out.set 8 (.int .u32 ad) (s' := { s with bad := ad }) rfl rfl)
      unfold errV
      generalize ea (stC ad sz) = er at *
      clear hc
      go_wp2_with fail
      go_ret
      refine ⟨by rw [HL.out]; rfl, by rw [HL.out]; exact HSET.out, O', ?_, HG2.out, HK2.out.trans (Keeps.one _ _ _ _) (fun k _ h => .inl h)⟩
      rw [HL.out, ← HST.out]
      exact HB2.out.keep (Keeps.one _ _ _ _) (fun k hk e => hO' (e ▸ hk)))
end Go.Proofs.YtlbdkcnbgdmpaaaGreatDoor

/- CpuStore -/
/- The walk of cpu.store. -/
namespace Go.Proofs.YtlbdkcnbgdmpaaaGreatDoor
open Go.RowKit Go.Deep
set_option linter.unusedVariables false

theorem v_still (x sb : Nat) (s : Cp.St) (n k : Int) (w : World) (hx : w.cell? ⟨x, 0, none⟩ = some (.pointer (some ⟨sb, 0, none⟩))) (hS : StAt w sb s) (hn : 0 ≤ n ∧ n < 32) (hv : s.R n.toNat = k) :
    Calls Tryz.prog 70 #[.pointer (some ⟨x, 0, none⟩), .int .i64 n] w fun e w' => e = .returned (.int .u32 k) ∧ w' = w := by
  subst hv
  exact (v_any x sb s n w hx hS hn).mono fun e w' ⟨he, hw⟩ => ⟨he, hw.symm⟩
set_option maxRecDepth 100000 in
set_option maxHeartbeats 1000000 in
theorem store_any (x sb b : Nat) (O : Nat → Prop) (i : Cd.Ins) (nx : Int) (br : Bool) (s : Cp.St) (B : Sb) (w : World) (ea : Nat → Addr) (E : Errs3 w ea) (X : XAt w x sb b i nx br) (hS : StAt w sb s) (hB : BInv b O w B) (hs : Cp.Rng s) (hi : Cd.Ok i) (hop : 51 ≤ i.op ∧ i.op ≤ 53) (hl : B.l.length < 1000000) (hn : B.tn < 1000000)
    (hxs : x ≠ sb) (hOx : ¬ O x) (hOs : ¬ O sb) (r : Int × Cp.St × Sb) (hr : Hid (r = Cp.store i s B)) :
    Calls Tryz.prog 56 #[.pointer (some ⟨x, 0, none⟩)] w fun e w' => MemOk w w' sb b O r e := by
  obtain ⟨op, S, T, D, imm⟩ := i
  obtain ⟨c0, c1, c2, c3, c4, c5, c6, _, _⟩ := X.cells
  have s42 := hS.cells.2.2.2.2.2.2.2.2.2.2
  have hS5 : 0 ≤ S ∧ S < 32 := hi.S
  have hT5 : 0 ≤ T ∧ T < 32 := hi.T
  have him : 0 ≤ imm ∧ imm < 4294967296 := by have := hi.imm; simp only at this; omega
  have ha : 0 ≤ s.R S.toNat ∧ s.R S.toNat < 4294967296 := hs.R _ (by omega)
  have hb : 0 ≤ s.R T.toNat ∧ s.R T.toNat < 4294967296 := hs.R _ (by omega)
  have hop2 : 46 ≤ op ∧ op ≤ 53 := by simp only at hop; omega
  have HR : Hid (r = Cp.store ⟨op, S, T, D, imm⟩ s B) := hr
  have HADR : Hid (Cp.addr ⟨op, S, T, D, imm⟩ s = Cp.u (s.R S.toNat + Wd.wide imm 16 true)) := Lib.hid rfl
  have HS := Lib.hid hS
  have HX := Lib.hid X
  have HB := Lib.hid hB
  have HE := Lib.hid E
  clear X hi hs hr hS hB E hop
  generalize hav : s.R S.toNat = a at *
  generalize hbv : s.R T.toNat = bb at *
  generalize hnv : Wd.wide imm 16 true = n at *
  have HAV := Lib.hid hav
  have HBV := Lib.hid hbv
  have HNV := Lib.hid hnv
  clear hav hnv hbv
  go_enter Tryz.func56, Tryz.ntmps56
  go_wp2_with fail
  refine (v_any x sb s S _ c0 HS.out hS5).mono ?_
  rw [HAV.out]
  rintro e w' ⟨rfl, rfl⟩
  go_wp2_with fail
  refine (imm_any x imm _ c6 him).mono ?_
  rw [HNV.out]
  rintro e w' ⟨rfl, rfl⟩
  go_wp2_with fail
  refine (size_any op hop2 _).mono ?_
  rintro e w' ⟨rfl, rfl⟩
  have hu : Cp.W (Cp.u (a + n)) := Cp.W_u _
  have HU : Hid ((a + n) % 4294967296 = Cp.u (a + n)) := Lib.hid rfl
  have HU2 : Hid (IntKind.u32.wrap (a + n) = Cp.u (a + n)) := Lib.hid rfl
  go_upto_region 3 with fail
  first | rw [HU.out] | rw [HU2.out] | skip
  generalize Cp.u (a + n) = ad at *
  generalize hsz : Cp.size op = sz at *
  generalize hsg : Cp.isSg op = sgn at *
  have HSZ := Lib.hid hsz
  clear hsz hsg
  have HEd := Lib.hid (HE.out.keep ((Keeps.refl (fun _ => False) w).drew) ⟨fun h => h, fun h => h, fun h => h⟩)
  have HBd := Lib.hid (HB.out.keep ((Keeps.refl (fun _ => False) w).drew) (fun _ _ h => h))
  have HSd := Lib.hid (HS.out.keep ((Keeps.refl (fun _ => False) w).drew) (fun h => h))
  have HLD := Lib.hid (show r = if stC ad sz ≠ 0 then (5, { s with bad := ad }, B) else (-1, s, stepS ad sz bb s.count B) by
    rw [HR.out, Cp.store, HADR.out, HSZ.out, HBV.out])
  have hbs := bus_store b O B ad sz bb s.count w.drew ea HEd.out HBd.out hl hn hu hb
  have HLOW := Lib.hid HS.out.lt
  by_cases hc : stC ad sz = 0
  · rw [hc, show errOf ea 0 = .nilIface from rfl] at hbs
    have HBS := Lib.hid hbs
    have HL := Lib.hid (show r = (-1, s, stepS ad sz bb s.count B) by rw [HLD.out, if_neg (by simpa using hc)])
    clear hc hbs
    refine wp_region_still_tail 20 (by kernel_rfl) (by kernel_rfl) ?_
    simp only [List.take_succ_cons, List.take_zero, List.drop_succ_cons, List.drop_zero]
    repeat still_step
    still_call (v_still x sb s T bb w.drew c0 HSd.out hT5 HBV.out)
    repeat still_step
    refine wpStill_nil ?_
    change wpList _ _ _ _ _ w.drew
    go_wp2_with (go_at_call 75; refine HBS.out.mono ?_; rintro e w2 ⟨rfl, O', hB2, hk2, hg2⟩)
    all_goals (
      have HB2 := Lib.hid hB2
      have HK2 := Lib.hid (Keeps.trans ((Keeps.refl (fun k => k = sb ∨ O k) w).drew) hk2 (fun k _ h => .inr h))
      have HG2 := Lib.hid (Grew.of2 (w := w) hg2 (Nat.le_refl _))
      have HS2 := Lib.hid (HS.out.keep (w := w.drew) hk2 hOs)
      clear hB2 hk2 hg2 c0 c1 c2 c3 c4 c5 c6 s42
      go_ret
      exact ⟨by rw [HL.out]; rfl, by rw [HL.out]; exact HS2.out, O', by rw [HL.out]; exact HB2.out, HG2.out, HK2.out⟩)
  · rw [errOf_ne hc] at hbs
    have HST := Lib.hid (show stepS ad sz bb s.count B = B from if_pos hc)
    have HL := Lib.hid (show r = (5, { s with bad := ad }, B) by rw [HLD.out, if_pos hc])
    unfold errV at hbs
    generalize ea (stC ad sz) = er at *
    have HBS := Lib.hid hbs
    clear hc hbs
    refine wp_region_still_tail 20 (by kernel_rfl) (by kernel_rfl) ?_
    simp only [List.take_succ_cons, List.take_zero, List.drop_succ_cons, List.drop_zero]
    repeat still_step
    still_call (v_still x sb s T bb w.drew c0 HSd.out hT5 HBV.out)
    repeat still_step
    refine wpStill_nil ?_
    change wpList _ _ _ _ _ w.drew
    go_wp2_with (go_at_call 75; refine HBS.out.mono ?_; rintro e w2 ⟨rfl, O', hB2, hk2, hg2⟩; have HX2 := Lib.hid (HX.out.keep (w := w.drew) hk2 hOx); have HS2 := Lib.hid (HS.out.keep (w := w.drew) hk2 hOs); clear c0 s42; have c0 := HX2.out.cells.1; have s40 := HS2.out.cells.2.2.2.2.2.2.2.2.1; have f40 := HS2.out.frozen 40)
    all_goals (
      have HB2 := Lib.hid hB2
      have HK2 := Lib.hid (Keeps.trans ((Keeps.refl (fun k => k = sb ∨ O k) w).drew) hk2 (fun k _ h => .inr h))
      have HG2 := Lib.hid (Grew.of2 (w := w) hg2 (Nat.le_refl _))
      have hO' : ¬ O' sb := fun h => by
        rcases HG2.out sb h with h | h
        · exact hOs h
        · have := HLOW.out; omega
      clear hB2 hk2 hg2 c1 c2 c3 c4 c5 c6
      have HSET := Lib.hid (HS2.out.set 8 (.int .u32 ad) (s' := { s with bad := ad }) rfl rfl)
      go_ret
      refine ⟨by rw [HL.out]; rfl, by rw [HL.out]; exact HSET.out, O', ?_, HG2.out, HK2.out.trans (Keeps.one _ _ _ _) (fun k _ h => .inl h)⟩
      rw [HL.out, ← HST.out]
      exact HB2.out.keep (Keeps.one _ _ _ _) (fun k hk e => hO' (e ▸ hk)))
end Go.Proofs.YtlbdkcnbgdmpaaaGreatDoor

/- CpuDo -/
/- The walks of cpu.sum at any operation, trap, do. -/
namespace Go.Proofs.YtlbdkcnbgdmpaaaGreatDoor
open Go.RowKit Go.Deep
set_option linter.unusedVariables false

/-- an operation of long, called of sum -/
theorem sum_long (x sb b : Nat) (i : Cd.Ins) (nx : Int) (br : Bool) (s : Cp.St) (w : World) (X : XAt w x sb b i nx br) (hS : StAt w sb s) (hs : Cp.Rng s) (hi : Cd.Ok i) (hop : 11 ≤ i.op ∧ i.op ≤ 18) (hxs : x ≠ sb) (r : Int × Cp.St) (hr : Hid (r = Cp.sum i s)) :
    Calls Tryz.prog 83 #[.pointer (some ⟨x, 0, none⟩)] w fun e w' => AluOk w w' sb r e := by
  obtain ⟨op, S, T, D, imm⟩ := i
  have hS5 : 0 ≤ S ∧ S < 32 := hi.S
  have hT5 : 0 ≤ T ∧ T < 32 := hi.T
  have hD5 : 0 ≤ D ∧ D < 32 := hi.D
  have him : 0 ≤ imm ∧ imm < 4294967296 := by have := hi.imm; simp only at this; omega
  have ha : 0 ≤ s.R S.toNat ∧ s.R S.toNat < 4294967296 := hs.R _ (by omega)
  have hb : 0 ≤ s.R T.toNat ∧ s.R T.toNat < 4294967296 := hs.R _ (by omega)
  have hops : op = 11 ∨ op = 12 ∨ op = 13 ∨ op = 14 ∨ op = 15 ∨ op = 16 ∨ op = 17 ∨ op = 18 := by simp only at hop; omega
  rcases hops with rfl | rfl | rfl | rfl | rfl | rfl | rfl | rfl
  · exact long_11 x sb b S T D imm nx br s w X hS hS5 hT5 hD5 him _ _ ha hb rfl rfl hxs r hr
  · exact long_12 x sb b S T D imm nx br s w X hS hS5 hT5 hD5 him _ _ ha hb rfl rfl hxs r hr
  · exact long_13 x sb b S T D imm nx br s w X hS hS5 hT5 hD5 him _ _ ha hb rfl rfl hxs r hr
  · exact long_14 x sb b S T D imm nx br s w X hS hS5 hT5 hD5 him _ _ ha hb rfl rfl hxs r hr
  · exact long_15 x sb b S T D imm nx br s w X hS hS5 hT5 hD5 him _ _ ha hb rfl rfl hxs r hr
  · exact long_16 x sb b S T D imm nx br s w X hS hS5 hT5 hD5 him _ _ ha hb rfl rfl hxs r hr
  · exact long_17 x sb b S T D imm nx br s w X hS hS5 hT5 hD5 him _ _ ha hb rfl rfl hxs r hr
  · exact long_18 x sb b S T D imm nx br s w X hS hS5 hT5 hD5 him _ _ ha hb rfl rfl hxs r hr
set_option maxRecDepth 100000 in
set_option maxHeartbeats 4000000 in
theorem sum_via (x sb b : Nat) (i : Cd.Ins) (nx : Int) (br : Bool) (s : Cp.St) (w : World) (X : XAt w x sb b i nx br) (hS : StAt w sb s) (hs : Cp.Rng s) (hi : Cd.Ok i) (hop : 11 ≤ i.op ∧ i.op ≤ 18) (hxs : x ≠ sb) (r : Int × Cp.St) (hr : Hid (r = Cp.sum i s)) :
    Calls Tryz.prog 60 #[.pointer (some ⟨x, 0, none⟩)] w fun e w' => AluOk w w' sb r e := by
  obtain ⟨op, S, T, D, imm⟩ := i
  have hS5 : 0 ≤ S ∧ S < 32 := hi.S
  have hT5 : 0 ≤ T ∧ T < 32 := hi.T
  have hops : op = 11 ∨ op = 12 ∨ op = 13 ∨ op = 14 ∨ op = 15 ∨ op = 16 ∨ op = 17 ∨ op = 18 := by simp only at hop; omega
  have HS := Lib.hid hS
  have HX := Lib.hid X
  have HG := Lib.hid hs
  have HI := Lib.hid hi
  obtain ⟨c0, _, c2, c3, c4, _, _, _, _⟩ := X.cells
  have HP := Lib.hid hop
  clear X hS hs hi hop
  rcases hops with rfl | rfl | rfl | rfl | rfl | rfl | rfl | rfl
  all_goals
    go_enter Tryz.func60, Tryz.ntmps60
    go_upto_region 1 with fail
    go_quiet (first | (go_at_call 70; with_reducible exact v_q x sb s S _ _ _ c0 HS.out hS5 rfl) | (go_at_call 70; with_reducible exact v_q x sb s T _ _ _ c0 HS.out hT5 rfl))
    have HX1 := Lib.hid (show XAt (w.drewN nq) x sb b _ nx br from HX.out)
    have HS1 := Lib.hid (show StAt (w.drewN nq) sb s from HS.out)
    have HK1 := Lib.hid ((Keeps.refl (· = sb) w).drewN nq)
    clear c0 c2 c3 c4
    generalize w.drewN nq = w1 at *
    have c2 := HX1.out.cells.2.2.1
    generalize s.R S.toNat = a at *
    generalize s.R T.toNat = bb at *
    go_wp2_with fail
    refine (sum_long x sb b _ nx br s w1 HX1.out HS1.out HG.out HI.out HP.out hxs r hr).mono ?_
    rintro e w2 ⟨rfl, hS2, hk2⟩
    have HS2 := Lib.hid hS2
    have HK2 := Lib.hid hk2
    clear hS2 hk2 c2
    go_wp2_with fail
    go_ret
    exact ⟨rfl, HS2.out, HK1.out.trans HK2.out (fun _ _ h => h)⟩
theorem sum_all (x sb b : Nat) (i : Cd.Ins) (nx : Int) (br : Bool) (s : Cp.St) (w : World) (X : XAt w x sb b i nx br) (hS : StAt w sb s) (hs : Cp.Rng s) (hi : Cd.Ok i) (hop : (1 ≤ i.op ∧ i.op ≤ 6) ∨ (11 ≤ i.op ∧ i.op ≤ 28)) (hxs : x ≠ sb) (r : Int × Cp.St) (hr : Hid (r = Cp.sum i s)) :
    Calls Tryz.prog 60 #[.pointer (some ⟨x, 0, none⟩)] w fun e w' => AluOk w w' sb r e := by
  by_cases hl : 11 ≤ i.op ∧ i.op ≤ 18
  · exact sum_via x sb b i nx br s w X hS hs hi hl hxs r hr
  obtain ⟨op, S, T, D, imm⟩ := i
  have hS5 : 0 ≤ S ∧ S < 32 := hi.S
  have hT5 : 0 ≤ T ∧ T < 32 := hi.T
  have hD5 : 0 ≤ D ∧ D < 32 := hi.D
  have him : 0 ≤ imm ∧ imm < 4294967296 := by have := hi.imm; simp only at this; omega
  have ha : 0 ≤ s.R S.toNat ∧ s.R S.toNat < 4294967296 := hs.R _ (by omega)
  have hb : 0 ≤ s.R T.toNat ∧ s.R T.toNat < 4294967296 := hs.R _ (by omega)
  have hops : op = 1 ∨ op = 2 ∨ op = 3 ∨ op = 4 ∨ op = 5 ∨ op = 6 ∨ op = 19 ∨ op = 20 ∨ op = 21 ∨ op = 22 ∨ op = 23 ∨ op = 24 ∨ op = 25 ∨ op = 26 ∨ op = 27 ∨ op = 28 := by simp only at hop hl; omega
  rcases hops with rfl | rfl | rfl | rfl | rfl | rfl | rfl | rfl | rfl | rfl | rfl | rfl | rfl | rfl | rfl | rfl
  · exact sum_1 x sb b S T D imm nx br s w X hS hS5 hT5 hD5 him _ _ ha hb rfl rfl hxs r hr
  · exact sum_2 x sb b S T D imm nx br s w X hS hS5 hT5 hD5 him _ _ ha hb rfl rfl hxs r hr
  · exact sum_3 x sb b S T D imm nx br s w X hS hS5 hT5 hD5 him _ _ ha hb rfl rfl hxs r hr
  · exact sum_4 x sb b S T D imm nx br s w X hS hS5 hT5 hD5 him _ _ ha hb rfl rfl hxs r hr
  · exact sum_5 x sb b S T D imm nx br s w X hS hS5 hT5 hD5 him _ _ ha hb rfl rfl hxs r hr
  · exact sum_6 x sb b S T D imm nx br s w X hS hS5 hT5 hD5 him _ _ ha hb rfl rfl hxs r hr
  · exact sum_19 x sb b S T D imm nx br s w X hS hS5 hT5 hD5 him _ _ ha hb rfl rfl hxs r hr
  · exact sum_20 x sb b S T D imm nx br s w X hS hS5 hT5 hD5 him _ _ ha hb rfl rfl hxs r hr
  · exact sum_21 x sb b S T D imm nx br s w X hS hS5 hT5 hD5 him _ _ ha hb rfl rfl hxs r hr
  · exact sum_22 x sb b S T D imm nx br s w X hS hS5 hT5 hD5 him _ _ ha hb rfl rfl hxs r hr
  · exact sum_23 x sb b S T D imm nx br s w X hS hS5 hT5 hD5 him _ _ ha hb rfl rfl hxs r hr
  · exact sum_24 x sb b S T D imm nx br s w X hS hS5 hT5 hD5 him _ _ ha hb rfl rfl hxs r hr
  · exact sum_25 x sb b S T D imm nx br s w X hS hS5 hT5 hD5 him _ _ ha hb rfl rfl hxs r hr
  · exact sum_26 x sb b S T D imm nx br s w X hS hS5 hT5 hD5 him _ _ ha hb rfl rfl hxs r hr
  · exact sum_27 x sb b S T D imm nx br s w X hS hS5 hT5 hD5 him _ _ ha hb rfl rfl hxs r hr
  · exact sum_28 x sb b S T D imm nx br s w X hS hS5 hT5 hD5 him _ _ ha hb rfl rfl hxs r hr
theorem trap_any (x sb b : Nat) (i : Cd.Ins) (nx : Int) (br : Bool) (s : Cp.St) (w : World) (X : XAt w x sb b i nx br) (hS : StAt w sb s) (hs : Cp.Rng s) (hi : Cd.Ok i) (hop : i.op = 9 ∨ i.op = 10 ∨ i.op = 0 ∨ i.op = 43 ∨ i.op = 44 ∨ i.op = 45) (hxs : x ≠ sb) (r : Int × Cp.St) (hr : Hid (r = Cp.trap i s)) :
    Calls Tryz.prog 57 #[.pointer (some ⟨x, 0, none⟩)] w fun e w' => AluOk w w' sb r e := by
  obtain ⟨op, S, T, D, imm⟩ := i
  have hops : (op = 9 ∨ op = 10 ∨ op = 0) ∨ (op = 43 ∨ op = 44) ∨ op = 45 := by simp only at hop; omega
  rcases hops with h | h | rfl
  · exact trap_const x sb b op S T D imm nx br s w X hS h r hr
  · exact trap_regs x sb b op S T D imm nx br s w X hS hs hi hxs h r hr
  · exact trap_eret x sb b S T D imm nx br s w X hS hs hxs r hr
theorem branch_any2 (x sb b : Nat) (i : Cd.Ins) (nx : Int) (br : Bool) (s : Cp.St) (w : World) (X : XAt w x sb b i nx br) (hS : StAt w sb s) (hs : Cp.Rng s) (hi : Cd.Ok i) (hop : i.op = 7 ∨ i.op = 8 ∨ (29 ≤ i.op ∧ i.op ≤ 34)) (hxs : x ≠ sb) (r : Int × Cp.St × Int × Bool) (hr : Hid (r = Cp.branch i s nx br)) :
    Calls Tryz.prog 54 #[.pointer (some ⟨x, 0, none⟩)] w fun e w' => BrOk w w' x sb b i r e := by
  cases hsl : s.slot
  · obtain ⟨op, S, T, D, imm⟩ := i
    have hS5 : 0 ≤ S ∧ S < 32 := hi.S
    have hT5 : 0 ≤ T ∧ T < 32 := hi.T
    have hD5 : 0 ≤ D ∧ D < 32 := hi.D
    have him : 0 ≤ imm ∧ imm < 67108864 := hi.imm
    have ha : 0 ≤ s.R S.toNat ∧ s.R S.toNat < 4294967296 := hs.R _ (by omega)
    have hb : 0 ≤ s.R T.toNat ∧ s.R T.toNat < 4294967296 := hs.R _ (by omega)
    have hn := wide_rng imm
    have hR : r = (-1, Cp.link ⟨op, S, T, D, imm⟩ s, (Cp.to ⟨op, S, T, D, imm⟩ s).getD nx, true) := by rw [hr.out, Cp.branch, hsl]; rfl
    have hops : op = 7 ∨ op = 8 ∨ op = 29 ∨ op = 30 ∨ op = 31 ∨ op = 32 ∨ op = 33 ∨ op = 34 := by simp only at hop; omega
    rcases hops with rfl | rfl | rfl | rfl | rfl | rfl | rfl | rfl
    · exact branch_7 x sb b S T D imm nx br s w X hS hS5 hT5 hD5 him _ _ _ _ ha hb hn hs.pc rfl rfl rfl rfl hsl hxs r (Lib.hid hR)
    · exact branch_8 x sb b S T D imm nx br s w X hS hS5 hT5 hD5 him _ _ _ _ ha hb hn hs.pc rfl rfl rfl rfl hsl hxs r (Lib.hid hR)
    · exact branch_29 x sb b S T D imm nx br s w X hS hS5 hT5 hD5 him _ _ _ _ ha hb hn hs.pc rfl rfl rfl rfl hsl hxs r (Lib.hid hR)
    · exact branch_30 x sb b S T D imm nx br s w X hS hS5 hT5 hD5 him _ _ _ _ ha hb hn hs.pc rfl rfl rfl rfl hsl hxs r (Lib.hid hR)
    · refine branch_31 x sb b S T D imm nx br s w X hS hS5 hT5 hD5 him _ _ _ _ ha hb hn hs.pc rfl rfl rfl rfl hsl hxs r ?_
      by_cases h : s.R S.toNat = s.R T.toNat
      · rw [if_pos h, hR]; simp [Cp.to, h, Cp.link, Cp.near, Cp.immS]
      · rw [if_neg h, hR]; simp [Cp.to, h, Cp.link]
    · refine branch_32 x sb b S T D imm nx br s w X hS hS5 hT5 hD5 him _ _ _ _ ha hb hn hs.pc rfl rfl rfl rfl hsl hxs r ?_
      by_cases h : s.R S.toNat = s.R T.toNat
      · rw [if_pos h, hR]; simp [Cp.to, h, Cp.link]
      · rw [if_neg h, hR]; simp [Cp.to, h, Cp.link, Cp.near, Cp.immS]
    · refine branch_33 x sb b S T D imm nx br s w X hS hS5 hT5 hD5 him _ _ _ _ ha hb hn hs.pc rfl rfl rfl rfl hsl hxs r ?_
      by_cases h : Wd.sg (s.R S.toNat) ≤ 0
      · rw [if_pos h, hR]; simp [Cp.to, h, Cp.link, Cp.near, Cp.immS]
      · rw [if_neg h, hR]; simp [Cp.to, h, Cp.link]
    · refine branch_34 x sb b S T D imm nx br s w X hS hS5 hT5 hD5 him _ _ _ _ ha hb hn hs.pc rfl rfl rfl rfl hsl hxs r ?_
      by_cases h : Wd.sg (s.R S.toNat) ≤ 0
      · rw [if_pos h, hR]; simp [Cp.to, h, Cp.link]
      · rw [if_neg h, hR]; simp [Cp.to, h, Cp.link, Cp.near, Cp.immS]
  · have hR : r = (10, s, nx, br) := by rw [hr.out, Cp.branch, hsl]; rfl
    rw [hR]
    exact branch_slot x sb b i nx br s w X hS hsl
end Go.Proofs.YtlbdkcnbgdmpaaaGreatDoor
