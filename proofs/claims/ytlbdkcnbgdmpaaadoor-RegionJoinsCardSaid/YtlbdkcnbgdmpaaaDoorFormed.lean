
/- The closed fact formed. -/
import Derived.Test.YtlbdkcnbgdmpaaaDoorFormUse
namespace Go.Proofs.YtlbdkcnbgdmpaaaDoor
open Go.RowKit Go.Deep
set_option linter.unusedVariables false

/-- the memory of formed -/
def formedW : Nat → Int := fun i => if i = 0 then 604045319 else 12
theorem formed_E : formE (ramOf (min 2 4096) formedW) 0 5 = 0 := by kernel_rfl
theorem formed_N : formN (ramOf (min 2 4096) formedW) (0 : Int).toNat (5 : Int).toNat = 1 := by kernel_rfl
theorem formed_rng (i : Nat) : 0 ≤ formedW i ∧ formedW i < 4294967296 := by unfold formedW; split <;> omega
theorem formed_mem : ∃ m : Nat → Int, m = ramOf (min 2 4096) formedW ∧ formE m 0 5 = 0 ∧ formN m (0 : Int).toNat (5 : Int).toNat = 1 := ⟨_, rfl, formed_E, formed_N⟩
set_option maxRecDepth 100000 in
set_option maxHeartbeats 400000 in
theorem formed_any (w : World) (ea : Nat → Addr) (E : Errs5 w ea) :
    Calls Tryd.prog 8 #[] w fun e w' => e = .returned (.bool true) ∧ Keeps (fun _ => False) w w' := by
  have HE := Lib.hid E
  clear E
  go_enter Tryd.func8, Tryd.ntmps8
  go_wp2_with fail
  refine (new_any 2 2 _ _ formedW ⟨by omega, .inr ⟨_, _, rfl, by simp, fun i hi => ?_⟩⟩ (by omega) (fun i _ => formed_rng i)).mono ?_
  · have : i = 0 ∨ i = 1 := by omega
    rcases this with rfl | rfl <;> simp [World.cell?_alloc_new, formedW]
  rintro e w1 ⟨rfl, hN1⟩
  obtain ⟨m, hm, hmE, hmN⟩ := formed_mem
  have hR := hN1.ram
  rw [← hm, nblk_alloc] at hR
  have HR := Lib.hid hR
  have HME := Lib.hid hmE
  have HMN := Lib.hid hmN
  clear hm hR hmE hmN
  have HK1 := Lib.hid (((Keeps.refl (fun _ => False) w).alloc _).trans hN1.keeps (fun _ _ h => h))
  clear hN1
  go_wp2_with fail
  refine (form_any _ _ _ _ _ _ 0 5 _ ea (HE.out.quiet HK1.out) HR.out (by omega)).mono ?_
  intro e w2 h
  rcases h with ⟨h, _⟩ | ⟨_, h⟩
  · exact absurd HME.out h
  rw [HMN.out] at h
  obtain ⟨iv, pv, rfl, ho, hp, hk2⟩ := h
  obtain ⟨A, cap, rfl, hI⟩ := ins_of_owns ho
  obtain ⟨A2, cap2, rfl⟩ := owns_slice hp
  have HK2 := Lib.hid (HK1.out.trans hk2 (fun _ _ h => h))
  have kb := (Keeps.refl (fun _ => False) w2).alloc (.cells #[.int .u32 0, .slice A 1 cap, .slice A2 (Fm.pages (0 : Int).toNat 1).length cap2] 30)
  have hb := blk_alloc_new w2 (.cells #[.int .u32 0, .slice A 1 cap, .slice A2 (Fm.pages (0 : Int).toNat 1).length cap2] 30)
  have HI := Lib.hid (hI.keep kb)
  have HB := Lib.hid hb
  have HK3 := Lib.hid (HK2.out.trans kb (fun _ _ h => h))
  clear hI ho hk2 hp kb hb
  generalize (Fm.pages (0 : Int).toNat 1).length = np at *
  go_wp2_with fail
  generalize w2.alloc (.cells #[.int .u32 0, .slice A 1 cap, .slice A2 np cap2] 30) = w3 at *
  generalize w2.heap.size = x at *
  obtain ⟨⟨d0, d1, d2⟩, _⟩ := cells3 HB.out
  go_wp2_with fail
  refine (len_any _ _ _ A 1 cap rfl (by omega) _).mono ?_
  rintro e w4 ⟨rfl, hk4⟩
  have HB4 := Lib.hid ((hk4.block x (Array.getElem?_eq_some_iff.1 HB.out).1 (fun h => h)).trans HB.out)
  have HI4 := Lib.hid (HI.out.keep hk4)
  have HK4 := Lib.hid (HK3.out.trans hk4 (fun _ _ h => h))
  clear d0 d1 d2 hk4
  obtain ⟨⟨d0, d1, d2⟩, _⟩ := cells3 HB4.out
  go_wp2_with fail
  refine (ends_any _ _ A 1 cap _ (by omega) (fun i => (Cd.ok_dec _).op) _ HI4.out [111, 110] (Lib.hid rfl)).mono ?_
  rintro e w5 ⟨rfl, hk5⟩
  have HK5 := Lib.hid (HK4.out.trans hk5 (fun _ _ h => h))
  clear d0 d1 d2 hk5
  go_wp2_with fail
  go_ret
  exact ⟨rfl, HK5.out⟩
end Go.Proofs.YtlbdkcnbgdmpaaaDoor
