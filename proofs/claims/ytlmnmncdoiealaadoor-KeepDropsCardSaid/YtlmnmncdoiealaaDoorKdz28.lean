/-
  KeepDrops: for every input the law returns true, and each argument reads behind the call as it read before. Condition: the listed variables hold what the program's text lays in them (the card ties that to the text).
-/
import Derived.Test.YtlmnmncdoiealaaDoorKdz27
import Derived.Test.YtlmnmncdoiealaaDoorIrOp2
import Derived.Test.YtlmnmncdoiealaaDoorKdz19
import Derived.Test.YtlmnmncdoiealaaDoorCards
import Derived.Test.YtlmnmncdoiealaaDoorTie
import Derived.Test.YtlmnmncdoiealaaDoorKdz26
import Derived.Stop.Joined
import Derived.LaidSub

/- SentC -/
/- The errors of a code, as they are laid. -/
namespace Go.Proofs.YtlmnmncdoiealaaDoor
open Go.RowKit
set_option linter.unusedVariables false
theorem Tryd.gBound : Tryd.prog.globalNamed "changeling/api.ErrBound" = some 0 := by kernel_rfl
theorem Tryd.gKind : Tryd.prog.globalNamed "changeling/api.ErrKind" = some 6 := by kernel_rfl
theorem Tryd.gFull : Tryd.prog.globalNamed "changeling/api.ErrFull" = some 1 := by kernel_rfl
theorem Tryd.tBound : (Tryd.prog.globals[0]?).map (·.type) = some 26 := by kernel_rfl
theorem Tryd.tKind : (Tryd.prog.globals[6]?).map (·.type) = some 26 := by kernel_rfl
theorem Tryd.tFull : (Tryd.prog.globals[1]?).map (·.type) = some 26 := by kernel_rfl
theorem errsC {W : World} (h : laidMetH Tryd.prog [("changeling/api.ErrBound", Rows.laid_changeling_api_ErrBound), ("changeling/api.ErrShape", Rows.laid_changeling_api_ErrShape), ("changeling/api.ErrKind", Rows.laid_changeling_api_ErrKind), ("changeling/api.ErrFull", Rows.laid_changeling_api_ErrFull)] W) : ∃ ea, ErrsC W ea := by
  rw [MakeChecks.laidMetH_plain _ _ _ (by kernel_rfl)] at h
  obtain ⟨a2, h2⟩ := sentinel_cell h Tryd.gBound Tryd.tBound
  obtain ⟨a3, h3⟩ := sentinel_cell h.tail Tryd.gShape Tryd.tShape
  obtain ⟨a4, h4⟩ := sentinel_cell h.tail.tail Tryd.gKind Tryd.tKind
  obtain ⟨a8, h8⟩ := sentinel_cell h.tail.tail.tail Tryd.gFull Tryd.tFull
  exact ⟨fun c => if c = 2 then a2 else if c = 3 then a3 else if c = 4 then a4 else a8, h2, h3, h4, h8⟩
end Go.Proofs.YtlmnmncdoiealaaDoor

/- SentR -/
/- The errors of a plan, as they are laid. -/
namespace Go.Proofs.YtlmnmncdoiealaaDoor
open Go.RowKit
set_option linter.unusedVariables false
theorem Tryd.gExistR : Tryd.prog.globalNamed "changeling/api.ErrExist" = some 9 := by kernel_rfl
theorem Tryd.tExistR : (Tryd.prog.globals[9]?).map (·.type) = some 26 := by kernel_rfl
theorem errsR {W : World} (h : laidMetH Tryd.prog [("changeling/api.ErrBound", Rows.laid_changeling_api_ErrBound), ("changeling/api.ErrShape", Rows.laid_changeling_api_ErrShape), ("changeling/api.ErrKind", Rows.laid_changeling_api_ErrKind), ("changeling/api.ErrExist", Rows.laid_changeling_api_ErrExist), ("changeling/api.ErrFull", Rows.laid_changeling_api_ErrFull)] W) : ∃ ea, ErrsR W ea := by
  rw [MakeChecks.laidMetH_plain _ _ _ (by kernel_rfl)] at h
  obtain ⟨a2, h2⟩ := sentinel_cell h Tryd.gBound Tryd.tBound
  obtain ⟨a3, h3⟩ := sentinel_cell h.tail Tryd.gShape Tryd.tShape
  obtain ⟨a4, h4⟩ := sentinel_cell h.tail.tail Tryd.gKind Tryd.tKind
  obtain ⟨a7, h7⟩ := sentinel_cell h.tail.tail.tail Tryd.gExistR Tryd.tExistR
  obtain ⟨a8, h8⟩ := sentinel_cell h.tail.tail.tail.tail Tryd.gFull Tryd.tFull
  exact ⟨fun c => if c = 2 then a2 else if c = 3 then a3 else if c = 4 then a4 else if c = 7 then a7 else a8, ⟨h2, h3, h4, h8⟩, h7⟩
end Go.Proofs.YtlmnmncdoiealaaDoor

/- KeepDropsLaw -/
/-
  KeepDrops: for every input the law returns true, and each argument reads behind the call as it read before. Condition: the listed variables hold what the program's text lays in them (the card ties that to the text).
-/
namespace Go.Proofs.YtlmnmncdoiealaaDoor.keepDrops
open Go.ChangeShapes Go.WideShapes Go.ChangeAt Go.RowKit
set_option linter.unusedVariables false

theorem door_met (os : Os) (args : Array Value) : laidMetH Tryd.prog Rows.keepDropsRow.laid ((World.doorLaid Tryd.prog 400 os).forCall (fun _ _ => 0) ⟨#[], args, []⟩).memory :=
  laidMetH_of_parts3 (fuel := 8) (laidMet_of_run' 8 (by kernel_rfl) (by kernel_rfl)) (by kernel_rfl) (by kernel_rfl)

set_option maxRecDepth 100000 in
theorem lifted (os : Os) (started : os.Started) (H : Type) (enc : TypeId × Value → H) :
    ReturnsInHanded {} Tryd.checked os 3 .any (fun w args => (Rows.keepDropsSpec.pre enc Tryd.prog Tryd.f3 [] false w args ∧ laidMetH Tryd.prog Rows.keepDropsRow.laid w) ∧ sizedMet enc Tryd.prog Tryd.f3 (OpenSpec.ofChange Rows.keepDropsSpec) false w args)
      (Rows.keepDropsSpec.post enc Tryd.prog Tryd.f3 false true false false) := by
  refine returnsInHanded_of_change_and (C := Tryd.checked) (X := fun w _ => laidMetH Tryd.prog Rows.keepDropsRow.laid w) (fun _ _ _ hh h => h.of_heap hh) Tryd.own started (by kernel_rfl) Tryd.func3
    (ChangeSpec.witness_shaped (enc := enc) (C := Tryd.checked) (os := os) (X := fun w _ => laidMetH Tryd.prog Rows.keepDropsRow.laid w) false (World.doorLaid Tryd.prog 400 os) #[.int .i64 0, .slice none 0 0, .int .i64 0] 8 rfl (World.shaped_of_RefB (by kernel_rfl) (by kernel_rfl)) (by kernel_rfl) (by kernel_rfl) (by kernel_rfl) (door_met os _)) ?_
  intro W base args ds gs before hval0 hW _ _ hL _
  have hval : ∀ (j : Nat) t v, Tryd.f3.params[j]? = some t → args[j]? = some v → Value.okWide Tryd.prog W .any base t v := hval0
  have hW' := hW
  obtain ⟨p, q, hA0, hV, rfl, hfz, hnd⟩ := hW
  have hA : DataW.TrodAll enc Tryd.prog W 0 (fun _ => true) true Tryd.f3.params.toList args.toList ds p := hA0
  rw [Tryd.params3] at hA hval
  obtain ⟨v0, vs0, d0, ds0, p0, q0, hargs, rfl, rfl, h0, r0⟩ := trodAll_cons hA
  obtain ⟨v1, vs1, d1, ds1, p1, q1, rfl, rfl, rfl, h1, r1⟩ := trodAll_cons r0
  obtain ⟨v2, vs2, d2, ds2, p2, q2, rfl, rfl, rfl, h2, r2⟩ := trodAll_cons r1
  obtain ⟨rfl, rfl, rfl⟩ := trodAll_nil r2
  obtain rfl : args = #[v0, v1, v2] := by cases args; simp_all
  obtain ⟨rfl, rfl⟩ := trodVars_none hV
  obtain ⟨a0, rfl, rfl, rfl, w0⟩ := open_int Tryd.underlying3 (hval 0 3 v0 rfl rfl) h0
  obtain ⟨A1, len1, cap1, l1, rfl, V1, hc1⟩ := open_asks (hval 1 22 v1 rfl rfl) h1
  obtain ⟨a2, rfl, rfl, rfl, w2⟩ := open_int Tryd.underlying3 (hval 2 3 v2 rfl rfl) h2
  obtain ⟨ea, E⟩ := errsR hL
  refine (keepDrops_any a0 A1 len1 cap1 l1 a2 W ea E V1 hc1).mono fun e W' ⟨he, hk⟩ => ?_
  subst he
  exact ⟨_, rfl, law_post Tryd.laidOut (fun t ht => by
      rw [Tryd.params3] at ht
      simp at ht
      rcases ht with rfl | rfl | rfl <;> exact ⟨by kernel_rfl, of_decide_eq_true (by kernel_rfl)⟩) (by kernel_rfl) Tryd.underlying4 rfl hW' rfl (hk.below (Nat.le_refl _) (fun _ _ h => h.elim))⟩

theorem said : Rows.KeepDropsSaid :=
  OpenClaim.holds_of_wide 3 Tryd.f3 rfl rfl rfl rfl rfl rfl rfl ⟨rfl, rfl, rfl, rfl, rfl⟩ rfl rfl rfl rfl rfl (by kernel_rfl) Tryd.func3 (by kernel_rfl)
    (of_decide_eq_true (by kernel_rfl)) (by unfold Func.isWrapper; rw [if_neg (of_decide_eq_false (by kernel_rfl))]; exact ⟨rfl, rfl⟩)
    (fun os started H enc _ => lifted os started H enc)

theorem plain (f : FuncId) (fn : Func) (hf : Tryd.pinned.checked.prog.funcNamed "changeling/changelinglaw3.KeepDrops" = some f) (hfn : Tryd.pinned.checked.prog.funcs[f]? = some fn) :
    Rows.keepDropsCard.stood.looks = Tryd.pinned.checked.prog.looks [] ∧ ∀ (j : Nat) t, fn.params[j]? = some t → Tryd.pinned.checked.prog.wantsStandIn t = false := by
  obtain rfl : f = 3 := Option.some.inj ((show Tryd.prog.funcNamed "changeling/changelinglaw3.KeepDrops" = some 3 by kernel_rfl).symm.trans hf) |>.symm
  obtain rfl : fn = Tryd.f3 := (Option.some.inj (Tryd.func3.symm.trans hfn)).symm
  refine ⟨by kernel_rfl, fun j t ht => ?_⟩
  rw [Tryd.params3] at ht
  have hm := Array.mem_of_getElem? ht
  simp at hm
  rcases hm with rfl | rfl | rfl
  · exact (show Tryd.prog.wantsStandIn 3 = false by kernel_rfl)
  · exact (show Tryd.prog.wantsStandIn 22 = false by kernel_rfl)
  · exact (show Tryd.prog.wantsStandIn 3 = false by kernel_rfl)

theorem card : Rows.KeepDropsCardSaid :=
  Claim7.holds_tied_plain_at .later [] _ _ _ _ said (fun _ h => by cases h) (by kernel_rfl) (fun _ h => by cases h) keepDrops_row_tie rfl ⟨rfl, rfl⟩ (by kernel_rfl) rfl plain (by kernel_rfl)
end Go.Proofs.YtlmnmncdoiealaaDoor.keepDrops
namespace Go.Proofs.YtlmnmncdoiealaaDoor
theorem keepDrops_card : Rows.KeepDropsCardSaid := keepDrops.card
end Go.Proofs.YtlmnmncdoiealaaDoor
