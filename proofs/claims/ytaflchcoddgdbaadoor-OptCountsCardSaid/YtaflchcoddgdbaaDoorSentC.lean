/- The errors of a code, as they are laid. -/
import Derived.Test.YtaflchcoddgdbaaDoorSent
import Derived.Test.YtaflchcoddgdbaaDoorIrOp2
namespace Go.Proofs.YtaflchcoddgdbaaDoor
open Go.RowKit
set_option linter.unusedVariables false
theorem Tryd.gBound : Tryd.prog.globalNamed "changeling/api.ErrBound" = some 2 := by kernel_rfl
theorem Tryd.gKind : Tryd.prog.globalNamed "changeling/api.ErrKind" = some 5 := by kernel_rfl
theorem Tryd.gFull : Tryd.prog.globalNamed "changeling/api.ErrFull" = some 3 := by kernel_rfl
theorem Tryd.tBound : (Tryd.prog.globals[2]?).map (·.type) = some 42 := by kernel_rfl
theorem Tryd.tKind : (Tryd.prog.globals[5]?).map (·.type) = some 42 := by kernel_rfl
theorem Tryd.tFull : (Tryd.prog.globals[3]?).map (·.type) = some 42 := by kernel_rfl
theorem errsC {W : World} (h : laidMetH Tryd.prog [("changeling/api.ErrBound", Rows.laid_changeling_api_ErrBound), ("changeling/api.ErrShape", Rows.laid_changeling_api_ErrShape), ("changeling/api.ErrKind", Rows.laid_changeling_api_ErrKind), ("changeling/api.ErrFull", Rows.laid_changeling_api_ErrFull)] W) : ∃ ea, ErrsC W ea := by
  rw [MakeChecks.laidMetH_plain _ _ _ (by kernel_rfl)] at h
  obtain ⟨a2, h2⟩ := sentinel_cell h Tryd.gBound Tryd.tBound
  obtain ⟨a3, h3⟩ := sentinel_cell h.tail Tryd.gShape Tryd.tShape
  obtain ⟨a4, h4⟩ := sentinel_cell h.tail.tail Tryd.gKind Tryd.tKind
  obtain ⟨a8, h8⟩ := sentinel_cell h.tail.tail.tail Tryd.gFull Tryd.tFull
  exact ⟨fun c => if c = 2 then a2 else if c = 3 then a3 else if c = 4 then a4 else a8, h2, h3, h4, h8⟩
end Go.Proofs.YtaflchcoddgdbaaDoor
