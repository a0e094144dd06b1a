
/- The walks of the reference's Word and WideOf. -/
import Derived.Test.YtlmnmncdoiealaaGreatDoorWide
namespace Go.Proofs.YtlmnmncdoiealaaGreatDoor
open Go.RowKit
set_option linter.unusedVariables false

theorem ret_int {k : IntKind} {a b : Int} (h : a = b) : Ending.returned (.int k a) = .returned (.int k b) := by rw [h]

end Go.Proofs.YtlmnmncdoiealaaGreatDoor
