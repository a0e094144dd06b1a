
/- The walk of word.Wide. -/
import Derived.Test.YtlmnmncdoiealaaGreatDoorRows
import Derived.Test.YtlmnmncdoiealaaGreatDoorWordDefs
import Derived.WalkKit
import Derived.WalkSpells
import Derived.WalkLawsBesides
import Derived.Lib.Hide
namespace Go.Proofs.YtlmnmncdoiealaaGreatDoor
open Go.RowKit
set_option linter.unusedVariables false

theorem ret_i {k : IntKind} {a b : Int} (h : a = b) : Ending.returned (.int k a) = .returned (.int k b) := by rw [h]

end Go.Proofs.YtlmnmncdoiealaaGreatDoor
