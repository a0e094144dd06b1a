
/- An operation's shape as a value. -/
import Derived.Test.YtlbdkcnbgdmpaaaDoorCodeDefs
import Derived.Test.YtlbdkcnbgdmpaaaDoorMem
import Derived.Test.YtlbdkcnbgdmpaaaDoorProg
import Derived.WalkSpells
import Derived.WalkLawsBesides
import Derived.BigQuiet
import Derived.Laws.BitsAllLaws
import Derived.Lib.Hide
namespace Go.Proofs.YtlbdkcnbgdmpaaaDoor
open Go.RowKit Go.Deep
set_option linter.unusedVariables false

/-- a shape as a value -/
def shapeV (op : Nat) : Value := .agg #[.string ⟨(Cd.row op).name.toArray⟩, .int .u32 (Cd.row op).major, .int .u32 (Cd.row op).minor, .string ⟨(Cd.row op).fields.toArray⟩, .string ⟨(Cd.kindS (Cd.row op).kd).toArray⟩]

end Go.Proofs.YtlbdkcnbgdmpaaaDoor
