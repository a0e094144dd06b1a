
/- Where the errors' variables point. -/
import Derived.Test.YtlmnmncdoiealaaGreatDoorRows
import Derived.Test.YtlmnmncdoiealaaGreatDoorMem
namespace Go.Proofs.YtlmnmncdoiealaaGreatDoor
open Go.RowKit
set_option linter.unusedVariables false

/-- the type *errors.errorString, and where the three errors' variables point -/
structure Errs3 (w : World) (ea : Nat → Addr) : Prop where
  shape : w.cell? ⟨2, 0, none⟩ = some (.iface 168 (.pointer (some (ea 3))))
  align : w.cell? ⟨8, 0, none⟩ = some (.iface 168 (.pointer (some (ea 9))))
  far : w.cell? ⟨9, 0, none⟩ = some (.iface 168 (.pointer (some (ea 10))))
theorem Errs3.keep {S : Nat → Prop} {w w' : World} {ea : Nat → Addr} (E : Errs3 w ea) (k : Keeps S w w') (h : ¬ S 2 ∧ ¬ S 8 ∧ ¬ S 9) : Errs3 w' ea :=
  ⟨k.cell' E.shape h.1, k.cell' E.align h.2.1, k.cell' E.far h.2.2⟩
/-- an error by its number -/
def errV (ea : Nat → Addr) (c : Nat) : Value := .iface 168 (.pointer (some (ea c)))
end Go.Proofs.YtlmnmncdoiealaaGreatDoor
