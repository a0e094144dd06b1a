
/- Where the errors' variables point. -/
import Derived.Test.YtknhfobcejpmeaaGreatDoorRows
import Derived.Test.YtknhfobcejpmeaaGreatDoorMem
namespace Go.Proofs.YtknhfobcejpmeaaGreatDoor
open Go.RowKit
set_option linter.unusedVariables false

/-- the type *errors.errorString, and where the three errors' variables point -/
structure Errs3 (w : World) (ea : Nat → Addr) : Prop where
  shape : w.cell? ⟨0, 0, none⟩ = some (.iface 275 (.pointer (some (ea 3))))
  align : w.cell? ⟨1, 0, none⟩ = some (.iface 275 (.pointer (some (ea 9))))
  far : w.cell? ⟨9, 0, none⟩ = some (.iface 275 (.pointer (some (ea 10))))
theorem Errs3.keep {S : Nat → Prop} {w w' : World} {ea : Nat → Addr} (E : Errs3 w ea) (k : Keeps S w w') (h : ¬ S 0 ∧ ¬ S 1 ∧ ¬ S 9) : Errs3 w' ea :=
  ⟨k.cell' E.shape h.1, k.cell' E.align h.2.1, k.cell' E.far h.2.2⟩
/-- an error by its number -/
def errV (ea : Nat → Addr) (c : Nat) : Value := .iface 275 (.pointer (some (ea c)))
end Go.Proofs.YtknhfobcejpmeaaGreatDoor
