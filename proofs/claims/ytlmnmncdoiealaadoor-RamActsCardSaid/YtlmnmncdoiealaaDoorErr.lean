
/- Where the errors' variables point. -/
import Derived.Test.YtlmnmncdoiealaaDoorRows
import Derived.Test.YtlmnmncdoiealaaDoorMem
namespace Go.Proofs.YtlmnmncdoiealaaDoor
open Go.RowKit
set_option linter.unusedVariables false

/-- the type *errors.errorString, and where the three errors' variables point -/
structure Errs3 (w : World) (ea : Nat → Addr) : Prop where
  shape : w.cell? ⟨2, 0, none⟩ = some (.iface 187 (.pointer (some (ea 3))))
  align : w.cell? ⟨3, 0, none⟩ = some (.iface 187 (.pointer (some (ea 9))))
  far : w.cell? ⟨4, 0, none⟩ = some (.iface 187 (.pointer (some (ea 10))))
theorem Errs3.keep {S : Nat → Prop} {w w' : World} {ea : Nat → Addr} (E : Errs3 w ea) (k : Keeps S w w') (h : ¬ S 2 ∧ ¬ S 3 ∧ ¬ S 4) : Errs3 w' ea :=
  ⟨k.cell' E.shape h.1, k.cell' E.align h.2.1, k.cell' E.far h.2.2⟩
/-- an error by its number -/
def errV (ea : Nat → Addr) (c : Nat) : Value := .iface 187 (.pointer (some (ea c)))
end Go.Proofs.YtlmnmncdoiealaaDoor
