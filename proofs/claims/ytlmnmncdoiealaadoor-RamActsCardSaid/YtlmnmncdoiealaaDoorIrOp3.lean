
/- The walks of the reference's isOut, IsOf, isSize, OpError. -/
import Derived.Test.YtlmnmncdoiealaaDoorIrOp2
import Derived.WalkKit
namespace Go.Proofs.YtlmnmncdoiealaaDoor
open Go.RowKit Go.Deep
set_option linter.unusedVariables false
set_option linter.unusedSimpArgs false

def hasC (l : List UInt8) (c : UInt8) : Bool := l.contains c
/-- a text has a letter -/
theorem has_step (l : List UInt8) (c : UInt8) (i : Nat) (hi : i < l.length) : hasC (l.take (i + 1)) c = (hasC (l.take i) c || l[i] == c) := by
  unfold hasC
  rw [List.take_succ_eq_append_getElem hi, List.contains_append]
  congr 1
  rw [List.contains_cons, List.contains_nil, Bool.or_false, Bool.beq_comm]
set_option maxRecDepth 100000 in
theorem has_fields (c : Nat) (hc : c ≤ 27) (l : UInt8) (hl : l = 68 ∨ l = 65 ∨ l = 66 ∨ l = 73) : hasC (Ir.fieldsS c) l = hasL c l ∧ (Ir.fieldsS c).length < 100 := by
  have key : ∀ c : Fin 28, ∀ l ∈ [(68 : UInt8), 65, 66, 73], hasC (Ir.fieldsS c.val) l = hasL c.val l ∧ (Ir.fieldsS c.val).length < 100 := by decide +kernel
  exact key ⟨c, by omega⟩ l (by rcases hl with rfl | rfl | rfl | rfl <;> decide)
end Go.Proofs.YtlmnmncdoiealaaDoor
