
/- The walks of ir.sums, ir.Value. -/
import Derived.Test.YtlmnmncdoiealaaGreatDoorSumsD
import Derived.Test.YtlmnmncdoiealaaGreatDoorFacts
namespace Go.Proofs.YtlmnmncdoiealaaGreatDoor
open Go.RowKit Go.Deep
set_option linter.unusedVariables false
set_option linter.unusedSimpArgs false

theorem value_c (c : Nat) (a b d : Int) : Ir.value c a b d = if Ir.isDiv c = true then (if b = 0 then d else if (c == 24 || c == 26) = true then Wd.quo a b (c == 24 || c == 25) else Wd.rst a b (c == 24 || c == 25)) else Ir.sumsV c a b := by
  unfold Ir.value
  simp only [nat_beq, Bool.decide_or, Bool.or_eq_true, decide_eq_true_eq]
end Go.Proofs.YtlmnmncdoiealaaGreatDoor
