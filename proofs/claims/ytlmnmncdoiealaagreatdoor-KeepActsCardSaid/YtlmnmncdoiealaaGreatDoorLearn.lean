
/- The walks of learn, foldable. -/
import Derived.Test.YtlmnmncdoiealaaGreatDoorFacts
namespace Go.Proofs.YtlmnmncdoiealaaGreatDoor
open Go.RowKit Go.Deep
set_option linter.unusedVariables false
set_option linter.unusedSimpArgs false

theorem writes_rng {o : Ir.Op} (h : OpOk o) : i64R (Ir.writes o) := by
  unfold Ir.writes
  split
  · exact h.d
  · exact ⟨by decide, by decide⟩
theorem keeps_map {w w' : World} {b : Nat} (h : w.mapTurned w' b) : Keeps (· = b) w w' := (Keeps.refl _ w).grown h.grown (fun k e _ => by injection e with e; exact e.symm)
theorem foldable_c (f : Ir.Facts) (o : Ir.Op) : Ir.foldable f o = if (!Ir.isSum (Ir.kn o.k) || Ir.isDiv (Ir.kn o.k)) = true then false else (Ir.fof f o.a).isSome && (Ir.fof f o.b).isSome := by
  unfold Ir.foldable
  cases Ir.isSum (Ir.kn o.k) <;> cases Ir.isDiv (Ir.kn o.k) <;> simp
end Go.Proofs.YtlmnmncdoiealaaGreatDoor
