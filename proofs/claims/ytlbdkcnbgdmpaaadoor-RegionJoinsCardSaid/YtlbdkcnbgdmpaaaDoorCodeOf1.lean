
/- The walk of code.of1. -/
import Derived.Test.YtlbdkcnbgdmpaaaDoorShape
namespace Go.Proofs.YtlbdkcnbgdmpaaaDoor
open Go.RowKit Go.Deep
set_option linter.unusedVariables false

set_option maxRecDepth 100000 in
set_option maxHeartbeats 8000000 in
theorem of1_any (op : Nat) (h0 : 15 ≤ op) (h : op < 29) (w : World) :
    Calls Tryd.prog 49 #[.int .i64 op] w fun e w' => e = .returned (shapeV op) ∧ Keeps (fun _ => False) w w' := by
  have : op = 15 ∨ op = 16 ∨ op = 17 ∨ op = 18 ∨ op = 19 ∨ op = 20 ∨ op = 21 ∨ op = 22 ∨ op = 23 ∨ op = 24 ∨ op = 25 ∨ op = 26 ∨ op = 27 ∨ op = 28 := by omega
  rcases this with rfl | rfl | rfl | rfl | rfl | rfl | rfl | rfl | rfl | rfl | rfl | rfl | rfl | rfl
  all_goals
    go_enter Tryd.func49, Tryd.ntmps49
    go_wp2
    refine bodyPost_ret (v := shapeV _) ?r rfl ⟨rfl, ?k⟩
    case r => simp [results, Tryd.results49, go_sem, shapeV, Cd.row, Cd.kindS]
    case k => exact (Keeps.refl _ _).alloc _
end Go.Proofs.YtlbdkcnbgdmpaaaDoor
