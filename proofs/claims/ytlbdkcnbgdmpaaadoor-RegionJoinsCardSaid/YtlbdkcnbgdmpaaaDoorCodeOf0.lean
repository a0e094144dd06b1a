
/- The walk of code.of0. -/
import Derived.Test.YtlbdkcnbgdmpaaaDoorShape
namespace Go.Proofs.YtlbdkcnbgdmpaaaDoor
open Go.RowKit Go.Deep
set_option linter.unusedVariables false

set_option maxRecDepth 100000 in
set_option maxHeartbeats 8000000 in
theorem of0_any (op : Nat) (h0 : 0 ≤ op) (h : op < 15) (w : World) :
    Calls Tryd.prog 50 #[.int .i64 op] w fun e w' => e = .returned (shapeV op) ∧ Keeps (fun _ => False) w w' := by
  have : op = 0 ∨ op = 1 ∨ op = 2 ∨ op = 3 ∨ op = 4 ∨ op = 5 ∨ op = 6 ∨ op = 7 ∨ op = 8 ∨ op = 9 ∨ op = 10 ∨ op = 11 ∨ op = 12 ∨ op = 13 ∨ op = 14 := by omega
  rcases this with rfl | rfl | rfl | rfl | rfl | rfl | rfl | rfl | rfl | rfl | rfl | rfl | rfl | rfl | rfl
  all_goals
    go_enter Tryd.func50, Tryd.ntmps50
    go_wp2
    refine bodyPost_ret (v := shapeV _) ?r rfl ⟨rfl, ?k⟩
    case r => simp [results, Tryd.results50, go_sem, shapeV, Cd.row, Cd.kindS]
    case k => exact (Keeps.refl _ _).alloc _
end Go.Proofs.YtlbdkcnbgdmpaaaDoor
