
/- The walk of word.Wide. -/
import Derived.Test.YtlmnmncdoiealaaDoorRows
import Derived.Test.YtlmnmncdoiealaaDoorWordDefs
import Derived.WalkKit
import Derived.WalkSpells
import Derived.WalkLawsBesides
import Derived.Lib.Hide
namespace Go.Proofs.YtlmnmncdoiealaaDoor
open Go.RowKit
set_option linter.unusedVariables false

theorem ret_i {k : IntKind} {a b : Int} (h : a = b) : Ending.returned (.int k a) = .returned (.int k b) := by rw [h]

set_option maxHeartbeats 400000 in
theorem wide_any (v n : Int) (s : Bool) (w : World) (hv : 0 ≤ v ∧ v < 4294967296) :
    Calls Tryd.prog 39 #[.int .u32 v, .int .i64 n, .bool s] w fun e w' => e = .returned (.int .u32 (Wd.wide v n s)) ∧ w = w' := by
  have H : Hid (Wd.wide v n s = Wd.wide v n s) := Lib.hid rfl
  by_cases h1 : n < 1
  · go_enter Tryd.func39, Tryd.ntmps39
    go_wp2
    go_ret
    exact ⟨ret_i (by rw [Wd.wide, if_pos (by omega)]), rfl⟩
  · by_cases h2 : 32 < n
    · go_enter Tryd.func39, Tryd.ntmps39
      go_wp2
      go_ret
      exact ⟨ret_i (by rw [Wd.wide, if_pos (by omega)]), rfl⟩
    · have K := Lib.hid (Wd.wide_of v n hv (by omega) (by omega))
      cases s
      all_goals
        go_enter Tryd.func39, Tryd.ntmps39
        go_wp2
        go_ret
        refine ⟨ret_i ?_, rfl⟩
      · exact K.out.1
      · exact K.out.2
end Go.Proofs.YtlmnmncdoiealaaDoor
