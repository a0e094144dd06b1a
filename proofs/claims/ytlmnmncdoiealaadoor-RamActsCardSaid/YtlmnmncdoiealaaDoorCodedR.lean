/- The walk of the law's coded. -/
import Derived.Test.YtlmnmncdoiealaaDoorCode
import Derived.Lib.Hide
namespace Go.Proofs.YtlmnmncdoiealaaDoor
open Go.RowKit Go.Deep
set_option linter.unusedVariables false

theorem coded2_nil (w : World) : Calls Tryd.prog 16 #[.nilIface, .int .i64 0] w fun e w' => e = .returned (.bool true) ∧ Keeps (fun _ => False) w w' := by
  go_enter Tryd.func16, Tryd.ntmps16
  go_wp2_with fail
  refine (code_nil _).mono ?_
  rintro e w' ⟨rfl, rfl⟩
  go_wp2_with fail
  go_ret
  exact ⟨rfl, Keeps.refl _ _⟩
theorem coded2_err (c : Nat) (h1 : 1 ≤ c) (hc : c ≤ 10) (w : World) (ea : Nat → Addr) (E : ErrsAll w ea) :
    Calls Tryd.prog 16 #[errV ea c, .int .i64 c] w fun e w' => e = .returned (.bool true) ∧ Keeps (fun _ => False) w w' := by
  have HE := Lib.hid E
  clear E
  unfold errV
  go_enter Tryd.func16, Tryd.ntmps16
  go_wp2_with fail
  refine (code_sent c h1 hc _ ea HE.out).mono ?_
  rintro e w' ⟨rfl, hk⟩
  go_wp2_with fail
  go_ret
  exact ⟨rfl, hk⟩
end Go.Proofs.YtlmnmncdoiealaaDoor
