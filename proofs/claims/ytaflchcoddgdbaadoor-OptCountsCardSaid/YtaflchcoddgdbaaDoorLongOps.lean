
/- The walk of LongOps. -/
import Derived.Test.YtaflchcoddgdbaaDoorIrOps
import Derived.LoopTactic
namespace Go.Proofs.YtaflchcoddgdbaaDoor
open Go.RowKit Go.Deep
set_option linter.unusedVariables false
set_option linter.unusedSimpArgs false

set_option maxHeartbeats 1000000 in
set_option maxRecDepth 100000 in
theorem longOps_any (A : Option Addr) (n cap : Nat) (l : List Ir.Op) (w : World) (V : OpsAt w A n cap l) (hc : cap ≤ 9223372036854775807) :
    Calls Tryd.prog 8 #[.slice A n cap, .int .i64 60] w fun e w' => ∃ r : Int, e = .returned (.int .i64 r) ∧ (r = 1 ∨ (r = 0 ∧ n ≤ 201)) ∧ Keeps (fun _ => False) w w' := by
  have HV := Lib.hid V
  have hn := V.le
  clear V
  by_cases h1 : 60 < n ∧ n ≠ 201
  · have t1 : decide ((60 : Int) < (n : Int)) = true := decide_eq_true (by omega)
    have t2 : ((n : Int) != 201) = true := by simp; omega
    clear h1
    go_enter Tryd.func8, Tryd.ntmps8
    go_wp2_with fail
    go_ret
    exact ⟨1, rfl, .inl rfl, Keeps.refl _ _⟩
  · have HN := Lib.hid (show n ≤ 201 by omega)
    by_cases h2 : 60 < n
    all_goals
      first
        | (have t1 : decide ((60 : Int) < (n : Int)) = true := decide_eq_true (by omega); have t2 : ((n : Int) != 201) = false := by (simp; omega))
        | (have t1 : decide ((60 : Int) < (n : Int)) = false := decide_eq_false (by omega))
      clear h1 h2
      go_enter Tryd.func8, Tryd.ntmps8
      go_wp2_with fail
      (try clear t1)
      (try clear t2)
      go_loopw [5] (fun s5 wr => ∃ i : Nat, i ≤ n ∧ s5 = .int .i64 i ∧ Keeps (fun _ => False) w wr) (fun s5 _ => n - (intOf s5).toNat)
      case atStart => exact ⟨0, by omega, rfl, Keeps.refl _ _⟩
      case round =>
        obtain ⟨i, hi, rfl, hK⟩ := hrel
        have HK := Lib.hid hK
        clear hK
        by_cases hlt : i < n
        · obtain ⟨bb, oo, rfl, e0, e1, e2, e3, e4, e5⟩ := (HV.out.quiet HK.out).get hlt
          obtain ⟨op, hop⟩ : ∃ op, l.getD i Ir.nop = op := ⟨_, rfl⟩
          rw [hop] at e0 e1 e2 e3 e4 e5
          clear hop
          cases hk : decide ((20 : Int) < (op.k.size : Int))
          · go_wp2_with fail
            go_roundw
            case rel => exact ⟨i + 1, by omega, by go_num, HK.out⟩
            case measure => simp [intOf]; omega
          · go_wp2_with fail
            go_ret
            exact ⟨1, rfl, .inl rfl, HK.out⟩
        · obtain rfl : i = n := by omega
          go_wp2_with fail
          go_ret
          exact ⟨0, rfl, .inr ⟨rfl, HN.out⟩, HK.out⟩
end Go.Proofs.YtaflchcoddgdbaaDoor
