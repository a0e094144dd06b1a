/- The walk of the reference's SameInts over rows that are the same. -/
import Derived.Test.YtlmnmncdoiealaaDoorMem
import Derived.Test.YtlmnmncdoiealaaDoorProg
import Derived.BigQuiet
import Derived.LoopTactic
import Derived.Lib.Hide
namespace Go.Proofs.YtlmnmncdoiealaaDoor
open Go.RowKit Go.Deep
set_option linter.unusedVariables false

set_option maxRecDepth 100000 in
set_option maxHeartbeats 1000000 in
theorem sameRows_any (A B : Option Addr) (n ca cb : Nat) (f : Nat → Int) (w : World) (h1 : Reads w A n ca (fun i => .int .i64 (f i))) (h2 : Reads w B n cb (fun i => .int .i64 (f i))) (hca : ca ≤ 9223372036854775807) (hcb : cb ≤ 9223372036854775807) :
    Calls Tryd.prog 20 #[.slice A n ca, .slice B n cb] w fun e w' => e = .returned (.bool true) ∧ Keeps (fun _ => False) w w' := by
  have b1 := h1.1
  have b2 := h2.1
  have H1 := Lib.hid h1
  have H2 := Lib.hid h2
  clear h1 h2
  go_enter Tryd.func20, Tryd.ntmps20
  go_wp2_with fail
  go_loopw [5] (fun s5 wr => ∃ i : Nat, i ≤ n ∧ s5 = .int .i64 i ∧ Keeps (fun _ => False) w wr) (fun s5 _ => n - (intOf s5).toNat)
  case atStart => exact ⟨0, by omega, rfl, Keeps.refl _ w⟩
  case round =>
    obtain ⟨i, hi, rfl, hK⟩ := hrel
    by_cases hlt : i < n
    · obtain ⟨ga, oa, rfl, p1⟩ : ∃ g o, A = some ⟨g, o, none⟩ ∧ wr.cell? ⟨g, o + i, none⟩ = some (.int .i64 (f i)) := by
        obtain ⟨_, h3 | ⟨g, o, h3, _, h4⟩⟩ := H1.out.keep hK (fun _ _ _ h => h)
        · omega
        · exact ⟨g, o, h3, h4 i hlt⟩
      obtain ⟨gb, ob, rfl, p2⟩ : ∃ g o, B = some ⟨g, o, none⟩ ∧ wr.cell? ⟨g, o + i, none⟩ = some (.int .i64 (f i)) := by
        obtain ⟨_, h3 | ⟨g, o, h3, _, h4⟩⟩ := H2.out.keep hK (fun _ _ _ h => h)
        · omega
        · exact ⟨g, o, h3, h4 i hlt⟩
      go_wp2_with fail
      go_quiet (fail)
      go_wp2_with fail
      go_roundw
      case rel => exact ⟨i + 1, by omega, by go_num, hK.drewN _⟩
      case measure => simp [intOf]; omega
    · obtain rfl : i = n := by omega
      go_wp2_with fail
      go_ret
      exact ⟨rfl, hK⟩
end Go.Proofs.YtlmnmncdoiealaaDoor
