
/- The walk of AlikeWords over words that are alike. -/
import Derived.Test.YtlmnmncdoiealaaDoorStored
namespace Go.Proofs.YtlmnmncdoiealaaDoor
open Go.RowKit Go.Deep
set_option linter.unusedVariables false

set_option maxHeartbeats 1000000 in
theorem alike_same (a b n ca cb : Nat) (f : Nat → Int) (w : World) (hn : n ≤ 4096) (hca : n ≤ ca ∧ ca ≤ 9223372036854775807) (hcb : n ≤ cb ∧ cb ≤ 9223372036854775807)
    (ha : ∀ i, i < n → w.cell? ⟨a, i, none⟩ = some (.int .u32 (f i))) (hb : ∀ i, i < n → w.cell? ⟨b, i, none⟩ = some (.int .u32 (f i))) :
    Calls Tryd.prog 25 #[.slice (some ⟨a, 0, none⟩) n ca, .slice (some ⟨b, 0, none⟩) n cb] w fun e w' => e = .returned (.int .i64 1) ∧ Keeps (fun _ => False) w w' := by
  go_enter Tryd.func25, Tryd.ntmps25
  go_wp2_with fail
  go_loopw [5] (fun s5 wr => ∃ i : Nat, i ≤ n ∧ s5 = .int .i64 i ∧ Keeps (fun _ => False) w wr) (fun s5 _ => n - (intOf s5).toNat)
  case atStart => exact ⟨0, by omega, rfl, Keeps.refl _ w⟩
  case round =>
    obtain ⟨i, hi, rfl, hK⟩ := hrel
    by_cases hlt : i < n
    · have h1 := hK.cell' (ha i hlt) (fun f => f)
      have h2 := hK.cell' (hb i hlt) (fun f => f)
      go_wp2_with fail
      go_quiet (fail)
      go_wp2_with fail
      go_roundw
      case rel => exact ⟨i + 1, by omega, by go_num, hK.drewN _⟩
      case measure => simp [intOf]; omega
    · obtain rfl : i = n := by omega
      go_wp2_with fail
      go_ret
      exact ⟨rfl, hK⟩
end Go.Proofs.YtlmnmncdoiealaaDoor
