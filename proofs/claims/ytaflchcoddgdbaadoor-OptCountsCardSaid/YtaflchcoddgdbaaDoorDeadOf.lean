/- The walk of the reference's DeadOf. -/
import Derived.Test.YtaflchcoddgdbaaDoorIsDead
namespace Go.Proofs.YtaflchcoddgdbaaDoor
open Go.RowKit Go.Deep
set_option linter.unusedVariables false
set_option linter.unusedSimpArgs false

theorem range_stepd (p : Nat → Bool) (i : Nat) : (List.range (i + 1)).countP p = (List.range i).countP p + (if p i = true then 1 else 0) := by
  rw [List.range_succ, List.countP_append, List.countP_singleton]
theorem range_led (p : Nat → Bool) (i : Nat) : (List.range i).countP p ≤ i := by
  have := List.countP_le_length (p := p) (l := List.range i)
  simpa using this
set_option maxHeartbeats 2000000 in
set_option maxRecDepth 100000 in
theorem deadOf_any (A : Option Addr) (n cap : Nat) (l : List Ir.Op) (w : World) (V : OpsAt w A n cap l) (hc : cap ≤ 9223372036854775807) :
    Calls Tryd.prog 21 #[.slice A n cap] w fun e w' => e = .returned (.int .i64 (Ir.deads l)) ∧ Keeps (fun _ => False) w w' := by
  have HV := Lib.hid V
  have hn := V.le
  have HL := Lib.hid V.len
  clear V
  go_enter Tryd.func21, Tryd.ntmps21
  go_wp2_with fail
  go_loopw [4, 3] (fun s4 s3 wr => ∃ i : Nat, i ≤ n ∧ s4 = .int .i64 i ∧ s3 = .int .i64 ((List.range i).countP (Ir.dead l) : Nat) ∧ Keeps (fun _ => False) w wr) (fun s4 _ _ => n - (intOf s4).toNat)
  case atStart => exact ⟨0, by omega, rfl, rfl, Keeps.refl _ _⟩
  case round =>
    obtain ⟨i, hi, rfl, rfl, hKi⟩ := hrel
    have HKI := Lib.hid hKi
    have HST := Lib.hid (range_stepd (Ir.dead l) i)
    have hle := range_led (Ir.dead l) i
    obtain ⟨q, hq⟩ : ∃ q, (List.range i).countP (Ir.dead l) = q := ⟨_, rfl⟩
    rw [hq] at HST hle
    rw [hq]
    have HQ := Lib.hid hq
    clear hq
    by_cases hlt : i < n
    · have HDD := Lib.hid (isDead_any A n cap l i wr (HV.out.quiet hKi) hlt hc)
      obtain ⟨dd, hdd⟩ : ∃ b, Ir.dead l i = b := ⟨_, rfl⟩
      rw [hdd] at HDD HST
      clear hdd hKi
      go_wp2_with fail
      refine HDD.out.mono ?_
      rintro e w3 ⟨rfl, hk3⟩
      have HK3 := Lib.hid (HKI.out.trans hk3 (fun _ _ h => h))
      clear hk3
      cases dd
      all_goals
        go_wp2_with fail
        go_roundw
        case rel => exact ⟨i + 1, by omega, by go_num, by rw [HST.out]; simp, HK3.out⟩
        case measure => simp [intOf]; omega
    · obtain rfl : i = n := by omega
      have HRE := Lib.hid (show Ir.deads l = q by rw [← HQ.out]; unfold Ir.deads; rw [HL.out])
      clear hKi
      go_wp2_with fail
      go_ret
      exact ⟨by rw [HRE.out]; rfl, HKI.out⟩
end Go.Proofs.YtaflchcoddgdbaaDoor
