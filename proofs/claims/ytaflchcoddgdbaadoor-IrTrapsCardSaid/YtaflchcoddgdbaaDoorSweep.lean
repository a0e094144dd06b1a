
/- The walk of opt.sweep. -/
import Derived.Test.YtaflchcoddgdbaaDoorSweepL
import Derived.Test.YtaflchcoddgdbaaDoorDelete
import Derived.Test.YtaflchcoddgdbaaDoorDead
import Derived.LoopTactic
namespace Go.Proofs.YtaflchcoddgdbaaDoor
open Go.RowKit Go.Deep
set_option linter.unusedVariables false
set_option linter.unusedSimpArgs false

def lenV : Value → Nat | .slice _ n _ => n | _ => 0
def trueN : Value → Nat | .bool true => 1 | _ => 0
set_option maxHeartbeats 4000000 in
set_option maxRecDepth 100000 in
theorem sweep_any (A : Option Addr) (n cap : Nat) (l : List Ir.Op) (w : World) (V : OpsAt w A n cap l) (hn : n < 1000000) (hc : cap ≤ 9223372036854775807) :
    Calls Tryd.prog 65 #[.slice A n cap] w fun e w' => ∃ A' cap', e = .returned (.slice A' (Ir.sweep l).length cap') ∧ OpsAt w' A' (Ir.sweep l).length cap' (Ir.sweep l) ∧ cap' ≤ 9223372036854775807 ∧ Keeps (fun _ => False) w w' := by
  have HV := Lib.hid V
  have HCC := Lib.hid hc
  clear V hc
  go_enter Tryd.func65, Tryd.ntmps65
  go_wp2_with fail
  go_loopw [0, 3] (fun s0 s3 wr => ∃ A1 n1 cap1 l1 b, s0 = .slice A1 n1 cap1 ∧ s3 = .bool b ∧ OpsAt wr A1 n1 cap1 l1 ∧ n1 ≤ n ∧ cap1 ≤ 9223372036854775807 ∧ Ir.sweep l = Ir.sweep l1 ∧ (b = false → Ir.sweep l1 = l1) ∧ Keeps (fun _ => False) w wr) (fun s0 s3 _ => lenV s0 + trueN s3)
  case atStart => exact ⟨A, n, cap, l, true, rfl, rfl, HV.out, Nat.le_refl _, HCC.out, rfl, (fun h => by cases h), Keeps.refl _ _⟩
  case round =>
    obtain ⟨A1, n1, cap1, l1, b, rfl, rfl, hV1, hn1, hc1, hs1, hb1, hK1⟩ := hrel
    obtain ⟨w1, rfl⟩ : ∃ w1, w1 = wr := ⟨wr, rfl⟩
    have HV1 := Lib.hid hV1
    have HS1 := Lib.hid hs1
    have HB1 := Lib.hid hb1
    have HK1 := Lib.hid hK1
    have HL1 := Lib.hid hV1.len
    have hnc := hV1.le
    clear hV1 hs1 hb1 hK1
    cases b
    · go_wp2_with fail
      go_ret
      have e : Ir.sweep l = l1 := HS1.out.trans (HB1.out (by first | rfl | trivial))
      rw [e, HL1.out]
      exact ⟨A1, cap1, rfl, HV1.out, hc1, HK1.out⟩
    · go_wp2_with fail
      go_loopw [8, 0, 3] (fun s8 s0 s3 wq => ∃ i : Nat, i ≤ n1 ∧ s8 = .int .i64 i ∧ s0 = .slice A1 n1 cap1 ∧ s3 = .bool false ∧ (∀ j, j < i → Ir.dead l1 j = false) ∧ Keeps (fun _ => False) w1 wq) (fun s8 _ _ _ => n1 - (intOf s8).toNat)
      case atStart => exact ⟨0, by omega, rfl, rfl, rfl, fun j hj => absurd hj (Nat.not_lt_zero _), Keeps.refl _ _⟩
      case round =>
        obtain ⟨i, hi, rfl, rfl, rfl, hz, hKi⟩ := hrel
        have HZ := Lib.hid hz
        have HKI := Lib.hid hKi
        clear hz hKi
        by_cases hlt : i < n1
        · have HD := Lib.hid (fun (d : Bool) (h : Ir.dead l1 i = d) => h)
          have HDA := Lib.hid (dead_any A1 n1 cap1 l1 i wr (HV1.out.quiet HKI.out) hlt hc1)
          obtain ⟨d, hd⟩ : ∃ d, Ir.dead l1 i = d := ⟨_, rfl⟩
          rw [hd] at HDA
          have HDD := Lib.hid hd
          clear hd HD
          go_wp2_with fail
          refine HDA.out.mono ?_
          rintro e w3 ⟨rfl, hk3⟩
          have HK3 := Lib.hid (HKI.out.trans hk3 (fun _ _ h => h))
          clear hk3
          cases d
          · go_wp2_with fail
            go_roundw
            case rel => exact ⟨i + 1, by omega, by go_num, rfl, rfl, fun j hj => by
              by_cases e : j = i
              · subst e; exact HDD.out
              · exact HZ.out j (by omega), HK3.out⟩
            case measure => simp [intOf]; omega
          · go_wp2_with fail
            refine (clone_any A1 n1 cap1 l1 w3 (HV1.out.quiet HK3.out) (by omega)).mono ?_
            rintro e w4 ⟨v, rfl, ⟨A4, cap4, rfl, ho4⟩, hk4⟩
            rw [HL1.out] at ho4 ⊢
            have HO4 := Lib.hid ho4
            have HK4 := Lib.hid (HK3.out.trans hk4 (fun _ _ h => h))
            have HK34 := Lib.hid hk4
            obtain ⟨_, ⟨h0, hn0⟩ | ⟨g, cap2, cur, h2, h3, h4, h5, h6, h7, h8⟩⟩ := ho4
            · omega
            injection h2 with e1 e2 e3
            subst e1 e3
            have HG := Lib.hid h3
            have HCP := Lib.hid h6
            clear h3 h4 h5 h6 h7 h8 e2 hk4
            have HDE := Lib.hid (delete_any w3.heap.size g n1 cap4 i l1 w4 HO4.out HL1.out hlt (by omega))
            rw [show ((i + 1 : Nat) : Int) = (i : Int) + 1 by omega] at HDE
            go_wp2_with fail
            refine HDE.out.mono ?_
            rintro e w5 ⟨rfl, ho5, hk5⟩
            have hi1 : i < l1.length := by rw [HL1.out]; exact hlt
            have hel : (l1.eraseIdx i).length = n1 - 1 := by rw [List.length_eraseIdx_of_lt hi1, HL1.out]
            have HO5 := Lib.hid (OpsAt.of_owns ho5 hel)
            have HK5 := Lib.hid (show Keeps (fun _ => False) w w5 from (HK1.out.trans HK4.out (fun _ _ h => h)).trans hk5 (fun b hb h => by
              have h1 := HG.out
              have h2 := HK1.out.size
              have h3 := HK3.out.size
              omega))
            have HST := Lib.hid (Ir.sweep_step hi1 HDD.out HZ.out)
            clear ho5 hk5
            go_wp2_with fail
            go_roundw
            case rel => exact ⟨_, n1 - 1, cap4, l1.eraseIdx i, true, rfl, rfl, HO5.out, by omega, by have := HCP.out; unfold maxLen at this; omega, HS1.out.trans HST.out, (fun h => by cases h), HK5.out⟩
            case measure => simp [lenV, trueN]; omega
        · obtain rfl : i = n1 := by omega
          have HSN := Lib.hid (Ir.sweep_none (l := l1) (fun j hj => HZ.out j (by have := HL1.out; omega)))
          go_wp2_with fail
          go_roundw
          case rel => exact ⟨A1, i, cap1, l1, false, rfl, rfl, HV1.out.quiet HKI.out, hn1, hc1, HS1.out, (fun _ => HSN.out), HK1.out.trans HKI.out (fun _ _ h => h)⟩
          case measure => simp [lenV, trueN]
end Go.Proofs.YtaflchcoddgdbaaDoor
