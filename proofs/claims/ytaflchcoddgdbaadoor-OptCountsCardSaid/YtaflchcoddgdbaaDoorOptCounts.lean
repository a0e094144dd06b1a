/- The walk of the law OptCounts. -/
import Derived.Test.YtaflchcoddgdbaaDoorBettered
import Derived.Test.YtaflchcoddgdbaaDoorLongOps
import Derived.Test.YtaflchcoddgdbaaDoorKnownOf
import Derived.Test.YtaflchcoddgdbaaDoorDeadOf
import Derived.Test.YtaflchcoddgdbaaDoorCodeFault
import Derived.Test.YtaflchcoddgdbaaDoorSame
namespace Go.Proofs.YtaflchcoddgdbaaDoor
open Go.RowKit Go.Deep
set_option linter.unusedVariables false
set_option linter.unusedSimpArgs false

theorem field_fault (c a : Int) (w : World) : (Instr.field 53 (.agg #[.int .i64 c, .int .i64 a]) 0).run Tryd.prog w = .ok (.int .i64 c) w := by kernel_rfl
set_option maxHeartbeats 4000000 in
set_option maxRecDepth 100000 in
theorem optCounts_any (many : Int) (A : Option Addr) (n cap : Nat) (l : List Ir.Op) (w : World) (ea : Nat → Addr) (E : ErrsC w ea) (V : OpsAt w A n cap l) (hc : cap ≤ 9223372036854775807) (hok : ∀ o ∈ l, OpOk o) :
    Calls Tryd.prog 4 #[.int .i64 many, .slice A n cap] w fun e w' => e = .returned (.bool true) ∧ Keeps (fun _ => False) w w' := by
  have HE := Lib.hid E
  have HV := Lib.hid V
  have HL := Lib.hid V.len
  have HOK := Lib.hid hok
  have hnc := V.le
  clear E V hok
  go_enter Tryd.func4, Tryd.ntmps4
  go_wp2_with fail
  refine (bettered_any w ea HE.out).mono ?_
  rintro e w1 ⟨rfl, hk1⟩
  have HK1 := Lib.hid hk1
  clear hk1
  go_wp2_with fail
  refine (longOps_any A n cap l w1 (HV.out.quiet HK1.out) hc).mono ?_
  rintro e w2 ⟨r, rfl, hr, hk2⟩
  have HK2 := Lib.hid (HK1.out.trans hk2 (fun _ _ h => h))
  clear hk2
  rcases hr with rfl | ⟨rfl, hn⟩
  · go_wp2_with fail
    go_ret
    exact ⟨rfl, HK2.out⟩
  have HOW := Lib.hid (ownOps_any A n cap l w2 (HV.out.quiet HK2.out) (by omega))
  go_wp2_with fail
  refine HOW.out.mono ?_
  rintro e w3 ⟨v, rfl, ⟨A3, cap3, rfl, ho3⟩, hk3⟩
  have hka := (Keeps.refl (fun _ => False) w3).alloc (.cells #[.int .u32 0, .int .i64 many, .slice A3 l.length cap3] 35)
  have HO3 := Lib.hid ((OpsAt.of_owns ho3 rfl).quiet hka)
  have HCAP := owns_cap ho3
  have HX3 := Lib.hid (CodeBox.new w3 0 many A3 l.length cap3)
  have HK3 := Lib.hid ((HK2.out.trans hk3 (fun _ _ h => h)).trans hka (fun _ _ h => h))
  clear hk3 ho3 hka
  go_upto_region 5 with fail
  generalize w3.alloc _ = w4 at *
  generalize w3.heap.size = x at *
  have HCF := Lib.hid (codeFault_any many A n cap l w4 (HV.out.quiet HK3.out) hc)
  obtain ⟨kk, hkk⟩ : ∃ kk : Nat, (if (Ir.fault many l).1 = 0 then Ir.known l else 0) = kk := ⟨_, rfl⟩
  obtain ⟨dd, hdd⟩ : ∃ dd : Nat, (if (Ir.fault many l).1 = 0 then Ir.deads l else 0) = dd := ⟨_, rfl⟩
  have HKK := Lib.hid hkk
  have HDD := Lib.hid hdd
  unfold faultV at HCF
  by_cases h0 : (Ir.fault many l).1 = 0
  · rw [if_pos h0] at hkk hdd
    have HKK2 := Lib.hid hkk
    have HDD2 := Lib.hid hdd
    clear hkk hdd
    have hf0 : (((Ir.fault many l).1 : Int) == 0) = true := by rw [h0]; rfl
    have HFF := Lib.hid (rfl : Ir.fault many l = Ir.fault many l)
    obtain ⟨f1, hf1⟩ : ∃ x, (Ir.fault many l).1 = x := ⟨_, rfl⟩
    obtain ⟨f2, hf2⟩ : ∃ x, (Ir.fault many l).2 = x := ⟨_, rfl⟩
    rw [hf1] at hf0
    rw [hf1, hf2] at HCF
    have hfd := field_fault f1 f2
    clear h0 HFF hf1 hf2
    go_wp2_with fail
    refine HCF.out.mono ?_
    rintro e w5 ⟨rfl, hk5⟩
    have HK54 := Lib.hid hk5
    have HK5 := Lib.hid (HK3.out.trans hk5 (fun _ _ h => h))
    clear hk5
    have HKF := Lib.hid (knownOf_any A n cap l w5 (HV.out.quiet HK5.out) hc)
    rw [HKK2.out] at HKF
    go_wp2_with fail
    refine HKF.out.mono ?_
    rintro e w6 ⟨rfl, hk6⟩
    have HK64 := Lib.hid (HK54.out.trans hk6 (fun _ _ h => h))
    have HK6 := Lib.hid (HK5.out.trans hk6 (fun _ _ h => h))
    clear hk6
    have HDF := Lib.hid (deadOf_any A n cap l w6 (HV.out.quiet HK6.out) hc)
    rw [HDD2.out] at HDF
    go_wp2_with fail
    refine HDF.out.mono ?_
    rintro e w7 ⟨rfl, hk7⟩
    have HK74 := Lib.hid (HK64.out.trans hk7 (fun _ _ h => h))
    have HK7 := Lib.hid (HK6.out.trans hk7 (fun _ _ h => h))
    clear hk7
    have HKNO := Lib.hid (Known_any 0 many A3 l.length cap3 l w7 ea (HE.out.quiet HK7.out) (HO3.out.quiet HK74.out) HCAP (fun i hi => HOK.out _ (getD_mem hi)))
    rw [HKK.out] at HKNO
    obtain ⟨d0, d1, d2, _⟩ := (HX3.out.keep HK74.out (fun h => h)).cells
    go_wp2_with fail
    refine HKNO.out.mono ?_
    rintro e wa ⟨rfl, hka⟩
    have HKa4 := Lib.hid (HK74.out.trans hka (fun _ _ h => h))
    have HKa := Lib.hid (HK7.out.trans hka (fun _ _ h => h))
    clear hka d0 d1 d2 hf0 hfd
    have HDDO := Lib.hid (Dead_any 0 many A3 l.length cap3 l wa ea (HE.out.quiet HKa.out) (HO3.out.quiet HKa4.out) HCAP)
    rw [HDD.out] at HDDO
    obtain ⟨d0, d1, d2, _⟩ := (HX3.out.keep HKa4.out (fun h => h)).cells
    go_wp2_with fail
    refine HDDO.out.mono ?_
    rintro e wb ⟨rfl, hkb⟩
    have HKb := Lib.hid (HKa.out.trans hkb (fun _ _ h => h))
    clear hkb d0 d1 d2
    go_wp2_with fail
    go_loopw [9] (fun s9 wr => ∃ j : Nat, j ≤ n ∧ s9 = .int .i64 j ∧ Keeps (fun _ => False) wb wr) (fun s9 _ => n - (intOf s9).toNat)
    case atStart => exact ⟨0, by omega, rfl, Keeps.refl _ _⟩
    case round =>
      obtain ⟨j, hj, rfl, hKj⟩ := hrel
      have HKJ := Lib.hid hKj
      clear hKj
      by_cases hlt : j < n
      · obtain ⟨bb, oo, rfl, e0, e1, e2, e3, e4, e5⟩ := (HV.out.quiet (HKb.out.trans HKJ.out (fun _ _ h => h))).get hlt
        obtain ⟨x, hxx⟩ : ∃ x, l.getD j Ir.nop = x := ⟨_, rfl⟩
        rw [hxx] at e0 e1 e2 e3 e4 e5
        clear hxx
        have HRD := Lib.hid (fun w => Reads_any x w)
        have HRO := Lib.hid (fun w => readsOf_any x w)
        have HWR := Lib.hid (fun w => writes_any x w)
        have HWO := Lib.hid (fun w => writeOf_any x w)
        have hl0 : (0 : Int) ≤ (j : Int) := by omega
        have hl1 : (j : Int) < (n : Int) := by omega
        have hjc : j ≤ cap := by omega
        generalize Ir.reads x = rl at *
        generalize Ir.writes x = wt at *
        go_upto_region 15 with fail
        go_region_held3 (fun w' => Keeps (fun _ => False) wr w' ∧ w'.cell? ⟨bb, oo + j * 6, none⟩ = some (.string x.k) ∧ w'.cell? ⟨bb, oo + j * 6 + 1, none⟩ = some (.int .i64 x.d) ∧ w'.cell? ⟨bb, oo + j * 6 + 2, none⟩ = some (.int .i64 x.a) ∧ w'.cell? ⟨bb, oo + j * 6 + 3, none⟩ = some (.int .i64 x.b) ∧ w'.cell? ⟨bb, oo + j * 6 + 4, none⟩ = some (.int .u32 x.imm) ∧ w'.cell? ⟨bb, oo + j * 6 + 5, none⟩ = some (.int .i64 x.at_))
          (first | (refine ⟨?_, ?_, ?_, ?_, ?_, ?_, ?_⟩ <;> first | ((repeat (first | exact Keeps.refl _ _ | assumption | apply Keeps.drew | apply Keeps.drewN | apply Keeps.alloc | (refine Keeps.trans ?_ (by assumption) (fun _ _ h => h)))); done) | (refine Keeps.cell' (S := fun _ => False) (w := wr) ?_ (by assumption) (fun f => f); (repeat (first | exact Keeps.refl _ _ | assumption | apply Keeps.drew | apply Keeps.drewN | apply Keeps.alloc | (refine Keeps.trans ?_ (by assumption) (fun _ _ h => h)))); done)) | (trace_state; fail))
          (first
            | (go_at_call 25; refine (HRD.out _).mono ?_; rintro e wR ⟨vR, rfl, hvR, hkR⟩; obtain ⟨AR, nR, capR, rfl, rfl, hcR, hrR⟩ := hvR; have HRR := Lib.hid hrR; clear hrR)
            | (go_at_call 26; refine (HRO.out _).mono ?_; rintro e wO ⟨vO, rfl, hvO, hkO⟩; obtain ⟨AO, capO, rfl, hcO, hrO⟩ := hvO.reads; have HRR2 := Lib.hid hrO; clear hrO hvO)
            | (go_at_call 24; refine (sameRows_any AR AO rl.length capR capO (fun i => rl.getD i 0) _ (HRR.out.keep (S := fun _ => False) (by (repeat (first | exact Keeps.refl _ _ | assumption | apply Keeps.drew | apply Keeps.drewN | apply Keeps.alloc | (refine Keeps.trans ?_ (by assumption) (fun _ _ h => h)))); done) (fun _ _ _ h => h)) (HRR2.out.keep (S := fun _ => False) (by (repeat (first | exact Keeps.refl _ _ | assumption | apply Keeps.drew | apply Keeps.drewN | apply Keeps.alloc | (refine Keeps.trans ?_ (by assumption) (fun _ _ h => h)))); done) (fun _ _ _ h => h)) (by omega) (by unfold maxLen at hcO; omega)).mono ?_; rintro e wS ⟨rfl, hkS⟩)
            | (go_at_call 27; refine (HWR.out _).mono ?_; rintro e wW ⟨rfl, hkW⟩)
            | (go_at_call 28; refine (HWO.out _).mono ?_; rintro e wU ⟨rfl, hkU⟩))
        all_goals
          rename_i hh
          have HKN := Lib.hid (HKJ.out.trans hh.1 (fun _ _ h => h))
          clear hh e0 e1 e2 e3 e4 e5 hkR hkO hkS hkW hkU
          go_wp2_with fail
          go_roundw
          case rel => exact ⟨j + 1, by omega, by go_num, HKN.out⟩
          case measure => simp [intOf]; omega
      · obtain rfl : j = n := by omega
        go_wp2_with fail
        go_ret
        exact ⟨rfl, HKb.out.trans HKJ.out (fun _ _ h => h)⟩
  · rw [if_neg h0] at hkk hdd
    obtain rfl := hkk
    obtain rfl := hdd
    have hf0 : (((Ir.fault many l).1 : Int) == 0) = false := by simpa using h0
    obtain ⟨f1, hf1⟩ : ∃ x, (Ir.fault many l).1 = x := ⟨_, rfl⟩
    obtain ⟨f2, hf2⟩ : ∃ x, (Ir.fault many l).2 = x := ⟨_, rfl⟩
    rw [hf1] at hf0
    rw [hf1, hf2] at HCF
    have hfd := field_fault f1 f2
    clear h0 hf1 hf2
    go_wp2_with fail
    refine HCF.out.mono ?_
    rintro e w7 ⟨rfl, hk7⟩
    have HK74 := Lib.hid hk7
    have HK7 := Lib.hid (HK3.out.trans hk7 (fun _ _ h => h))
    clear hk7
    have HKNO := Lib.hid (Known_any 0 many A3 l.length cap3 l w7 ea (HE.out.quiet HK7.out) (HO3.out.quiet HK74.out) HCAP (fun i hi => HOK.out _ (getD_mem hi)))
    rw [HKK.out] at HKNO
    obtain ⟨d0, d1, d2, _⟩ := (HX3.out.keep HK74.out (fun h => h)).cells
    go_wp2_with fail
    refine HKNO.out.mono ?_
    rintro e wa ⟨rfl, hka⟩
    have HKa4 := Lib.hid (HK74.out.trans hka (fun _ _ h => h))
    have HKa := Lib.hid (HK7.out.trans hka (fun _ _ h => h))
    clear hka d0 d1 d2 hf0 hfd
    have HDDO := Lib.hid (Dead_any 0 many A3 l.length cap3 l wa ea (HE.out.quiet HKa.out) (HO3.out.quiet HKa4.out) HCAP)
    rw [HDD.out] at HDDO
    obtain ⟨d0, d1, d2, _⟩ := (HX3.out.keep HKa4.out (fun h => h)).cells
    go_wp2_with fail
    refine HDDO.out.mono ?_
    rintro e wb ⟨rfl, hkb⟩
    have HKb := Lib.hid (HKa.out.trans hkb (fun _ _ h => h))
    clear hkb d0 d1 d2
    go_wp2_with fail
    go_loopw [9] (fun s9 wr => ∃ j : Nat, j ≤ n ∧ s9 = .int .i64 j ∧ Keeps (fun _ => False) wb wr) (fun s9 _ => n - (intOf s9).toNat)
    case atStart => exact ⟨0, by omega, rfl, Keeps.refl _ _⟩
    case round =>
      obtain ⟨j, hj, rfl, hKj⟩ := hrel
      have HKJ := Lib.hid hKj
      clear hKj
      by_cases hlt : j < n
      · obtain ⟨bb, oo, rfl, e0, e1, e2, e3, e4, e5⟩ := (HV.out.quiet (HKb.out.trans HKJ.out (fun _ _ h => h))).get hlt
        obtain ⟨x, hxx⟩ : ∃ x, l.getD j Ir.nop = x := ⟨_, rfl⟩
        rw [hxx] at e0 e1 e2 e3 e4 e5
        clear hxx
        have HRD := Lib.hid (fun w => Reads_any x w)
        have HRO := Lib.hid (fun w => readsOf_any x w)
        have HWR := Lib.hid (fun w => writes_any x w)
        have HWO := Lib.hid (fun w => writeOf_any x w)
        have hl0 : (0 : Int) ≤ (j : Int) := by omega
        have hl1 : (j : Int) < (n : Int) := by omega
        have hjc : j ≤ cap := by omega
        generalize Ir.reads x = rl at *
        generalize Ir.writes x = wt at *
        go_upto_region 15 with fail
        go_region_held3 (fun w' => Keeps (fun _ => False) wr w' ∧ w'.cell? ⟨bb, oo + j * 6, none⟩ = some (.string x.k) ∧ w'.cell? ⟨bb, oo + j * 6 + 1, none⟩ = some (.int .i64 x.d) ∧ w'.cell? ⟨bb, oo + j * 6 + 2, none⟩ = some (.int .i64 x.a) ∧ w'.cell? ⟨bb, oo + j * 6 + 3, none⟩ = some (.int .i64 x.b) ∧ w'.cell? ⟨bb, oo + j * 6 + 4, none⟩ = some (.int .u32 x.imm) ∧ w'.cell? ⟨bb, oo + j * 6 + 5, none⟩ = some (.int .i64 x.at_))
          (first | (refine ⟨?_, ?_, ?_, ?_, ?_, ?_, ?_⟩ <;> first | ((repeat (first | exact Keeps.refl _ _ | assumption | apply Keeps.drew | apply Keeps.drewN | apply Keeps.alloc | (refine Keeps.trans ?_ (by assumption) (fun _ _ h => h)))); done) | (refine Keeps.cell' (S := fun _ => False) (w := wr) ?_ (by assumption) (fun f => f); (repeat (first | exact Keeps.refl _ _ | assumption | apply Keeps.drew | apply Keeps.drewN | apply Keeps.alloc | (refine Keeps.trans ?_ (by assumption) (fun _ _ h => h)))); done)) | (trace_state; fail))
          (first
            | (go_at_call 25; refine (HRD.out _).mono ?_; rintro e wR ⟨vR, rfl, hvR, hkR⟩; obtain ⟨AR, nR, capR, rfl, rfl, hcR, hrR⟩ := hvR; have HRR := Lib.hid hrR; clear hrR)
            | (go_at_call 26; refine (HRO.out _).mono ?_; rintro e wO ⟨vO, rfl, hvO, hkO⟩; obtain ⟨AO, capO, rfl, hcO, hrO⟩ := hvO.reads; have HRR2 := Lib.hid hrO; clear hrO hvO)
            | (go_at_call 24; refine (sameRows_any AR AO rl.length capR capO (fun i => rl.getD i 0) _ (HRR.out.keep (S := fun _ => False) (by (repeat (first | exact Keeps.refl _ _ | assumption | apply Keeps.drew | apply Keeps.drewN | apply Keeps.alloc | (refine Keeps.trans ?_ (by assumption) (fun _ _ h => h)))); done) (fun _ _ _ h => h)) (HRR2.out.keep (S := fun _ => False) (by (repeat (first | exact Keeps.refl _ _ | assumption | apply Keeps.drew | apply Keeps.drewN | apply Keeps.alloc | (refine Keeps.trans ?_ (by assumption) (fun _ _ h => h)))); done) (fun _ _ _ h => h)) (by omega) (by unfold maxLen at hcO; omega)).mono ?_; rintro e wS ⟨rfl, hkS⟩)
            | (go_at_call 27; refine (HWR.out _).mono ?_; rintro e wW ⟨rfl, hkW⟩)
            | (go_at_call 28; refine (HWO.out _).mono ?_; rintro e wU ⟨rfl, hkU⟩))
        all_goals
          rename_i hh
          have HKN := Lib.hid (HKJ.out.trans hh.1 (fun _ _ h => h))
          clear hh e0 e1 e2 e3 e4 e5 hkR hkO hkS hkW hkU
          go_wp2_with fail
          go_roundw
          case rel => exact ⟨j + 1, by omega, by go_num, HKN.out⟩
          case measure => simp [intOf]; omega
      · obtain rfl : j = n := by omega
        go_wp2_with fail
        go_ret
        exact ⟨rfl, HKb.out.trans HKJ.out (fun _ _ h => h)⟩
end Go.Proofs.YtaflchcoddgdbaaDoor
