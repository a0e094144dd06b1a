import Derived.Test.YtknhfobcejpmeaaGreatDoorPez26
import Derived.Test.YtknhfobcejpmeaaGreatDoorPez24
import Derived.Test.YtknhfobcejpmeaaGreatDoorPez16
import Derived.Test.YtknhfobcejpmeaaGreatDoorPez04
import Derived.Test.YtknhfobcejpmeaaGreatDoorPez25
import Derived.Test.YtknhfobcejpmeaaGreatDoorStDefs
import Derived.ChangeShapes
import Derived.Test.YtknhfobcejpmeaaGreatDoorMem
import Derived.ProofKit
import Derived.OpenShut
import Derived.Test.YtknhfobcejpmeaaGreatDoorErr
import Derived.LaidLaws
import Derived.MakeChecks
import Derived.Stop.LaidErr
import Derived.LaidMore
import Derived.Test.YtknhfobcejpmeaaGreatDoorPez15

/- PlanEnds -/
/- The walk of the law PlanEnds. Printed by gen/planends.py. -/
namespace Go.Proofs.YtknhfobcejpmeaaGreatDoor
open Go.RowKit Go.Deep
set_option linter.unusedVariables false
set_option linter.unusedSimpArgs false

theorem field_faultP (w : World) : (Instr.field 44 (.agg #[.int .i64 0, .int .i64 (-1)]) 0).run Tryz.prog w = .ok (.int .i64 0) w := by kernel_rfl
theorem singles_inP {many : Int} {l : List Ir.Op} (h : Ir.Good many l) (hok : ∀ o ∈ l, OpOk o) : ∀ r ∈ l.map (fun o => [o]), (∀ o ∈ r, Ir.OpIn o) ∧ r.length < 1000000 := fun r hr => by
  have hin := Ir.opIn_of_good h (fun o ho => ⟨(hok o ho).imm.1, Int.lt_of_le_sub_one (hok o ho).imm.2⟩)
  obtain ⟨o, ho, rfl⟩ := List.mem_map.1 hr
  exact ⟨fun p hp => by rw [List.mem_singleton] at hp; subst hp; exact hin p ho, by show (1 : Nat) < 1000000; decide⟩
theorem rows_in {l : List Ir.Op} (hin : ∀ o ∈ l, Ir.OpIn o) (I : Ir.Inv (Ir.make l) l) : ∀ r ∈ (Ir.make l).rows, (∀ o ∈ r, Ir.OpIn o) ∧ r.length < 1000000 := fun r hr => by
  refine ⟨fun o ho => hin o (I.perm.mem_iff.1 (List.mem_flatten.2 ⟨r, hr, ho⟩)), ?_⟩
  obtain ⟨i, hi, rfl⟩ := List.getElem_of_mem hr
  have := I.four i
  rw [List.getD_eq_getElem?_getD, List.getElem?_eq_getElem hi] at this
  exact Nat.lt_of_le_of_lt this (by decide)
set_option maxHeartbeats 16000000 in
set_option maxRecDepth 100000 in
theorem planEnds_g (pc many : Int) (A : Option Addr) (n cap : Nat) (l : List Ir.Op) (s : Cp.St) (PA : Option Addr) (pn pcap : Nat) (page : Int) (ws : Nat → Int) (w : World) (ea : Nat → Addr) (E : ErrsAll w ea) (V : OpsAt w A n cap l) (hc : cap ≤ 9223372036854775807) (hok : ∀ o ∈ l, OpOk o)
    (hR : Reads w PA pn pcap (fun i => .int .u32 (ws i))) (hpc : pcap ≤ 9223372036854775807) (hr : ∀ i, i < pn → 0 ≤ ws i ∧ ws i < 4294967296) (hrng : 0 ≤ s.count → s.count < 4611686018427387904 → Cp.Rng s) (hp : 0 ≤ pc ∧ pc < 4294967296) (hfz : (Ir.fault many l).1 = 0) :
    Calls Tryz.prog 3 #[.int .u32 pc, .int .i64 many, .slice A n cap, .agg (placeL s PA pn pcap page).toArray] w fun e w' => e = .returned (.bool true) ∧ Keeps (fun _ => False) w w' := by
  have HE := Lib.hid E
  have HV := Lib.hid V
  have HL := Lib.hid V.len
  have HOK := Lib.hid hok
  have HRD := Lib.hid hR
  have HRR := Lib.hid hr
  have HRNG := Lib.hid hrng
  have HP := Lib.hid hp
  have hnc := V.le
  have HN := Lib.hid (PlaceAt.new w s PA pn pcap page)
  have HK := Lib.hid ((Keeps.refl (fun _ => False) w).alloc (.cells (placeL s PA pn pcap page).toArray 29))
  have HFS := Lib.hid (fault_small many l)
  have HCF := Lib.hid (fun w V => codeFault_any many A n cap l w V hc)
  have HMK := Lib.hid (fun w A3 cap3 V hc E => planMake_any pc many A3 n cap3 l w ea E V hc hok)
  have HHF := Lib.hid hfz
  obtain ⟨fa, hfa⟩ : ∃ f, Ir.fault many l = f := ⟨_, rfl⟩
  rw [hfa] at HFS HCF
  have HFA := Lib.hid hfa
  obtain ⟨fc, fat⟩ := fa
  have hfc0 : fc = 0 := by have := hfz; rw [hfa] at this; exact this
  have hfgt : decide (0 < fc) = false := decide_eq_false (by omega)
  have hG := Ir.good_of_fault hfz
  have hin := Ir.opIn_of_good hG (fun o ho => ⟨(hok o ho).imm.1, Int.lt_of_le_sub_one (hok o ho).imm.2⟩)
  have HG := Lib.hid hG
  have HMF := Lib.hid (Ir.make_fault hG hin)
  have HRI := Lib.hid (rows_in hin (Ir.make_fault hG hin).2.2)
  have HFIN := Lib.hid (fun (sp : Cp.St) (m : Nat → Int) (W : Int → Bool) (hs : Cp.Rng sp) (h0 : sp.R 0 = 0) (hc : sp.count ≤ 1099511627776) (hm : ∀ j, j < 16384 → 0 ≤ m j ∧ m j < 256) => plan_ends hG hin (Ir.make_fault hG hin).2.2 sp m W hs h0 hc hm)
  have HRO := Lib.hid (show (∀ i, i + 1 < (Ir.make l).rows.length → Ir.looseAt ((Ir.make l).rows.getD i []) ((Ir.make l).rows.getD (i + 1) []) = false) from fun i hi => Ir.tight_not ((Ir.make_fault hG hin).2.2.tight i hi) ((Ir.make_fault hG hin).2.2.ne (i + 1) hi))
  have HR4 := Lib.hid (show ∀ i, i < (Ir.make l).rows.length → ((Ir.make l).rows.getD i []).length ≤ 1000 from fun i hi => Nat.le_trans ((Ir.make_fault hG hin).2.2.four i) (by decide))
  have HPE := Lib.hid (Ir.make_fault hG hin).2.2.perm
  clear hfc0 hfz hG hin
  clear E V hok hR hr hrng hp hfa
  go_enter Tryz.func3, Tryz.ntmps3
  go_upto_region 1 with fail
  have HP1 := Lib.hid HN.out
  have HK1 := Lib.hid HK.out
  clear HN HK
  generalize w.alloc _ = w1 at *
  obtain ⟨x, hx⟩ : ∃ x, w.heap.size = x := ⟨_, rfl⟩
  rw [hx] at HP1 ⊢
  have HX := Lib.hid hx
  clear hx
  go_wp2_with fail
  refine (planned_any w1 ea (HE.out.quiet HK1.out).toC).mono ?_
  rintro e w2 ⟨rfl, hk2⟩
  have HP2 := Lib.hid (HP1.out.keep hk2 (fun h => h))
  have HK2 := Lib.hid (HK1.out.trans hk2 (fun _ _ h => h))
  clear hk2
  go_wp2_with fail
  refine (longOps40_any A n cap l w2 (HV.out.quiet HK2.out) hc).mono ?_
  rintro e w3 ⟨r, rfl, hr, hk3⟩
  have HP3 := Lib.hid (HP2.out.keep hk3 (fun h => h))
  have HK3 := Lib.hid (HK2.out.trans hk3 (fun _ _ h => h))
  clear hk3
  rcases hr with rfl | ⟨rfl, hn⟩
  · go_wp2_with fail
    go_ret
    exact ⟨rfl, HK3.out⟩
  go_wp2_with (refine wpList_load_place _ rfl x s PA pn pcap page HP3.out rfl (by first | rfl | decide) ?_)
  refine (longPlace_any s PA pn pcap page w3).mono ?_
  rintro e w4 ⟨b, rfl, hb, hk4⟩
  have HP4 := Lib.hid (HP3.out.keep hk4 (fun h => h))
  have HK4 := Lib.hid (HK3.out.trans hk4 (fun _ _ h => h))
  clear hk4
  cases b
  case true =>
    go_wp2_with fail
    go_ret
    exact ⟨rfl, HK4.out⟩
  obtain ⟨hpn, hc0, hc1⟩ := hb rfl
  clear hb
  have HSPR := Lib.hid (placedA_rng (HRNG.out hc0 (by omega)) pc HP.out false)
  have HSPC := Lib.hid (show (Ir.placedA s pc false).count ≤ 1099511627776 ∧ (Ir.placedA s pc false).R 0 = 0 from ⟨hc1, rfl⟩)
  have HOW := Lib.hid (ownOps_any A n cap l w4 (HV.out.quiet HK4.out) (by omega))
  go_wp2_with fail
  refine HOW.out.mono ?_
  rintro e w5 ⟨v, rfl, ⟨A3, cap3, rfl, ho3⟩, hk5⟩
  rw [HL.out] at ho3 ⊢
  have HO5 := Lib.hid (OpsAt.of_owns ho3 HL.out)
  have HCAP := owns_cap ho3
  have HK5 := Lib.hid (HK4.out.trans hk5 (fun _ _ h => h))
  have HP5 := Lib.hid (HP4.out.keep hk5 (fun h => h))
  have HOP := Lib.hid (HMK.out w5 A3 cap3 HO5.out HCAP (HE.out.quiet HK5.out).toC)
  clear hk5 ho3 HOW HP1 HP2 HP3 HP4
  go_wp2_with fail
  refine HOP.out.mono ?_
  rintro e w6 ⟨⟨cv, ev, rfl, hv6⟩, hk6⟩
  obtain ⟨rfl, A5, cap5, rfl, hro⟩ := hv6.good HHF.out
  obtain ⟨A6, cap6, hv7, hc6, hra⟩ := hro.rows
  injection hv7 with e1 e2 e3
  subst e1 e3
  obtain ⟨lo, hlo⟩ : ∃ lo, (Ir.make l).rows = lo := ⟨_, rfl⟩
  rw [hlo] at HMF HRI HFIN HRO HR4 HPE hra ⊢
  obtain ⟨no, hno⟩ : ∃ no, lo.length = no := ⟨_, rfl⟩
  have HNO := Lib.hid hno
  have HLN := Lib.hid (show no ≤ n by have h1 := HMF.out.2.1; have h2 := HL.out; rw [hno, h2] at h1; exact h1)
  rw [hno] at hra HRO ⊢
  have hka := (Keeps.refl (fun _ => False) w6).alloc (.cells #[.int .u32 pc, .int .i64 many, .slice A5 no cap5] 35)
  have hkb := hk6.trans hka (fun _ _ h => h)
  have HB7 := Lib.hid (PlanBox.new w6 pc many A5 no cap5)
  have HO7 := Lib.hid (hra.quiet hka)
  have HK7 := Lib.hid (HK5.out.trans hkb (fun _ _ h => h))
  have HP7 := Lib.hid (HP5.out.keep hkb (fun h => h))
  clear hv6 hk6 hka hkb hro hra hlo hno
  unfold codeC
  go_upto_region 5 with fail
  generalize w6.alloc _ = w7 at *
  generalize w6.heap.size = cb at *
  go_wp2_with fail
  refine (HCF.out w7 (HV.out.quiet HK7.out)).mono ?_
  rintro e w8 ⟨rfl, hk8⟩
  unfold faultV
  dsimp only
  have hka := (Keeps.refl (fun _ => False) w8).alloc (.cells #[.int .i64 fc, .int .i64 fat] 44)
  have hkb := hk8.trans hka (fun _ _ h => h)
  have HF9 := Lib.hid (FaultBox.new w8 fc fat)
  have HK9 := Lib.hid (HK7.out.trans hkb (fun _ _ h => h))
  have HB9 := Lib.hid (HB7.out.keep hkb (fun h => h))
  have HO9 := Lib.hid (HO7.out.quiet hkb)
  have HP9 := Lib.hid (HP7.out.keep hkb (fun h => h))
  clear hk8 hka hkb
  go_upto_region 6 with fail
  generalize w8.alloc _ = w9 at *
  generalize w8.heap.size = fb at *
  obtain ⟨y0, y1, g0, g1⟩ := HF9.out.cells
  obtain ⟨d0, d1, d2, _⟩ := HB9.out.cells
  have hlen : decide (n < no) = false := decide_eq_false (by have := HLN.out; omega)
  have HCF2 := Lib.hid (planFault_any many A5 no cap5 lo w9 HO9.out hc6)
  rw [HMF.out.1] at HCF2
  unfold faultV at HCF2
  dsimp only at HCF2
  go_wp2_with fail
  refine HCF2.out.mono ?_
  rintro e w10 ⟨rfl, hk10⟩
  have HK10 := Lib.hid (HK9.out.trans hk10 (fun _ _ h => h))
  have HB10 := Lib.hid (HB9.out.keep hk10 (fun h => h))
  have HO10 := Lib.hid (HO9.out.quiet hk10)
  have HP10 := Lib.hid (HP9.out.keep hk10 (fun h => h))
  clear hk10 y0 y1 g0 g1 d0 d1 d2
  obtain ⟨d0, d1, d2, _⟩ := HB10.out.cells
  have hff := field_faultP
  have HFL := Lib.hid (flat_any A5 no cap5 lo w10 HO10.out hc6 (by have := HLN.out; omega) HR4.out)
  go_upto_region 10 with fail
  clear hff
  go_wp2_with fail
  refine HFL.out.mono ?_
  rintro e w11 ⟨v, rfl, hfl, hk11⟩
  obtain ⟨A7, cap7, rfl, ho7⟩ := hfl
  have HLF := Lib.hid (show lo.flatten.length = n from HPE.out.length_eq.trans HL.out)
  rw [HLF.out] at ho7 ⊢
  have HC7 := owns_cap ho7
  have HFO := Lib.hid (OpsAt.of_owns ho7 HLF.out)
  have HK11 := Lib.hid (HK10.out.trans hk11 (fun _ _ h => h))
  have HB11 := Lib.hid (HB10.out.keep hk11 (fun h => h))
  have HO11 := Lib.hid (HO10.out.quiet hk11)
  have HP11 := Lib.hid (HP10.out.keep hk11 (fun h => h))
  clear hk11 d0 d1 d2 ho7
  have HFW := Lib.hid (fewOps_perm A7 A n cap7 cap lo.flatten l w11 HFO.out (HV.out.quiet HK11.out) HC7 hc (by omega) HPE.out)
  go_wp2_with fail
  refine HFW.out.mono ?_
  rintro e w12 ⟨rfl, hk12⟩
  have HK12 := Lib.hid (HK11.out.trans hk12 (fun _ _ h => h))
  have HB12 := Lib.hid (HB11.out.keep hk12 (fun h => h))
  have HO12 := Lib.hid (HO11.out.quiet hk12)
  have HP12 := Lib.hid (HP11.out.keep hk12 (fun h => h))
  clear hk12
  obtain ⟨d0, d1, d2, _⟩ := HB12.out.cells
  have HLS := Lib.hid (looseOf_zero A5 no cap5 lo w12 HO12.out hc6 (by have := HLN.out; omega) HR4.out (by have h := HNO.out; rw [h]; exact HRO.out))
  go_wp2_with fail
  refine HLS.out.mono ?_
  rintro e w13 ⟨rfl, hk13⟩
  have HK13 := Lib.hid (HK12.out.trans hk13 (fun _ _ h => h))
  have HB13 := Lib.hid (HB12.out.keep hk13 (fun h => h))
  have HO13 := Lib.hid (HO12.out.quiet hk13)
  have HP13 := Lib.hid (HP12.out.keep hk13 (fun h => h))
  clear hk13 d0 d1 d2
  obtain ⟨d0, d1, d2, _⟩ := HB13.out.cells
  go_upto_region 13 with fail
  have Z2 := Lib.hid d2
  have HPR := Lib.hid HP13.out.range
  have HEA := Lib.hid (fun w' (k : Keeps (fun _ => False) w13 w') => each_any A n cap l w' (HV.out.quiet (HK13.out.trans k (fun _ _ h => h))) hc (by omega))
  have HSE := Lib.hid (fun A1 c1 w' (k : Keeps (fun _ => False) w13 w') (h1 : RowsAt w' A1 n c1 (l.map fun o => [o])) (hc1 : c1 ≤ 9223372036854775807) => by
    have hin := HFIN.out (Ir.placedA s pc false) (ramOf (min pn 4096) ws) (watchF page) HSPR.out HSPC.out.2 HSPC.out.1 (ramOf_rng _ _)
    exact sameEnd_any (l.map fun o => [o]) lo many pc A1 n c1 A5 no cap5 s PA pn pcap page ws w' h1 hc1 (singles_inP HG.out HOK.out) (HO13.out.quiet k) hc6 HRI.out (HRD.out.keep (HK13.out.trans k (fun _ _ h => h)) (fun _ _ _ h => h)) hpc HRR.out HSPR.out HP.out (by have := HG.out.range; omega) _ _ rfl rfl hin.1 hin.2.1 hin.2.2.1 hin.2.2.2)
  have HPS := Lib.hid (show (Tryz.prog.info? 29).map (·.size) = some (placeL s PA pn pcap page).length by
    rw [show (placeL s PA pn pcap page).length = 45 by unfold placeL; rw [List.length_append, stL_len]; rfl]
    kernel_rfl)
  have HNL := Lib.hid HL.out
  generalize placeL s PA pn pcap page = pl at HPR HPS HSE ⊢
  refine wp_region_held_drew (S := fun w' => Keeps (fun _ => False) w13 w') (by kernel_rfl) (Keeps.refl _ w13).drew (fun hH0 => ?_)
  refine wpAnyH_take (i := 0) (v := ?_) rfl (by kernel_rfl) (by kernel_rfl) (by kernel_rfl) (fun _ _ _ h => h) (Or.inl ⟨by rfl, ?_⟩) hH0 ?_
  rotate_left
  · intro w' hSw
    go_simp
    try with_reducible rfl
  simp only [Act.put, List.setIfInBounds_toArray, List.set_cons_zero, List.set_cons_succ]
  refine wpAnyH_take (i := 2) (v := ?_) rfl (by kernel_rfl) (by kernel_rfl) (by kernel_rfl) (fun _ _ _ h => h) (Or.inl ⟨by rfl, ?_⟩) hH0 ?_
  rotate_left
  · intro w' hSw
    go_simp
    try with_reducible rfl
  simp only [Act.put, List.setIfInBounds_toArray, List.set_cons_zero, List.set_cons_succ]
  refine wpAnyH_take (i := 3) (v := ?_) rfl (by kernel_rfl) (by kernel_rfl) (by kernel_rfl) (fun _ _ _ h => h) (Or.inl ⟨by rfl, ?_⟩) hH0 ?_
  rotate_left
  · intro w' hSw
    have c := Keeps.cell' hSw Z2.out (fun f => f)
    go_simp
    try with_reducible rfl
  simp only [Act.put, List.setIfInBounds_toArray, List.set_cons_zero, List.set_cons_succ]
  refine wpAnyH_take (i := 4) (v := ?_) rfl (by kernel_rfl) (by kernel_rfl) (by kernel_rfl) (fun _ _ _ h => h) (Or.inl ⟨by rfl, ?_⟩) hH0 ?_
  rotate_left
  · intro w' hSw
    go_simp
    try with_reducible rfl
  simp only [Act.put, List.setIfInBounds_toArray, List.set_cons_zero, List.set_cons_succ]
  refine wpAnyH_take (i := 5) (v := .agg pl.toArray) rfl (by kernel_rfl) (by kernel_rfl) (by kernel_rfl) (fun _ _ _ h => h) (yieldsIf_load_mid (by rfl) 29 (.tmp 7) rfl x 0 (by go_simp) pl _ (fun w' hSw => range_keep HPR.out hSw) Tryz.underlying29 rfl HPS.out) hH0 ?_
  simp only [Act.put, List.setIfInBounds_toArray, List.set_cons_zero, List.set_cons_succ]
  refine wpAnyH_take (i := 6) (v := ?_) rfl (by kernel_rfl) (by kernel_rfl) (by kernel_rfl) (fun _ _ _ h => h) (Or.inl ⟨by rfl, ?_⟩) hH0 ?_
  rotate_left
  · intro w' hSw
    go_simp
    try with_reducible rfl
  simp only [Act.put, List.setIfInBounds_toArray, List.set_cons_zero, List.set_cons_succ]
  refine wpAnyH_ready (rs := [1]) (by kernel_rfl) (by simp) ?_
  refine AllReadyH.cons rfl (fun K hK => ?_) AllReadyH.nil
  go_simp
  refine (HEA.out _ hH0).mono ?_
  rintro e wa ⟨va, rfl, hva, hka1⟩
  go_wp2_with fail
  have hH2 := Keeps.trans hH0 hka1 (fun _ _ h => h)
  refine hK.out _ _ hH2 (fun _ => ?_)
  clear hK K
  try simp only [Act.put, List.setIfInBounds_toArray, List.set_cons_zero, List.set_cons_succ]
  obtain ⟨A1, k1, rfl, hk1c, hr1⟩ := hva.rows
  rw [HNL.out] at hr1 ⊢
  refine wpAnyH_ready (rs := [7]) (by kernel_rfl) (by simp) ?_
  refine AllReadyH.cons rfl (fun K hK => ?_) AllReadyH.nil
  go_simp
  refine (HSE.out A1 k1 _ hH2 hr1 hk1c).mono ?_
  rintro e wc ⟨rfl, hkc⟩
  go_wp2_with fail
  have hH3 := Keeps.trans hH2 hkc (fun _ _ h => h)
  refine hK.out _ _ hH3 (fun _ => ?_)
  clear hK K
  try simp only [Act.put, List.setIfInBounds_toArray, List.set_cons_zero, List.set_cons_succ]
  refine wpAnyH_ready (rs := [8]) (by kernel_rfl) (by simp) ?_
  refine AllReadyH.cons rfl (fun K hK => ?_) AllReadyH.nil
  go_simp
  refine hK.out _ _ hH3 (fun _ => ?_)
  clear hK K
  try simp only [Act.put, List.setIfInBounds_toArray, List.set_cons_zero, List.set_cons_succ]
  refine wpAnyH_done (by kernel_rfl) ?_ _
  go_wp2_with fail
  go_ret
  exact ⟨by first | rfl | go_simp, HK13.out.trans hH3 (fun _ _ h => h)⟩
theorem planEnds_any (pc many : Int) (A : Option Addr) (n cap : Nat) (l : List Ir.Op) (s : Cp.St) (PA : Option Addr) (pn pcap : Nat) (page : Int) (ws : Nat → Int) (w : World) (ea : Nat → Addr) (E : ErrsAll w ea) (V : OpsAt w A n cap l) (hc : cap ≤ 9223372036854775807) (hok : ∀ o ∈ l, OpOk o)
    (hR : Reads w PA pn pcap (fun i => .int .u32 (ws i))) (hpc : pcap ≤ 9223372036854775807) (hr : ∀ i, i < pn → 0 ≤ ws i ∧ ws i < 4294967296) (hrng : 0 ≤ s.count → s.count < 4611686018427387904 → Cp.Rng s) (hp : 0 ≤ pc ∧ pc < 4294967296) :
    Calls Tryz.prog 3 #[.int .u32 pc, .int .i64 many, .slice A n cap, .agg (placeL s PA pn pcap page).toArray] w fun e w' => e = .returned (.bool true) ∧ Keeps (fun _ => False) w w' := by
  by_cases hf : (Ir.fault many l).1 = 0
  · exact planEnds_g pc many A n cap l s PA pn pcap page ws w ea E V hc hok hR hpc hr hrng hp hf
  · exact planEnds_e pc many A n cap l s PA pn pcap page ws w ea E V hc hok hR hpc hr hrng hp hf
end Go.Proofs.YtknhfobcejpmeaaGreatDoor

/- OpenStD -/
/- What an argument of type api.State holds. -/
namespace Go.Proofs.YtknhfobcejpmeaaGreatDoor
open Go.RowKit Go.Deep
set_option linter.unusedVariables false

def tysSt : List TypeId := (List.replicate 32 22) ++ [22, 22, 22, 22, 4, 22, 22, 22, 22, 22, 3]
theorem cellTypes_state : Tryz.prog.cellTypes Tryz.prog.depth 26 = some tysSt := by kernel_rfl
theorem cellsOf_state : Tryz.prog.cellsOf 26 = 43 := by kernel_rfl
theorem cell_int {P : Program} {w : World} {r : Reach} {base : Nat} {t : TypeId} {k : IntKind} {v : Value} (ht : P.underlying t = some (.int k)) (h : Cell.okWide P w r base t v) : ∃ n, v = .int k n ∧ k.has n := by
  unfold Cell.okWide Cell.ok at h
  rw [ht] at h
  cases v <;> simp_all
theorem cell_bool {P : Program} {w : World} {r : Reach} {base : Nat} {t : TypeId} {v : Value} (ht : P.underlying t = some .bool) (h : Cell.okWide P w r base t v) : ∃ b, v = .bool b := by
  unfold Cell.okWide Cell.ok at h
  rw [ht] at h
  cases v <;> simp_all
set_option maxRecDepth 100000 in
theorem cell_u32 {w : World} {r : Reach} {base : Nat} {v : Value} (h : Cell.okWide Tryz.prog w r base 22 v) : ∃ n, v = .int .u32 n ∧ Cp.W n := by
  obtain ⟨n, h1, h2⟩ := cell_int Tryz.underlying22 h
  refine ⟨n, h1, ?_⟩
  unfold IntKind.has at h2
  have e1 : IntKind.u32.min = 0 := by decide
  have e2 : IntKind.u32.max = 4294967295 := by decide
  rw [e1, e2] at h2
  unfold Cp.W
  omega
def numAt (cs : List Value) (k : Nat) : Int := match cs[k]? with | some (.int _ n) => n | _ => 0
def boolAt (cs : List Value) (k : Nat) : Bool := match cs[k]? with | some (.bool b) => b | _ => false
def stOf (cs : List Value) : Cp.St := ⟨fun k => numAt cs k, numAt cs 32, numAt cs 33, numAt cs 34, numAt cs 35, boolAt cs 36, numAt cs 37, numAt cs 38, numAt cs 39, numAt cs 40, numAt cs 41, numAt cs 42⟩
set_option maxRecDepth 100000 in
theorem open_state {w : World} {r : Reach} {base : Nat} {v : Value} (h : Value.okWide Tryz.prog w r base 26 v) : ∃ s : Cp.St, v = .agg (stL s).toArray ∧ (0 ≤ s.count → s.count < 4611686018427387904 → Cp.Rng s) := by
  unfold Value.okWide at h
  rw [Tryz.underlying26] at h
  obtain ⟨⟨cs⟩, rfl, hsz, ts, hts, _, hall⟩ := h
  rw [cellTypes_state] at hts
  obtain rfl := Option.some.inj hts
  rw [cellsOf_state] at hsz
  have hl : cs.length = 43 := hsz
  have hc : ∀ k (hk : k < 43), ∃ u, tysSt[k]? = some u ∧ Cell.okWide Tryz.prog w r base u (cs[k]'(by omega)) := by
    intro k hk
    obtain ⟨u, h1, h2⟩ := hall k (cs[k]'(by omega)) (by simp [hl, hk])
    rw [show tysSt.length = 43 from rfl, Nat.mod_eq_of_lt hk] at h1
    exact ⟨u, h1, h2⟩
  have hu : ∀ k, k < 43 → k ≠ 36 → k ≠ 42 → cs[k]? = some (.int .u32 (numAt cs k)) ∧ Cp.W (numAt cs k) := by
    intro k hk h36 h42
    obtain ⟨u, h1, h2⟩ := hc k hk
    have : u = 22 := by
      have h3 : ∀ j : Fin 43, j.val ≠ 36 → j.val ≠ 42 → tysSt[j.val]? = some 22 := by decide
      have := h3 ⟨k, hk⟩ h36 h42
      rw [this] at h1
      exact (Option.some.inj h1).symm
    subst this
    obtain ⟨n, h3, h4⟩ := cell_u32 h2
    have h5 : cs[k]? = some (.int .u32 n) := by rw [List.getElem?_eq_getElem (by omega), h3]
    have h6 : numAt cs k = n := by unfold numAt; rw [h5]
    rw [h6]
    exact ⟨h5, h4⟩
  have h36 : cs[36]? = some (.bool (boolAt cs 36)) := by
    obtain ⟨u, h1, h2⟩ := hc 36 (by omega)
    obtain rfl : 4 = u := Option.some.inj h1
    obtain ⟨b, h3⟩ := cell_bool Tryz.underlying4 h2
    have h5 : cs[36]? = some (.bool b) := by rw [List.getElem?_eq_getElem (by omega), h3]
    have h6 : boolAt cs 36 = b := by unfold boolAt; rw [h5]
    rw [h6]
    exact h5
  have h42 : cs[42]? = some (.int .i64 (numAt cs 42)) := by
    obtain ⟨u, h1, h2⟩ := hc 42 (by omega)
    obtain rfl : 3 = u := Option.some.inj h1
    obtain ⟨n, h3, _⟩ := cell_int Tryz.underlying3 h2
    have h5 : cs[42]? = some (.int .i64 n) := by rw [List.getElem?_eq_getElem (by omega), h3]
    have h6 : numAt cs 42 = n := by unfold numAt; rw [h5]
    rw [h6]
    exact h5
  refine ⟨stOf cs, ?_, fun c1 c2 => ⟨fun k hk => (hu k (by omega) (by omega) (by omega)).2, (hu 32 (by omega) (by omega) (by omega)).2, (hu 33 (by omega) (by omega) (by omega)).2, (hu 34 (by omega) (by omega) (by omega)).2, (hu 35 (by omega) (by omega) (by omega)).2, (hu 37 (by omega) (by omega) (by omega)).2, (hu 38 (by omega) (by omega) (by omega)).2, (hu 39 (by omega) (by omega) (by omega)).2, (hu 40 (by omega) (by omega) (by omega)).2, (hu 41 (by omega) (by omega) (by omega)).2, c1, c2⟩⟩
  congr 2
  apply List.ext_getElem?
  intro i
  by_cases hi : i < 32
  · unfold stL
    rw [List.getElem?_append_left (by rw [regs_len]; exact hi), (hu i (by omega) (by omega) (by omega)).1]
    simp [regs, hi, stOf]
  · by_cases h43 : 43 ≤ i
    · rw [List.getElem?_eq_none (by omega), List.getElem?_eq_none (by rw [show (stL (stOf cs)).length = 43 by simp [stL, regs, restC]]; omega)]
    · unfold stL
      rw [List.getElem?_append_right (by rw [regs_len]; omega), regs_len]
      have hi2 : i = 32 ∨ i = 33 ∨ i = 34 ∨ i = 35 ∨ i = 36 ∨ i = 37 ∨ i = 38 ∨ i = 39 ∨ i = 40 ∨ i = 41 ∨ i = 42 := by omega
      rcases hi2 with rfl | rfl | rfl | rfl | rfl | rfl | rfl | rfl | rfl | rfl | rfl
      all_goals first
        | exact h36
        | exact h42
        | exact (hu _ (by decide) (by decide) (by decide)).1
end Go.Proofs.YtknhfobcejpmeaaGreatDoor

/- Frame -/
/- The frame of every law: what reads before the call reads so behind it, where nothing below the heap's old size has turned; how words that come in are opened. No program in sight but its tables. -/
namespace Go.Proofs.YtknhfobcejpmeaaGreatDoor
open Go.ChangeShapes Go.WideShapes Go.ChangeAt Go.RowKit
set_option linter.unusedVariables false

theorem trodAll_stays {H : Type} {enc : TypeId × Value → H} {P : Program} (hl : laidOutB P = true) {W W' : World} (hb : Below W.heap.size W W') :
    ∀ (ts : List TypeId) (vs : List Value) (ds : List (DataW H)) (ps : List MemPlace), (∀ t ∈ ts, P.readableRec t = true ∧ t < P.types.size) → (∀ x ∈ ps, x.block < W.heap.size) →
      DataW.TrodAll enc P W 0 (fun _ => true) true ts vs ds ps → DataW.TrodAll enc P W' 0 (fun b => decide (b < W.heap.size)) true ts vs ds ps
  | [], vs, ds, ps, _, _, h => by
    obtain ⟨rfl, rfl, rfl⟩ := trodAll_nil h
    exact trodAll_mk0
  | t :: ts, vs, ds, ps, hts, hlt, h => by
    obtain ⟨v, vs', d, ds', p, q, rfl, rfl, rfl, h0, r0⟩ := trodAll_cons h
    obtain ⟨h1, h2⟩ := hts t (by simp)
    exact trodAll_cons_mk (Below.trod hl h1 h2 h0 hb (fun x hx => hlt x (by simp [hx])))
      (trodAll_stays hl hb ts vs' ds' q (fun u hu => hts u (by simp [hu])) (fun x hx => hlt x (by simp [hx])) r0)

/-- a law's end: true, and its arguments as they were -/
theorem law_post {H : Type} {enc : TypeId × Value → H} {P : Program} {f : Func} {s : ChangeSpec} {W W' : World} {args : Array Value} {ds gs : List (DataW H)} {before : List MemPlace} {tb : TypeId}
    (hl : laidOutB P = true) (hts : ∀ t ∈ f.params.toList, P.readableRec t = true ∧ t < P.types.size) (hres : f.resultTypes = #[tb]) (htb : P.underlying tb = some .bool) (hv : s.vars = [])
    (hW : DataW.Whole enc P f.params.toList s.vars false W args.toList ds gs before) (hs : s.fn H (ds ++ gs) = { results := [.lit (.bool true)], args := ds }) (hb : Below W.heap.size W W') :
    s.post enc P f false true false false W args (.bool true) W' := by
  have hW' := hW
  obtain ⟨p, q, hA, hV, rfl, hfz, hnd⟩ := hW
  have hlt : ∀ x ∈ p ++ q, x.block < W.heap.size := fun x hx => hW'.lt x hx
  refine ⟨ds, gs, p ++ q, [], p, [], hW', ?_, ?_, ?_, hb.frame _, fun h => by cases h⟩
  · rw [hs, hres]; exact trodAll_mk1 (shut_bool htb true)
  · rw [hs]; exact trodAll_stays hl hb _ _ _ _ hts (fun x hx => hlt x (by simp [hx])) hA
  · rw [hs, hv]; rfl

/-- what is written of a word: it lies in its bounds -/
theorem rng_u32 {a : Int} (h : (Lit.int .u32 a).wf = true) : 0 ≤ a ∧ a < 4294967296 := by
  simp [Lit.wf, IntKind.min, IntKind.max, IntKind.signed, IntKind.bits] at h; omega

/-- WORDS THAT CAME IN, to be read -/
theorem open_words {H : Type} {enc : TypeId × Value → H} {P : Program} {W : World} {base : Nat} {ts te : TypeId} {v : Value} {d : DataW H} {ps : List MemPlace} (ht : P.underlying ts = some (.slice te)) (he : P.underlying te = some (.int .u32)) (hc : P.cellsOf te = 1)
    (hval : Value.okWide P W .any base ts v) (h : DataW.Trod enc P W 0 (fun _ => true) true ts v d ps) (hlt : ∀ x ∈ ps, x.block < W.heap.size) :
    ∃ (A : Option Addr) (len cap : Nat) (ws : Nat → Int), v = .slice A len cap ∧ Reads W A len cap (fun i => .int .u32 (ws i)) ∧ cap ≤ maxLen ∧ ∀ i, i < len → 0 ≤ ws i ∧ ws i < 4294967296 := by
  obtain ⟨a0, len, cap, rfl⟩ := okWide_slice ht hval
  obtain ⟨fuel, hf⟩ := h
  rcases open_ints ht he hc hf with ⟨hcs, hx⟩ | ⟨a, len', cap', zs, hcs, _, hl, hm, hz, hx, hcell, hwz⟩
  · simp [Value.cells] at hcs
    obtain ⟨rfl, rfl, rfl⟩ := hcs
    exact ⟨none, 0, 0, fun _ => 0, rfl, ⟨Nat.le_refl _, .inl rfl⟩, Nat.zero_le _, fun i hi => by omega⟩
  · simp [Value.cells] at hcs
    obtain ⟨rfl, rfl, rfl⟩ := hcs
    simp only [if_true] at hz
    obtain ⟨b, off, spot⟩ := a
    have hws : ∀ i, i < len → 0 ≤ zs.getD i 0 ∧ zs.getD i 0 < 4294967296 := by
      intro i hi
      have hlt : i < zs.length := by omega
      have e : zs.getD i 0 = zs[i] := by simp [List.getD, hlt]
      have hm := hwz zs[i] (List.getElem_mem _)
      rw [e]
      simp [Lit.wf, IntKind.min, IntKind.max, IntKind.signed, IntKind.bits] at hm
      omega
    by_cases h0 : cap = 0
    · exact ⟨some ⟨b, off, spot⟩, len, cap, fun _ => 0, rfl, ⟨hl, .inl h0⟩, hm, fun i hi => by omega⟩
    · have hspot : spot = none := by simpa [Addr.add] using World.cell?_spot (hcell 0 (by omega))
      subst hspot
      refine ⟨some ⟨b, off, none⟩, len, cap, fun i => zs.getD i 0, rfl, ⟨hl, .inr ⟨b, off, rfl, ?_, fun i hi => ?_⟩⟩, hm, hws⟩
      · have := World.block_lt_of_cell? W _ (hcell 0 (by omega))
        simpa [Addr.add] using this
      · have := hcell i (by omega)
        simpa [Addr.add_lit] using this
end Go.Proofs.YtknhfobcejpmeaaGreatDoor

/- Sent -/
/- What the row's list of errors gives the walks: each variable's cell. -/
namespace Go.Proofs.YtknhfobcejpmeaaGreatDoor
open Go.ChangeShapes Go.WideShapes Go.RowKit
set_option linter.unusedVariables false

theorem Tryz.own : ownKnob Tryz.prog.godebug = none := by kernel_rfl
theorem Tryz.laidOut : laidOutB Tryz.prog = true := by kernel_rfl
theorem Tryz.cells_str : Tryz.prog.cellsOf 9 = 1 := by kernel_rfl
theorem Tryz.cells_es : Tryz.prog.cellsOf 296 = 1 := by kernel_rfl
theorem Tryz.cells_u32 : Tryz.prog.cellsOf 22 = 1 := by kernel_rfl
theorem Tryz.rowES (u : TypeId) (h : Tryz.prog.typeName? 3 u = some "*errors.errorString") : u = 275 :=
  typeName_ptr_named (nm := "errors.errorString") (by kernel_rfl) (by kernel_rfl) (by decide) u h
theorem Tryz.gShape : Tryz.prog.globalNamed "changeling/api.ErrShape" = some 0 := by kernel_rfl
theorem Tryz.gAlign : Tryz.prog.globalNamed "changeling/api.ErrAlign" = some 1 := by kernel_rfl
theorem Tryz.gFar : Tryz.prog.globalNamed "changeling/api.ErrFar" = some 9 := by kernel_rfl
theorem Tryz.tShape : (Tryz.prog.globals[0]?).map (·.type) = some 37 := by kernel_rfl
theorem Tryz.tAlign : (Tryz.prog.globals[1]?).map (·.type) = some 37 := by kernel_rfl
theorem Tryz.tFar : (Tryz.prog.globals[9]?).map (·.type) = some 37 := by kernel_rfl

/-- one listed error: its variable's cell -/
theorem sentinel_cell {n : String} {text : List UInt8} {r : List (String × DataW Unit)} {W : World} {g : Nat}
    (h : laidMet Tryz.prog ((n, .iface "*errors.errorString" (.ptr (.agg [.lit (.string text)]))) :: r) W) (hg : Tryz.prog.globalNamed n = some g) (ht : (Tryz.prog.globals[g]?).map (·.type) = some 37) :
    ∃ a : Addr, W.cell? ⟨g, 0, none⟩ = some (.iface 275 (.pointer (some a))) := by
  obtain ⟨a, s, hv, _⟩ := laid_sentinel h hg ht Tryz.underlying37 Tryz.rowES Tryz.underlying275 Tryz.underlying296 rfl rfl Tryz.underlying9 Tryz.cells_es Tryz.cells_str
  exact ⟨a, by simpa using World.var?_cell hg hv 0⟩

theorem errs3 {W : World} (h : laidMetH Tryz.prog [("changeling/api.ErrShape", Rows.laid_changeling_api_ErrShape), ("changeling/api.ErrAlign", Rows.laid_changeling_api_ErrAlign), ("changeling/api.ErrFar", Rows.laid_changeling_api_ErrFar)] W) : ∃ ea, Errs3 W ea := by
  rw [MakeChecks.laidMetH_plain _ _ _ (by kernel_rfl)] at h
  obtain ⟨a3, h3⟩ := sentinel_cell h Tryz.gShape Tryz.tShape
  obtain ⟨a9, h9⟩ := sentinel_cell h.tail Tryz.gAlign Tryz.tAlign
  obtain ⟨a10, h10⟩ := sentinel_cell h.tail.tail Tryz.gFar Tryz.tFar
  exact ⟨fun c => if c = 3 then a3 else if c = 9 then a9 else a10, h3, h9, h10⟩
end Go.Proofs.YtknhfobcejpmeaaGreatDoor

/- OpenPlace -/
/- What an argument of type Place holds. -/
namespace Go.Proofs.YtknhfobcejpmeaaGreatDoor
open Go.ChangeShapes Go.WideShapes Go.ChangeAt Go.RowKit Go.Deep
set_option linter.unusedVariables false

theorem cellTypes_place : Tryz.prog.cellTypes Tryz.prog.depth 29 = some (tysSt ++ [27, 3]) := by kernel_rfl
theorem cellsOf_place : Tryz.prog.cellsOf 29 = 45 := by kernel_rfl
theorem cellsOf_words : Tryz.prog.cellsOf 27 = 1 := by kernel_rfl
theorem fields_place : ∃ fs, Tryz.prog.underlying 29 = some (.struct fs) ∧ (fs[1]?).map (fun f => (f.type, f.offset)) = some (27, 43) :=
  ⟨_, Tryz.underlying29, by kernel_rfl⟩
theorem tysSt_len : tysSt.length = 43 := rfl
set_option maxRecDepth 100000 in
theorem open_place {H : Type} {enc : TypeId × Value → H} {W : World} {base : Nat} {v : Value} {d : DataW H} {ps : List MemPlace}
    (hval : Value.okWide Tryz.prog W .any base 29 v) (h : DataW.Trod enc Tryz.prog W 0 (fun _ => true) true 29 v d ps) (hlt : ∀ x ∈ ps, x.block < W.heap.size) :
    ∃ (s : Cp.St) (A : Option Addr) (n cap : Nat) (page : Int) (ws : Nat → Int), v = .agg (placeL s A n cap page).toArray ∧ Reads W A n cap (fun i => .int .u32 (ws i)) ∧ cap ≤ 9223372036854775807 ∧ (∀ i, i < n → 0 ≤ ws i ∧ ws i < 4294967296) ∧ (0 ≤ s.count → s.count < 4611686018427387904 → Cp.Rng s) := by
  obtain ⟨fs, hfs, hf1⟩ := fields_place
  unfold Value.okWide at hval
  rw [hfs] at hval
  obtain ⟨⟨cs⟩, rfl, hsz, ts, hts, hne, hall⟩ := hval
  rw [cellTypes_place] at hts
  obtain rfl := Option.some.inj hts
  rw [cellsOf_place] at hsz
  have hl : cs.length = 45 := hsz
  have hS : Value.okWide Tryz.prog W .any base 26 (.agg (cs.take 43).toArray) := by
    unfold Value.okWide
    rw [Tryz.underlying26]
    refine ⟨_, rfl, by rw [cellsOf_state, List.size_toArray, List.length_take]; omega, tysSt, cellTypes_state, ⟨1, by rw [tysSt_len, List.size_toArray, List.length_take]; omega⟩, fun k c hk => ?_⟩
    have hk' : (cs.take 43)[k]? = some c := by simpa using hk
    have hk43 : k < 43 := by
      have := (List.getElem?_eq_some_iff.1 hk').1
      rw [List.length_take] at this
      omega
    rw [List.getElem?_take, if_pos hk43] at hk'
    obtain ⟨u, h1, h2⟩ := hall k c (by simpa using hk')
    have e1 : (tysSt ++ [27, 3]).length = 45 := rfl
    have e2 : k % 45 = k := Nat.mod_eq_of_lt (by omega)
    rw [e1, e2, List.getElem?_append_left (by rw [tysSt_len]; exact hk43)] at h1
    exact ⟨u, by rw [tysSt_len, Nat.mod_eq_of_lt hk43]; exact h1, h2⟩
  obtain ⟨s, hs, hrng⟩ := open_state hS
  have hs' : cs.take 43 = stL s := by
    injection hs with hs
    have := congrArg Array.toList hs
    simpa using this
  obtain ⟨u43, h1, h2⟩ := hall 43 (cs[43]'(by omega)) (by simp [hl])
  obtain rfl : 27 = u43 := Option.some.inj h1
  obtain ⟨u44, h3, h4⟩ := hall 44 (cs[44]'(by omega)) (by simp [hl])
  obtain rfl : 3 = u44 := Option.some.inj h3
  obtain ⟨page, hp, _⟩ := cell_int Tryz.underlying3 h4
  obtain ⟨fuel, hf⟩ := h
  obtain ⟨xs, n, _, hx, _, hxn, hg⟩ := DataW.trod_struct hfs hf
  obtain ⟨f, hfe, hft⟩ := Option.map_eq_some_iff.1 hf1
  have h5 := hg 1 f hfe
  injection hft with e1 e2
  rw [e1, e2, cellsOf_words] at h5
  have h6 : (cs.drop 43).take 1 = [cs[43]'(by omega)] := by
    rw [List.drop_eq_getElem_cons (by omega)]
    rfl
  have hcs : cs = stL s ++ [cs[43]'(by omega), cs[44]'(by omega)] := by
    rw [← hs']
    apply List.ext_getElem?
    intro k
    by_cases h43 : k < 43
    · rw [List.getElem?_append_left (by rw [List.length_take]; omega), List.getElem?_take, if_pos h43]
    · rw [List.getElem?_append_right (by rw [List.length_take]; omega), List.length_take, show min 43 cs.length = 43 by omega]
      by_cases h44 : k = 43
      · subst h44
        rw [List.getElem?_eq_getElem (by omega)]
        rfl
      · by_cases h45 : k = 44
        · subst h45
          rw [List.getElem?_eq_getElem (by omega)]
          rfl
        · rw [List.getElem?_eq_none (by omega), List.getElem?_eq_none (by simp; omega)]
  generalize cs[43]'(by omega) = c43 at *
  generalize cs[44]'(by omega) = c44 at *
  subst hp
  have hval43 : Value.okWide Tryz.prog W .any base 27 c43 := by
    unfold Value.okWide
    rw [Tryz.underlying27]
    exact h2
  obtain ⟨a0, l0, k0, rfl⟩ := okWide_slice Tryz.underlying27 hval43
  change DataW.trod enc Tryz.prog W 0 (fun _ => true) true n 27 ((cs.drop 43).take 1) = xs[1]? at h5
  rw [h6] at h5
  have hx1 : 1 < xs.length := by
    have := (Array.getElem?_eq_some_iff.1 hfe).1
    omega
  rw [List.getElem?_eq_getElem hx1] at h5
  have hps : ∀ y ∈ (xs[1]).2, y.block < W.heap.size := fun y hy => hlt y (by
    injection hx with _ hx
    rw [hx]
    exact List.mem_flatMap.2 ⟨_, List.getElem_mem hx1, hy⟩)
  obtain ⟨A, len, cap, ws, hv, hR, hcm, hr⟩ := open_words (d := (xs[1]).1) (ps := (xs[1]).2) Tryz.underlying27 Tryz.underlying22 Tryz.cells_u32 hval43 ⟨n, h5⟩ hps
  rw [hv] at hcs
  refine ⟨s, A, len, cap, page, ws, ?_, hR, by unfold maxLen at hcm; omega, hr, hrng⟩
  rw [hcs]
  rfl
end Go.Proofs.YtknhfobcejpmeaaGreatDoor
