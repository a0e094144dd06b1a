import Derived.Test.YtgmbladcoikffaaGreatDoorIrug
import Derived.Test.YtgmbladcoikffaaGreatDoorIru7
import Derived.Test.YtgmbladcoikffaaGreatDoorIru9
import Derived.Test.YtgmbladcoikffaaGreatDoorIru8
import Derived.Test.YtgmbladcoikffaaGreatDoorIru2

/- OptEndsE -/
/- The walk of the law OptEnds. Printed by gen/optends.py. -/
namespace Go.Proofs.YtgmbladcoikffaaGreatDoor
open Go.RowKit Go.Deep
set_option linter.unusedVariables false
set_option linter.unusedSimpArgs false

set_option maxHeartbeats 16000000 in
set_option maxRecDepth 100000 in
theorem optEnds_e1 (pc many level : Int) (A : Option Addr) (n cap : Nat) (l : List Ir.Op) (s : Cp.St) (PA : Option Addr) (pn pcap : Nat) (page : Int) (ws : Nat → Int) (w : World) (ea : Nat → Addr) (E : ErrsAll w ea) (V : OpsAt w A n cap l) (hc : cap ≤ 9223372036854775807) (hok : ∀ o ∈ l, OpOk o)
    (hR : Reads w PA pn pcap (fun i => .int .u32 (ws i))) (hpc : pcap ≤ 9223372036854775807) (hr : ∀ i, i < pn → 0 ≤ ws i ∧ ws i < 4294967296) (hrng : 0 ≤ s.count → s.count < 4611686018427387904 → Cp.Rng s) (hp : 0 ≤ pc ∧ pc < 4294967296) (hfz : (Ir.fault many l).1 ≠ 0) :
    Calls Tryz.prog 4 #[.int .u32 pc, .int .i64 many, .slice A n cap, .int .i64 level, .agg (placeL s PA pn pcap page).toArray] w fun e w' => e = .returned (.bool true) ∧ Keeps (fun _ => False) w w' := by
  have HE := Lib.hid E
  have HV := Lib.hid V
  have HL := Lib.hid V.len
  have HOK := Lib.hid hok
  have HRD := Lib.hid hR
  have HRR := Lib.hid hr
  have HRNG := Lib.hid hrng
  have HP := Lib.hid hp
  have hnc := V.le
  have HN := Lib.hid (PlaceAt.new w s PA pn pcap page)
  have HK := Lib.hid ((Keeps.refl (fun _ => False) w).alloc (.cells (placeL s PA pn pcap page).toArray 29))
  have HFS := Lib.hid (fault_small many l)
  have HCF := Lib.hid (fun w V => codeFault_any many A n cap l w V hc)
  obtain ⟨fa, hfa⟩ : ∃ f, Ir.fault many l = f := ⟨_, rfl⟩
  rw [hfa] at HFS HCF
  have HFA := Lib.hid hfa
  obtain ⟨fc, fat⟩ := fa
  have hfc0 : fc ≠ 0 := by have := hfz; rw [hfa] at this; exact this
  have hft : ((fc : Int) == 0) = false := by simp; omega
  have HFC0 := Lib.hid hfc0
  have HOF := Lib.hid (show Ir.optFault many l level = (fc, fat) by
    unfold Ir.optFault
    rw [hfa, if_pos hfc0])
  have HOF0 := Lib.hid (show (Ir.optFault many l level).1 ≠ 0 by rw [HOF.out]; exact hfc0)
  clear hfc0 hfz
  clear E V hok hR hr hrng hp hfa
  go_enter Tryz.func4, Tryz.ntmps4
  go_upto_region 1 with fail
  have HP1 := Lib.hid HN.out
  have HK1 := Lib.hid HK.out
  clear HN HK
  generalize w.alloc _ = w1 at *
  obtain ⟨x, hx⟩ : ∃ x, w.heap.size = x := ⟨_, rfl⟩
  rw [hx] at HP1 ⊢
  have HX := Lib.hid hx
  clear hx
  go_wp2_with fail
  refine (bettered_any w1 ea (HE.out.quiet HK1.out).toC).mono ?_
  rintro e w2 ⟨rfl, hk2⟩
  have HP2 := Lib.hid (HP1.out.keep hk2 (fun h => h))
  have HK2 := Lib.hid (HK1.out.trans hk2 (fun _ _ h => h))
  clear hk2
  go_wp2_with fail
  refine (longOps40_any A n cap l w2 (HV.out.quiet HK2.out) hc).mono ?_
  rintro e w3 ⟨r, rfl, hr, hk3⟩
  have HP3 := Lib.hid (HP2.out.keep hk3 (fun h => h))
  have HK3 := Lib.hid (HK2.out.trans hk3 (fun _ _ h => h))
  clear hk3
  rcases hr with rfl | ⟨rfl, hn⟩
  · go_wp2_with fail
    go_ret
    exact ⟨rfl, HK3.out⟩
  go_wp2_with (refine wpList_load_place _ rfl x s PA pn pcap page HP3.out rfl (by first | rfl | decide) ?_)
  refine (longPlace_any s PA pn pcap page w3).mono ?_
  rintro e w4 ⟨b, rfl, hb, hk4⟩
  have HP4 := Lib.hid (HP3.out.keep hk4 (fun h => h))
  have HK4 := Lib.hid (HK3.out.trans hk4 (fun _ _ h => h))
  clear hk4
  cases b
  case true =>
    go_wp2_with fail
    go_ret
    exact ⟨rfl, HK4.out⟩
  obtain ⟨hpn, hc0, hc1⟩ := hb rfl
  clear hb
  have HSPR := Lib.hid (placedA_rng (HRNG.out hc0 (by omega)) pc HP.out false)
  have HSPC := Lib.hid (show (Ir.placedA s pc false).count ≤ 1099511627776 ∧ (Ir.placedA s pc false).R 0 = 0 from ⟨hc1, rfl⟩)
  have HOW := Lib.hid (ownOps_any A n cap l w4 (HV.out.quiet HK4.out) (by omega))
  go_wp2_with fail
  refine HOW.out.mono ?_
  rintro e w5 ⟨v, rfl, ⟨A3, cap3, rfl, ho3⟩, hk5⟩
  have HO5 := Lib.hid (OpsAt.of_owns ho3 rfl)
  have HCAP := owns_cap ho3
  have HK5 := Lib.hid (HK4.out.trans hk5 (fun _ _ h => h))
  have HP5 := Lib.hid (HP4.out.keep hk5 (fun h => h))
  have HOP := Lib.hid (Opt_any pc many level A3 l.length cap3 l w5 ea (HE.out.quiet HK5.out).toC HO5.out HCAP HOK.out)
  clear hk5 ho3 HOW HP1 HP2 HP3 HP4
  go_wp2_with fail
  refine HOP.out.mono ?_
  rintro e w6 ⟨⟨cv, ev, rfl, hv6⟩, hk6⟩
  obtain ⟨hfv, hcv⟩ : FaultIs w6 ea (Ir.optFault many l level) ev ∧ cv = .agg #[.int .u32 0, .int .i64 0, .slice none 0 0] := by
    refine ⟨hv6.1, ?_⟩
    rcases hv6.2 with h | h
    · exact h.2
    · exact absurd h.1 HOF0.out
  subst hcv
  skip
  have hka := (Keeps.refl (fun _ => False) w6).alloc (.cells #[.int .u32 0, .int .i64 0, .slice none 0 0] 35)
  have hkb := hk6.trans hka (fun _ _ h => h)
  have HB7 := Lib.hid (CodeBox.new w6 0 0 none 0 0)
  have HFV7 := Lib.hid (hfv.keep hka)
  have HK7 := Lib.hid (HK5.out.trans hkb (fun _ _ h => h))
  clear hv6 hk6 hka hkb hfv
  go_upto_region 5 with fail
  generalize w6.alloc _ = w7 at *
  generalize w6.heap.size = cb at *
  go_wp2_with fail
  refine (HCF.out w7 (HV.out.quiet HK7.out)).mono ?_
  rintro e w8 ⟨rfl, hk8⟩
  unfold faultV
  dsimp only
  have hka := (Keeps.refl (fun _ => False) w8).alloc (.cells #[.int .i64 fc, .int .i64 fat] 37)
  have hkb := hk8.trans hka (fun _ _ h => h)
  have HF9 := Lib.hid (FaultBox.new w8 fc fat)
  have HK9 := Lib.hid (HK7.out.trans hkb (fun _ _ h => h))
  have HB9 := Lib.hid (HB7.out.keep hkb (fun h => h))
  have HFV9 := Lib.hid (HFV7.out.keep hkb)
  have HWB := Lib.hid (show w.heap.size ≤ w8.heap.size ∧ cb < w8.heap.size ∧ (∀ b, ev = .iface 93 (.pointer (some ⟨b, 0, none⟩)) → FaultIs w8 ea (Ir.optFault many l level) ev) from ⟨Nat.le_trans HK7.out.size hk8.size, Nat.lt_of_lt_of_le HB7.out.lt hk8.size, fun b hb => HFV7.out.keep hk8⟩)
  have HFV8 := Lib.hid (HFV7.out.keep hk8)
  clear hk8 hka hkb
  go_upto_region 6 with fail
  generalize w8.alloc _ = w9 at *
  obtain ⟨fb, hfb⟩ : ∃ b, w8.heap.size = b := ⟨_, rfl⟩
  rw [hfb] at HF9 HWB ⊢
  have HFBE := Lib.hid hfb
  clear hfb
  obtain ⟨y0, y1, g0, g1⟩ := HF9.out.cells
  go_upto_region 8 with fail
  clear y0 y1 g0 g1
  have HF11 := Lib.hid HF9.out
  have HB11 := Lib.hid HB9.out
  have HK11 := Lib.hid HK9.out
  have HFV11 := Lib.hid HFV9.out
  generalize w9 = w11 at *
  obtain ⟨cc, hcc⟩ : ∃ c, fc = c := ⟨_, rfl⟩
  obtain ⟨aa, haa⟩ : ∃ c, fat = c := ⟨_, rfl⟩
  rw [hcc, haa] at HF11
  have HCC := Lib.hid (show 1 ≤ cc ∧ cc ≤ 10 by rw [← hcc]; have h1 : fc = 0 ∨ (1 ≤ fc ∧ fc ≤ 10) := HFS.out; have h2 := HFC0.out; omega)
  have HFSS := Lib.hid (show (cc, aa).1 = 0 ∨ (1 ≤ (cc, aa).1 ∧ (cc, aa).1 ≤ 10) from .inr HCC.out)
  rw [show Ir.optFault many l level = (cc, aa) by rw [HOF.out, ← hcc, ← haa]] at HFV11
  clear hcc haa
  have hgt : decide (0 < cc) = true := decide_eq_true (by have := HCC.out; omega)
  obtain ⟨y0, y1, _, _⟩ := HF11.out.cells
  have HFT := Lib.hid (faulted_any (cc, aa) HFSS.out ev w11 ea (HE.out.quiet HK11.out) HFV11.out)
  unfold faultV at HFT
  dsimp only at HFT
  go_wp2_with fail
  refine HFT.out.mono ?_
  rintro e w12 ⟨rfl, hk12⟩
  obtain ⟨d0, d1, d2, _⟩ := (HB11.out.keep hk12 (fun h => h)).cells
  have HK12 := Lib.hid (HK11.out.trans hk12 (fun _ _ h => h))
  clear hk12 y0 y1
  go_wp2_with fail
  go_ret
  exact ⟨by first | rfl | go_simp, HK12.out⟩
set_option maxHeartbeats 16000000 in
set_option maxRecDepth 100000 in
theorem optEnds_e2 (pc many level : Int) (A : Option Addr) (n cap : Nat) (l : List Ir.Op) (s : Cp.St) (PA : Option Addr) (pn pcap : Nat) (page : Int) (ws : Nat → Int) (w : World) (ea : Nat → Addr) (E : ErrsAll w ea) (V : OpsAt w A n cap l) (hc : cap ≤ 9223372036854775807) (hok : ∀ o ∈ l, OpOk o)
    (hR : Reads w PA pn pcap (fun i => .int .u32 (ws i))) (hpc : pcap ≤ 9223372036854775807) (hr : ∀ i, i < pn → 0 ≤ ws i ∧ ws i < 4294967296) (hrng : 0 ≤ s.count → s.count < 4611686018427387904 → Cp.Rng s) (hp : 0 ≤ pc ∧ pc < 4294967296) (hfz : (Ir.fault many l).1 = 0) (hlv : level < 0) :
    Calls Tryz.prog 4 #[.int .u32 pc, .int .i64 many, .slice A n cap, .int .i64 level, .agg (placeL s PA pn pcap page).toArray] w fun e w' => e = .returned (.bool true) ∧ Keeps (fun _ => False) w w' := by
  have HE := Lib.hid E
  have HV := Lib.hid V
  have HL := Lib.hid V.len
  have HOK := Lib.hid hok
  have HRD := Lib.hid hR
  have HRR := Lib.hid hr
  have HRNG := Lib.hid hrng
  have HP := Lib.hid hp
  have hnc := V.le
  have HN := Lib.hid (PlaceAt.new w s PA pn pcap page)
  have HK := Lib.hid ((Keeps.refl (fun _ => False) w).alloc (.cells (placeL s PA pn pcap page).toArray 29))
  have HFS := Lib.hid (fault_small many l)
  have HCF := Lib.hid (fun w V => codeFault_any many A n cap l w V hc)
  obtain ⟨fa, hfa⟩ : ∃ f, Ir.fault many l = f := ⟨_, rfl⟩
  rw [hfa] at HFS HCF
  have HFA := Lib.hid hfa
  obtain ⟨fc, fat⟩ := fa
  have hfc0 : fc = 0 := by have := hfz; rw [hfa] at this; exact this
  have hft : ((fc : Int) == 0) = true := by simp; omega
  have HOF := Lib.hid (show Ir.optFault many l level = (2, -1) by
    unfold Ir.optFault
    rw [hfa, if_neg (by show ¬ (fc ≠ 0); omega), if_pos (by omega)])
  have HOF0 := Lib.hid (show (Ir.optFault many l level).1 ≠ 0 by rw [HOF.out]; decide)
  have HFC0 := Lib.hid hfc0
  have hl1 : decide (level < 0) = true := decide_eq_true hlv
  have hl2 : decide (2 < level) = false := decide_eq_false (by omega)
  clear hfc0 hfz
  clear E V hok hR hr hrng hp hfa
  go_enter Tryz.func4, Tryz.ntmps4
  go_upto_region 1 with fail
  have HP1 := Lib.hid HN.out
  have HK1 := Lib.hid HK.out
  clear HN HK
  generalize w.alloc _ = w1 at *
  obtain ⟨x, hx⟩ : ∃ x, w.heap.size = x := ⟨_, rfl⟩
  rw [hx] at HP1 ⊢
  have HX := Lib.hid hx
  clear hx
  go_wp2_with fail
  refine (bettered_any w1 ea (HE.out.quiet HK1.out).toC).mono ?_
  rintro e w2 ⟨rfl, hk2⟩
  have HP2 := Lib.hid (HP1.out.keep hk2 (fun h => h))
  have HK2 := Lib.hid (HK1.out.trans hk2 (fun _ _ h => h))
  clear hk2
  go_wp2_with fail
  refine (longOps40_any A n cap l w2 (HV.out.quiet HK2.out) hc).mono ?_
  rintro e w3 ⟨r, rfl, hr, hk3⟩
  have HP3 := Lib.hid (HP2.out.keep hk3 (fun h => h))
  have HK3 := Lib.hid (HK2.out.trans hk3 (fun _ _ h => h))
  clear hk3
  rcases hr with rfl | ⟨rfl, hn⟩
  · go_wp2_with fail
    go_ret
    exact ⟨rfl, HK3.out⟩
  go_wp2_with (refine wpList_load_place _ rfl x s PA pn pcap page HP3.out rfl (by first | rfl | decide) ?_)
  refine (longPlace_any s PA pn pcap page w3).mono ?_
  rintro e w4 ⟨b, rfl, hb, hk4⟩
  have HP4 := Lib.hid (HP3.out.keep hk4 (fun h => h))
  have HK4 := Lib.hid (HK3.out.trans hk4 (fun _ _ h => h))
  clear hk4
  cases b
  case true =>
    go_wp2_with fail
    go_ret
    exact ⟨rfl, HK4.out⟩
  obtain ⟨hpn, hc0, hc1⟩ := hb rfl
  clear hb
  have HSPR := Lib.hid (placedA_rng (HRNG.out hc0 (by omega)) pc HP.out false)
  have HSPC := Lib.hid (show (Ir.placedA s pc false).count ≤ 1099511627776 ∧ (Ir.placedA s pc false).R 0 = 0 from ⟨hc1, rfl⟩)
  have HOW := Lib.hid (ownOps_any A n cap l w4 (HV.out.quiet HK4.out) (by omega))
  go_wp2_with fail
  refine HOW.out.mono ?_
  rintro e w5 ⟨v, rfl, ⟨A3, cap3, rfl, ho3⟩, hk5⟩
  have HO5 := Lib.hid (OpsAt.of_owns ho3 rfl)
  have HCAP := owns_cap ho3
  have HK5 := Lib.hid (HK4.out.trans hk5 (fun _ _ h => h))
  have HP5 := Lib.hid (HP4.out.keep hk5 (fun h => h))
  have HOP := Lib.hid (Opt_any pc many level A3 l.length cap3 l w5 ea (HE.out.quiet HK5.out).toC HO5.out HCAP HOK.out)
  clear hk5 ho3 HOW HP1 HP2 HP3 HP4
  go_wp2_with fail
  refine HOP.out.mono ?_
  rintro e w6 ⟨⟨cv, ev, rfl, hv6⟩, hk6⟩
  obtain ⟨hfv, hcv⟩ : FaultIs w6 ea (Ir.optFault many l level) ev ∧ cv = .agg #[.int .u32 0, .int .i64 0, .slice none 0 0] := by
    refine ⟨hv6.1, ?_⟩
    rcases hv6.2 with h | h
    · exact h.2
    · exact absurd h.1 HOF0.out
  subst hcv
  skip
  have hka := (Keeps.refl (fun _ => False) w6).alloc (.cells #[.int .u32 0, .int .i64 0, .slice none 0 0] 35)
  have hkb := hk6.trans hka (fun _ _ h => h)
  have HB7 := Lib.hid (CodeBox.new w6 0 0 none 0 0)
  have HFV7 := Lib.hid (hfv.keep hka)
  have HK7 := Lib.hid (HK5.out.trans hkb (fun _ _ h => h))
  clear hv6 hk6 hka hkb hfv
  go_upto_region 5 with fail
  generalize w6.alloc _ = w7 at *
  generalize w6.heap.size = cb at *
  go_wp2_with fail
  refine (HCF.out w7 (HV.out.quiet HK7.out)).mono ?_
  rintro e w8 ⟨rfl, hk8⟩
  unfold faultV
  dsimp only
  have hka := (Keeps.refl (fun _ => False) w8).alloc (.cells #[.int .i64 fc, .int .i64 fat] 37)
  have hkb := hk8.trans hka (fun _ _ h => h)
  have HF9 := Lib.hid (FaultBox.new w8 fc fat)
  have HK9 := Lib.hid (HK7.out.trans hkb (fun _ _ h => h))
  have HB9 := Lib.hid (HB7.out.keep hkb (fun h => h))
  have HFV9 := Lib.hid (HFV7.out.keep hkb)
  have HWB := Lib.hid (show w.heap.size ≤ w8.heap.size ∧ cb < w8.heap.size ∧ (∀ b, ev = .iface 93 (.pointer (some ⟨b, 0, none⟩)) → FaultIs w8 ea (Ir.optFault many l level) ev) from ⟨Nat.le_trans HK7.out.size hk8.size, Nat.lt_of_lt_of_le HB7.out.lt hk8.size, fun b hb => HFV7.out.keep hk8⟩)
  have HFV8 := Lib.hid (HFV7.out.keep hk8)
  clear hk8 hka hkb
  go_upto_region 6 with fail
  generalize w8.alloc _ = w9 at *
  obtain ⟨fb, hfb⟩ : ∃ b, w8.heap.size = b := ⟨_, rfl⟩
  rw [hfb] at HF9 HWB ⊢
  have HFBE := Lib.hid hfb
  clear hfb
  obtain ⟨y0, y1, g0, g1⟩ := HF9.out.cells
  go_upto_region 7 with fail
  go_wp2_with fail
  refine (faultBare_any 2 w9).mono ?_
  rintro e w10 ⟨rfl, hk10⟩
  have HF10 := Lib.hid (HF9.out.keep hk10 (fun h => h))
  unfold faultV
  dsimp only
  clear y0 y1 g0 g1
  obtain ⟨y0, y1, g0, g1⟩ := HF10.out.cells
  have hz := HF10.out.put (c' := 2) (a' := -1)
  have hz1 : FaultBox ((w10.setCell ⟨fb, 0, none⟩ (.int .i64 2)).setCell ⟨fb, 1, none⟩ (.int .i64 (-1))) fb 2 (-1) := hz.1
  have hz2 : Keeps (· = fb) w10 ((w10.setCell ⟨fb, 0, none⟩ (.int .i64 2)).setCell ⟨fb, 1, none⟩ (.int .i64 (-1))) := hz.2
  have HK11 := Lib.hid ((HK9.out.trans hk10 (fun _ _ h => h)).trans hz2 (fun b hb e => by have e : b = fb := e; have := HWB.out.1; omega))
  have HB11 := Lib.hid ((HB9.out.keep hk10 (fun h => h)).keep hz2 (fun e => by have e : cb = fb := e; have := HWB.out.2.1; omega))
  have hfv2 : ev = errV ea 2 := by
    rcases HFV9.out with h | h | h
    · exact absurd h.1 HOF0.out
    · rw [HOF.out] at h; exact h.2.2
    · exact absurd (by rw [HOF.out]) h.2.1
  have HF11 := Lib.hid (show ∃ cc : Nat, FaultBox ((w10.setCell ⟨fb, 0, none⟩ (.int .i64 2)).setCell ⟨fb, 1, none⟩ (.int .i64 (-1))) fb cc (-1) ∧ cc = 2 from ⟨2, hz1, rfl⟩)
  clear hz hz1 hz2 hk10
  go_upto_region 8 with fail
  clear y0 y1 g0 g1
  generalize World.setCell (World.setCell w10 _ _) _ _ = w11 at *
  obtain ⟨cc, hF11, hcc⟩ := HF11.out
  clear HF11
  have HF11 := Lib.hid hF11
  have HC2 := Lib.hid hcc
  clear hF11 hcc
  obtain ⟨aa, haa⟩ : ∃ a : Int, a = -1 := ⟨_, rfl⟩
  rw [← haa] at HF11
  have HCC := Lib.hid (show 1 ≤ cc ∧ cc ≤ 10 by have := HC2.out; omega)
  have HFSS := Lib.hid (show (cc, aa).1 = 0 ∨ (1 ≤ (cc, aa).1 ∧ (cc, aa).1 ≤ 10) from .inr HCC.out)
  have HFV11 := Lib.hid (show FaultIs w11 ea (cc, aa) ev from .inr (.inl ⟨by show cc ≠ 0; have := HC2.out; omega, haa, by rw [hfv2, HC2.out]⟩))
  clear haa hfv2
  have hgt : decide (0 < cc) = true := decide_eq_true (by have := HCC.out; omega)
  obtain ⟨y0, y1, _, _⟩ := HF11.out.cells
  have HFT := Lib.hid (faulted_any (cc, aa) HFSS.out ev w11 ea (HE.out.quiet HK11.out) HFV11.out)
  unfold faultV at HFT
  dsimp only at HFT
  go_wp2_with fail
  refine HFT.out.mono ?_
  rintro e w12 ⟨rfl, hk12⟩
  obtain ⟨d0, d1, d2, _⟩ := (HB11.out.keep hk12 (fun h => h)).cells
  have HK12 := Lib.hid (HK11.out.trans hk12 (fun _ _ h => h))
  clear hk12 y0 y1
  go_wp2_with fail
  go_ret
  exact ⟨by first | rfl | go_simp, HK12.out⟩
set_option maxHeartbeats 16000000 in
set_option maxRecDepth 100000 in
theorem optEnds_e3 (pc many level : Int) (A : Option Addr) (n cap : Nat) (l : List Ir.Op) (s : Cp.St) (PA : Option Addr) (pn pcap : Nat) (page : Int) (ws : Nat → Int) (w : World) (ea : Nat → Addr) (E : ErrsAll w ea) (V : OpsAt w A n cap l) (hc : cap ≤ 9223372036854775807) (hok : ∀ o ∈ l, OpOk o)
    (hR : Reads w PA pn pcap (fun i => .int .u32 (ws i))) (hpc : pcap ≤ 9223372036854775807) (hr : ∀ i, i < pn → 0 ≤ ws i ∧ ws i < 4294967296) (hrng : 0 ≤ s.count → s.count < 4611686018427387904 → Cp.Rng s) (hp : 0 ≤ pc ∧ pc < 4294967296) (hfz : (Ir.fault many l).1 = 0) (hlv : 2 < level) :
    Calls Tryz.prog 4 #[.int .u32 pc, .int .i64 many, .slice A n cap, .int .i64 level, .agg (placeL s PA pn pcap page).toArray] w fun e w' => e = .returned (.bool true) ∧ Keeps (fun _ => False) w w' := by
  have HE := Lib.hid E
  have HV := Lib.hid V
  have HL := Lib.hid V.len
  have HOK := Lib.hid hok
  have HRD := Lib.hid hR
  have HRR := Lib.hid hr
  have HRNG := Lib.hid hrng
  have HP := Lib.hid hp
  have hnc := V.le
  have HN := Lib.hid (PlaceAt.new w s PA pn pcap page)
  have HK := Lib.hid ((Keeps.refl (fun _ => False) w).alloc (.cells (placeL s PA pn pcap page).toArray 29))
  have HFS := Lib.hid (fault_small many l)
  have HCF := Lib.hid (fun w V => codeFault_any many A n cap l w V hc)
  obtain ⟨fa, hfa⟩ : ∃ f, Ir.fault many l = f := ⟨_, rfl⟩
  rw [hfa] at HFS HCF
  have HFA := Lib.hid hfa
  obtain ⟨fc, fat⟩ := fa
  have hfc0 : fc = 0 := by have := hfz; rw [hfa] at this; exact this
  have hft : ((fc : Int) == 0) = true := by simp; omega
  have HOF := Lib.hid (show Ir.optFault many l level = (2, -1) by
    unfold Ir.optFault
    rw [hfa, if_neg (by show ¬ (fc ≠ 0); omega), if_pos (by omega)])
  have HOF0 := Lib.hid (show (Ir.optFault many l level).1 ≠ 0 by rw [HOF.out]; decide)
  have HFC0 := Lib.hid hfc0
  have hl1 : decide (level < 0) = false := decide_eq_false (by omega)
  have hl2 : decide (2 < level) = true := decide_eq_true hlv
  clear hfc0 hfz
  clear E V hok hR hr hrng hp hfa
  go_enter Tryz.func4, Tryz.ntmps4
  go_upto_region 1 with fail
  have HP1 := Lib.hid HN.out
  have HK1 := Lib.hid HK.out
  clear HN HK
  generalize w.alloc _ = w1 at *
  obtain ⟨x, hx⟩ : ∃ x, w.heap.size = x := ⟨_, rfl⟩
  rw [hx] at HP1 ⊢
  have HX := Lib.hid hx
  clear hx
  go_wp2_with fail
  refine (bettered_any w1 ea (HE.out.quiet HK1.out).toC).mono ?_
  rintro e w2 ⟨rfl, hk2⟩
  have HP2 := Lib.hid (HP1.out.keep hk2 (fun h => h))
  have HK2 := Lib.hid (HK1.out.trans hk2 (fun _ _ h => h))
  clear hk2
  go_wp2_with fail
  refine (longOps40_any A n cap l w2 (HV.out.quiet HK2.out) hc).mono ?_
  rintro e w3 ⟨r, rfl, hr, hk3⟩
  have HP3 := Lib.hid (HP2.out.keep hk3 (fun h => h))
  have HK3 := Lib.hid (HK2.out.trans hk3 (fun _ _ h => h))
  clear hk3
  rcases hr with rfl | ⟨rfl, hn⟩
  · go_wp2_with fail
    go_ret
    exact ⟨rfl, HK3.out⟩
  go_wp2_with (refine wpList_load_place _ rfl x s PA pn pcap page HP3.out rfl (by first | rfl | decide) ?_)
  refine (longPlace_any s PA pn pcap page w3).mono ?_
  rintro e w4 ⟨b, rfl, hb, hk4⟩
  have HP4 := Lib.hid (HP3.out.keep hk4 (fun h => h))
  have HK4 := Lib.hid (HK3.out.trans hk4 (fun _ _ h => h))
  clear hk4
  cases b
  case true =>
    go_wp2_with fail
    go_ret
    exact ⟨rfl, HK4.out⟩
  obtain ⟨hpn, hc0, hc1⟩ := hb rfl
  clear hb
  have HSPR := Lib.hid (placedA_rng (HRNG.out hc0 (by omega)) pc HP.out false)
  have HSPC := Lib.hid (show (Ir.placedA s pc false).count ≤ 1099511627776 ∧ (Ir.placedA s pc false).R 0 = 0 from ⟨hc1, rfl⟩)
  have HOW := Lib.hid (ownOps_any A n cap l w4 (HV.out.quiet HK4.out) (by omega))
  go_wp2_with fail
  refine HOW.out.mono ?_
  rintro e w5 ⟨v, rfl, ⟨A3, cap3, rfl, ho3⟩, hk5⟩
  have HO5 := Lib.hid (OpsAt.of_owns ho3 rfl)
  have HCAP := owns_cap ho3
  have HK5 := Lib.hid (HK4.out.trans hk5 (fun _ _ h => h))
  have HP5 := Lib.hid (HP4.out.keep hk5 (fun h => h))
  have HOP := Lib.hid (Opt_any pc many level A3 l.length cap3 l w5 ea (HE.out.quiet HK5.out).toC HO5.out HCAP HOK.out)
  clear hk5 ho3 HOW HP1 HP2 HP3 HP4
  go_wp2_with fail
  refine HOP.out.mono ?_
  rintro e w6 ⟨⟨cv, ev, rfl, hv6⟩, hk6⟩
  obtain ⟨hfv, hcv⟩ : FaultIs w6 ea (Ir.optFault many l level) ev ∧ cv = .agg #[.int .u32 0, .int .i64 0, .slice none 0 0] := by
    refine ⟨hv6.1, ?_⟩
    rcases hv6.2 with h | h
    · exact h.2
    · exact absurd h.1 HOF0.out
  subst hcv
  skip
  have hka := (Keeps.refl (fun _ => False) w6).alloc (.cells #[.int .u32 0, .int .i64 0, .slice none 0 0] 35)
  have hkb := hk6.trans hka (fun _ _ h => h)
  have HB7 := Lib.hid (CodeBox.new w6 0 0 none 0 0)
  have HFV7 := Lib.hid (hfv.keep hka)
  have HK7 := Lib.hid (HK5.out.trans hkb (fun _ _ h => h))
  clear hv6 hk6 hka hkb hfv
  go_upto_region 5 with fail
  generalize w6.alloc _ = w7 at *
  generalize w6.heap.size = cb at *
  go_wp2_with fail
  refine (HCF.out w7 (HV.out.quiet HK7.out)).mono ?_
  rintro e w8 ⟨rfl, hk8⟩
  unfold faultV
  dsimp only
  have hka := (Keeps.refl (fun _ => False) w8).alloc (.cells #[.int .i64 fc, .int .i64 fat] 37)
  have hkb := hk8.trans hka (fun _ _ h => h)
  have HF9 := Lib.hid (FaultBox.new w8 fc fat)
  have HK9 := Lib.hid (HK7.out.trans hkb (fun _ _ h => h))
  have HB9 := Lib.hid (HB7.out.keep hkb (fun h => h))
  have HFV9 := Lib.hid (HFV7.out.keep hkb)
  have HWB := Lib.hid (show w.heap.size ≤ w8.heap.size ∧ cb < w8.heap.size ∧ (∀ b, ev = .iface 93 (.pointer (some ⟨b, 0, none⟩)) → FaultIs w8 ea (Ir.optFault many l level) ev) from ⟨Nat.le_trans HK7.out.size hk8.size, Nat.lt_of_lt_of_le HB7.out.lt hk8.size, fun b hb => HFV7.out.keep hk8⟩)
  have HFV8 := Lib.hid (HFV7.out.keep hk8)
  clear hk8 hka hkb
  go_upto_region 6 with fail
  generalize w8.alloc _ = w9 at *
  obtain ⟨fb, hfb⟩ : ∃ b, w8.heap.size = b := ⟨_, rfl⟩
  rw [hfb] at HF9 HWB ⊢
  have HFBE := Lib.hid hfb
  clear hfb
  obtain ⟨y0, y1, g0, g1⟩ := HF9.out.cells
  go_upto_region 7 with fail
  go_wp2_with fail
  refine (faultBare_any 2 w9).mono ?_
  rintro e w10 ⟨rfl, hk10⟩
  have HF10 := Lib.hid (HF9.out.keep hk10 (fun h => h))
  unfold faultV
  dsimp only
  clear y0 y1 g0 g1
  obtain ⟨y0, y1, g0, g1⟩ := HF10.out.cells
  have hz := HF10.out.put (c' := 2) (a' := -1)
  have hz1 : FaultBox ((w10.setCell ⟨fb, 0, none⟩ (.int .i64 2)).setCell ⟨fb, 1, none⟩ (.int .i64 (-1))) fb 2 (-1) := hz.1
  have hz2 : Keeps (· = fb) w10 ((w10.setCell ⟨fb, 0, none⟩ (.int .i64 2)).setCell ⟨fb, 1, none⟩ (.int .i64 (-1))) := hz.2
  have HK11 := Lib.hid ((HK9.out.trans hk10 (fun _ _ h => h)).trans hz2 (fun b hb e => by have e : b = fb := e; have := HWB.out.1; omega))
  have HB11 := Lib.hid ((HB9.out.keep hk10 (fun h => h)).keep hz2 (fun e => by have e : cb = fb := e; have := HWB.out.2.1; omega))
  have hfv2 : ev = errV ea 2 := by
    rcases HFV9.out with h | h | h
    · exact absurd h.1 HOF0.out
    · rw [HOF.out] at h; exact h.2.2
    · exact absurd (by rw [HOF.out]) h.2.1
  have HF11 := Lib.hid (show ∃ cc : Nat, FaultBox ((w10.setCell ⟨fb, 0, none⟩ (.int .i64 2)).setCell ⟨fb, 1, none⟩ (.int .i64 (-1))) fb cc (-1) ∧ cc = 2 from ⟨2, hz1, rfl⟩)
  clear hz hz1 hz2 hk10
  go_upto_region 8 with fail
  clear y0 y1 g0 g1
  generalize World.setCell (World.setCell w10 _ _) _ _ = w11 at *
  obtain ⟨cc, hF11, hcc⟩ := HF11.out
  clear HF11
  have HF11 := Lib.hid hF11
  have HC2 := Lib.hid hcc
  clear hF11 hcc
  obtain ⟨aa, haa⟩ : ∃ a : Int, a = -1 := ⟨_, rfl⟩
  rw [← haa] at HF11
  have HCC := Lib.hid (show 1 ≤ cc ∧ cc ≤ 10 by have := HC2.out; omega)
  have HFSS := Lib.hid (show (cc, aa).1 = 0 ∨ (1 ≤ (cc, aa).1 ∧ (cc, aa).1 ≤ 10) from .inr HCC.out)
  have HFV11 := Lib.hid (show FaultIs w11 ea (cc, aa) ev from .inr (.inl ⟨by show cc ≠ 0; have := HC2.out; omega, haa, by rw [hfv2, HC2.out]⟩))
  clear haa hfv2
  have hgt : decide (0 < cc) = true := decide_eq_true (by have := HCC.out; omega)
  obtain ⟨y0, y1, _, _⟩ := HF11.out.cells
  have HFT := Lib.hid (faulted_any (cc, aa) HFSS.out ev w11 ea (HE.out.quiet HK11.out) HFV11.out)
  unfold faultV at HFT
  dsimp only at HFT
  go_wp2_with fail
  refine HFT.out.mono ?_
  rintro e w12 ⟨rfl, hk12⟩
  obtain ⟨d0, d1, d2, _⟩ := (HB11.out.keep hk12 (fun h => h)).cells
  have HK12 := Lib.hid (HK11.out.trans hk12 (fun _ _ h => h))
  clear hk12 y0 y1
  go_wp2_with fail
  go_ret
  exact ⟨by first | rfl | go_simp, HK12.out⟩
end Go.Proofs.YtgmbladcoikffaaGreatDoor

/- OptEndsG0 -/
/- The walk of the law OptEnds: the run. Printed by gen/optends.py. -/
namespace Go.Proofs.YtgmbladcoikffaaGreatDoor
open Go.RowKit Go.Deep
set_option linter.unusedVariables false
set_option linter.unusedSimpArgs false

set_option maxHeartbeats 16000000 in
set_option maxRecDepth 100000 in
theorem optEnds_g0 (pc many level : Int) (A : Option Addr) (n cap : Nat) (l : List Ir.Op) (s : Cp.St) (PA : Option Addr) (pn pcap : Nat) (page : Int) (ws : Nat → Int) (w : World) (ea : Nat → Addr) (E : ErrsAll w ea) (V : OpsAt w A n cap l) (hc : cap ≤ 9223372036854775807) (hok : ∀ o ∈ l, OpOk o)
    (hR : Reads w PA pn pcap (fun i => .int .u32 (ws i))) (hpc : pcap ≤ 9223372036854775807) (hr : ∀ i, i < pn → 0 ≤ ws i ∧ ws i < 4294967296) (hrng : 0 ≤ s.count → s.count < 4611686018427387904 → Cp.Rng s) (hp : 0 ≤ pc ∧ pc < 4294967296) (hfz : (Ir.fault many l).1 = 0) (hlv : level = 0) :
    Calls Tryz.prog 4 #[.int .u32 pc, .int .i64 many, .slice A n cap, .int .i64 level, .agg (placeL s PA pn pcap page).toArray] w fun e w' => e = .returned (.bool true) ∧ Keeps (fun _ => False) w w' := by
  have HE := Lib.hid E
  have HV := Lib.hid V
  have HL := Lib.hid V.len
  have HOK := Lib.hid hok
  have HRD := Lib.hid hR
  have HRR := Lib.hid hr
  have HRNG := Lib.hid hrng
  have HP := Lib.hid hp
  have hnc := V.le
  have HN := Lib.hid (PlaceAt.new w s PA pn pcap page)
  have HK := Lib.hid ((Keeps.refl (fun _ => False) w).alloc (.cells (placeL s PA pn pcap page).toArray 29))
  have HFS := Lib.hid (fault_small many l)
  have HCF := Lib.hid (fun w V => codeFault_any many A n cap l w V hc)
  obtain ⟨fa, hfa⟩ : ∃ f, Ir.fault many l = f := ⟨_, rfl⟩
  rw [hfa] at HFS HCF
  have HFA := Lib.hid hfa
  obtain ⟨fc, fat⟩ := fa
  have hfc0 : fc = 0 := by have := hfz; rw [hfa] at this; exact this
  have hft : ((fc : Int) == 0) = true := by simp; omega
  have hfgt : decide (0 < fc) = false := decide_eq_false (by omega)
  have HOF0 := Lib.hid (show (Ir.optFault many l level).1 = 0 by
    unfold Ir.optFault
    rw [hfa, if_neg (by show ¬ (fc ≠ 0); omega), if_neg (by omega)])
  have HG := Lib.hid (Ir.good_of_fault hfz)
  have HLV := Lib.hid hlv
  have hl1 : decide (level < 0) = false := decide_eq_false (by omega)
  have hl2 : decide (2 < level) = false := decide_eq_false (by omega)
  clear hfc0 hfz hlv
  clear E V hok hR hr hrng hp hfa
  go_enter Tryz.func4, Tryz.ntmps4
  go_upto_region 1 with fail
  have HP1 := Lib.hid HN.out
  have HK1 := Lib.hid HK.out
  clear HN HK
  generalize w.alloc _ = w1 at *
  obtain ⟨x, hx⟩ : ∃ x, w.heap.size = x := ⟨_, rfl⟩
  rw [hx] at HP1 ⊢
  have HX := Lib.hid hx
  clear hx
  go_wp2_with fail
  refine (bettered_any w1 ea (HE.out.quiet HK1.out).toC).mono ?_
  rintro e w2 ⟨rfl, hk2⟩
  have HP2 := Lib.hid (HP1.out.keep hk2 (fun h => h))
  have HK2 := Lib.hid (HK1.out.trans hk2 (fun _ _ h => h))
  clear hk2
  go_wp2_with fail
  refine (longOps40_any A n cap l w2 (HV.out.quiet HK2.out) hc).mono ?_
  rintro e w3 ⟨r, rfl, hr, hk3⟩
  have HP3 := Lib.hid (HP2.out.keep hk3 (fun h => h))
  have HK3 := Lib.hid (HK2.out.trans hk3 (fun _ _ h => h))
  clear hk3
  rcases hr with rfl | ⟨rfl, hn⟩
  · go_wp2_with fail
    go_ret
    exact ⟨rfl, HK3.out⟩
  go_wp2_with (refine wpList_load_place _ rfl x s PA pn pcap page HP3.out rfl (by first | rfl | decide) ?_)
  refine (longPlace_any s PA pn pcap page w3).mono ?_
  rintro e w4 ⟨b, rfl, hb, hk4⟩
  have HP4 := Lib.hid (HP3.out.keep hk4 (fun h => h))
  have HK4 := Lib.hid (HK3.out.trans hk4 (fun _ _ h => h))
  clear hk4
  cases b
  case true =>
    go_wp2_with fail
    go_ret
    exact ⟨rfl, HK4.out⟩
  obtain ⟨hpn, hc0, hc1⟩ := hb rfl
  clear hb
  have HSPR := Lib.hid (placedA_rng (HRNG.out hc0 (by omega)) pc HP.out false)
  have HSPC := Lib.hid (show (Ir.placedA s pc false).count ≤ 1099511627776 ∧ (Ir.placedA s pc false).R 0 = 0 from ⟨hc1, rfl⟩)
  have HOW := Lib.hid (ownOps_any A n cap l w4 (HV.out.quiet HK4.out) (by omega))
  go_wp2_with fail
  refine HOW.out.mono ?_
  rintro e w5 ⟨v, rfl, ⟨A3, cap3, rfl, ho3⟩, hk5⟩
  have HO5 := Lib.hid (OpsAt.of_owns ho3 rfl)
  have HCAP := owns_cap ho3
  have HK5 := Lib.hid (HK4.out.trans hk5 (fun _ _ h => h))
  have HP5 := Lib.hid (HP4.out.keep hk5 (fun h => h))
  have HOP := Lib.hid (Opt_any pc many level A3 l.length cap3 l w5 ea (HE.out.quiet HK5.out).toC HO5.out HCAP HOK.out)
  clear hk5 ho3 HOW HP1 HP2 HP3 HP4
  go_wp2_with fail
  refine HOP.out.mono ?_
  rintro e w6 ⟨⟨cv, ev, rfl, hv6⟩, hk6⟩
  obtain ⟨rfl, A5, cap5, rfl, ho5, hc5⟩ := hv6.good HOF0.out
  have HLO := Lib.hid (show (Ir.opt l level).length ≤ n by have := Ir.opt_len l level; have := HL.out; omega)
  have HGO := Lib.hid (Ir.opt_good HG.out level)
  have HKN := Lib.hid (show 0 < level → Ir.known (Ir.opt l level) = 0 from fun h => by have := HLV.out; omega)
  have HDN := Lib.hid (show 1 < level → Ir.deads (Ir.opt l level) = 0 from fun h => by have := HLV.out; omega)
  have HOK2 := Lib.hid (opt_ops_ok (ops_ok_good HG.out HOK.out) level)
  have HL0 := Lib.hid (show level = 0 → Ir.opt l level = l from fun h => by unfold Ir.opt; rw [if_pos (by omega)])
  have HFIN := Lib.hid (fun (sp : Cp.St) (m : Nat → Int) (W : Int → Bool) (hs : Cp.Rng sp) (h0 : sp.R 0 = 0) (hc : sp.count ≤ 1099511627776) (hm : ∀ j, j < 16384 → 0 ≤ m j ∧ m j < 256) => opt_ends HG.out HOK.out level sp m W hs h0 hc hm)
  obtain ⟨lo, hlo⟩ : ∃ lo, Ir.opt l level = lo := ⟨_, rfl⟩
  rw [hlo] at HLO HGO HKN HDN HOK2 HL0 HFIN ho5 ⊢
  obtain ⟨no, hno⟩ : ∃ no, lo.length = no := ⟨_, rfl⟩
  have HNO := Lib.hid hno
  rw [hno] at HLO ho5 ⊢
  have hka := (Keeps.refl (fun _ => False) w6).alloc (.cells #[.int .u32 pc, .int .i64 many, .slice A5 no cap5] 35)
  have hkb := hk6.trans hka (fun _ _ h => h)
  have HB7 := Lib.hid (CodeBox.new w6 pc many A5 no cap5)
  have HO7 := Lib.hid (ho5.quiet hka)
  have HK7 := Lib.hid (HK5.out.trans hkb (fun _ _ h => h))
  have HP7 := Lib.hid (HP5.out.keep hkb (fun h => h))
  clear hv6 hk6 hka hkb ho5 hlo hno
  go_upto_region 5 with fail
  generalize w6.alloc _ = w7 at *
  generalize w6.heap.size = cb at *
  go_wp2_with fail
  refine (HCF.out w7 (HV.out.quiet HK7.out)).mono ?_
  rintro e w8 ⟨rfl, hk8⟩
  unfold faultV
  dsimp only
  have hka := (Keeps.refl (fun _ => False) w8).alloc (.cells #[.int .i64 fc, .int .i64 fat] 37)
  have hkb := hk8.trans hka (fun _ _ h => h)
  have HF9 := Lib.hid (FaultBox.new w8 fc fat)
  have HK9 := Lib.hid (HK7.out.trans hkb (fun _ _ h => h))
  have HB9 := Lib.hid (HB7.out.keep hkb (fun h => h))
  have HO9 := Lib.hid (HO7.out.quiet hkb)
  have HP9 := Lib.hid (HP7.out.keep hkb (fun h => h))
  clear hk8 hka hkb
  go_upto_region 6 with fail
  generalize w8.alloc _ = w9 at *
  generalize w8.heap.size = fb at *
  obtain ⟨y0, y1, g0, g1⟩ := HF9.out.cells
  obtain ⟨d0, d1, d2, _⟩ := HB9.out.cells
  have hlen : decide (n < no) = false := decide_eq_false (by have := HLO.out; omega)
  have HCF2 := Lib.hid (codeFault_any many A5 no cap5 lo w9 HO9.out hc5)
  rw [Ir.fault_good HGO.out] at HCF2
  unfold faultV at HCF2
  dsimp only at HCF2
  go_wp2_with fail
  refine HCF2.out.mono ?_
  rintro e w10 ⟨rfl, hk10⟩
  have HK10 := Lib.hid (HK9.out.trans hk10 (fun _ _ h => h))
  have HB10 := Lib.hid (HB9.out.keep hk10 (fun h => h))
  have HO10 := Lib.hid (HO9.out.quiet hk10)
  have HP10 := Lib.hid (HP9.out.keep hk10 (fun h => h))
  clear hk10 y0 y1 g0 g1 d0 d1 d2
  obtain ⟨d0, d1, d2, _⟩ := HB10.out.cells
  have hff := field_fault
  obtain rfl : level = 0 := HLV.out
  obtain rfl : l = lo := (HL0.out rfl).symm
  obtain rfl : n = no := by rw [← HNO.out]; exact HL.out.symm
  go_wp2_with fail
  refine (sameOps_same A5 A n cap5 cap l w10 HO10.out (HV.out.quiet HK10.out) hc5 hc).mono ?_
  rintro e w13 ⟨rfl, hk13⟩
  have HK13 := Lib.hid (HK10.out.trans hk13 (fun _ _ h => h))
  have HB13 := Lib.hid (HB10.out.keep hk13 (fun h => h))
  have HO13 := Lib.hid (HO10.out.quiet hk13)
  have HP13 := Lib.hid (HP10.out.keep hk13 (fun h => h))
  clear hk13 d0 d1 d2
  obtain ⟨d0, d1, d2, _⟩ := HB13.out.cells
  go_upto_region 14 with fail
  have Z2 := Lib.hid d2
  have HPR := Lib.hid HP13.out.range
  have HEA := Lib.hid (fun w' (k : Keeps (fun _ => False) w13 w') => each_any A n cap l w' (HV.out.quiet (HK13.out.trans k (fun _ _ h => h))) hc (by omega))
  have HEB := Lib.hid (fun w' (k : Keeps (fun _ => False) w13 w') => each_any A5 n cap5 l w' (HO13.out.quiet k) hc5 (by have := HLO.out; omega))
  have HSE := Lib.hid (fun A1 c1 A2 c2 w' (k : Keeps (fun _ => False) w13 w') (h1 : RowsAt w' A1 n c1 (l.map fun o => [o])) (hc1 : c1 ≤ 9223372036854775807) (h2 : RowsAt w' A2 n c2 (l.map fun o => [o])) (hc2 : c2 ≤ 9223372036854775807) => by
    have hr0 := (opt_ends HG.out HOK.out 0 (Ir.placedA s pc false) (ramOf (min pn 4096) ws) (watchF page) HSPR.out HSPC.out.2 HSPC.out.1 (ramOf_rng _ _)).2.2.2
    exact sameEnd_any (l.map fun o => [o]) (l.map fun o => [o]) many pc A1 n c1 A2 n c2 s PA pn pcap page ws w' h1 hc1 (singles_in HG.out HOK.out) h2 hc2 (singles_in HGO.out HOK2.out) (HRD.out.keep (HK13.out.trans k (fun _ _ h => h)) (fun _ _ _ h => h)) hpc HRR.out HSPR.out HP.out (by have := HG.out.range; omega) _ _ rfl rfl rfl rfl rfl hr0)
  have HPS := Lib.hid (show (Tryz.prog.info? 29).map (·.size) = some (placeL s PA pn pcap page).length by
    rw [show (placeL s PA pn pcap page).length = 45 by unfold placeL; rw [List.length_append, stL_len]; rfl]
    kernel_rfl)
  have HNL := Lib.hid HL.out
  have HNO2 := Lib.hid HNO.out
  generalize placeL s PA pn pcap page = pl at HPR HPS HSE ⊢
  refine wp_region_held_drew (S := fun w' => Keeps (fun _ => False) w13 w') (by kernel_rfl) (Keeps.refl _ w13).drew (fun hH0 => ?_)
  refine wpAnyH_take (i := 0) (v := ?_) rfl (by kernel_rfl) (by kernel_rfl) (by kernel_rfl) (fun _ _ _ h => h) (Or.inl ⟨by rfl, ?_⟩) hH0 ?_
  rotate_left
  · intro w' hSw
    go_simp
    try with_reducible rfl
  simp only [Act.put, List.setIfInBounds_toArray, List.set_cons_zero, List.set_cons_succ]
  refine wpAnyH_take (i := 2) (v := ?_) rfl (by kernel_rfl) (by kernel_rfl) (by kernel_rfl) (fun _ _ _ h => h) (Or.inl ⟨by rfl, ?_⟩) hH0 ?_
  rotate_left
  · intro w' hSw
    go_simp
    try with_reducible rfl
  simp only [Act.put, List.setIfInBounds_toArray, List.set_cons_zero, List.set_cons_succ]
  refine wpAnyH_take (i := 3) (v := ?_) rfl (by kernel_rfl) (by kernel_rfl) (by kernel_rfl) (fun _ _ _ h => h) (Or.inl ⟨by rfl, ?_⟩) hH0 ?_
  rotate_left
  · intro w' hSw
    have c := Keeps.cell' hSw Z2.out (fun f => f)
    go_simp
    try with_reducible rfl
  simp only [Act.put, List.setIfInBounds_toArray, List.set_cons_zero, List.set_cons_succ]
  refine wpAnyH_take (i := 5) (v := ?_) rfl (by kernel_rfl) (by kernel_rfl) (by kernel_rfl) (fun _ _ _ h => h) (Or.inl ⟨by rfl, ?_⟩) hH0 ?_
  rotate_left
  · intro w' hSw
    go_simp
    try with_reducible rfl
  simp only [Act.put, List.setIfInBounds_toArray, List.set_cons_zero, List.set_cons_succ]
  refine wpAnyH_take (i := 6) (v := .agg pl.toArray) rfl (by kernel_rfl) (by kernel_rfl) (by kernel_rfl) (fun _ _ _ h => h) (yieldsIf_load_mid (by rfl) 29 (.tmp 9) rfl x 0 (by go_simp) pl _ (fun w' hSw => range_keep HPR.out hSw) Tryz.underlying29 rfl HPS.out) hH0 ?_
  simp only [Act.put, List.setIfInBounds_toArray, List.set_cons_zero, List.set_cons_succ]
  refine wpAnyH_take (i := 7) (v := ?_) rfl (by kernel_rfl) (by kernel_rfl) (by kernel_rfl) (fun _ _ _ h => h) (Or.inl ⟨by rfl, ?_⟩) hH0 ?_
  rotate_left
  · intro w' hSw
    go_simp
    try with_reducible rfl
  simp only [Act.put, List.setIfInBounds_toArray, List.set_cons_zero, List.set_cons_succ]
  refine wpAnyH_ready (rs := [1]) (by kernel_rfl) (by simp) ?_
  refine AllReadyH.cons rfl (fun K hK => ?_) AllReadyH.nil
  · skip
    go_simp
    refine (HEA.out _ hH0).mono ?_
    rintro e wa ⟨va, rfl, hva, hka1⟩
    go_wp2_with fail
    have hH1 := Keeps.trans hH0 hka1 (fun _ _ h => h)
    refine hK.out _ _ hH1 (fun _ => ?_)
    clear hK K
    try simp only [Act.put, List.setIfInBounds_toArray, List.set_cons_zero, List.set_cons_succ]
    refine wpAnyH_ready (rs := [4]) (by kernel_rfl) (by simp) ?_
    refine AllReadyH.cons rfl (fun K hK => ?_) AllReadyH.nil
    go_simp
    refine (HEB.out _ hH1).mono ?_
    rintro e wb1 ⟨vb, rfl, hvb, hkb1⟩
    go_wp2_with fail
    have hH2 := Keeps.trans hH1 hkb1 (fun _ _ h => h)
    refine hK.out _ _ hH2 (fun _ => ?_)
    clear hK K
    try simp only [Act.put, List.setIfInBounds_toArray, List.set_cons_zero, List.set_cons_succ]
    obtain ⟨A1, k1, rfl, hk1c, hr1⟩ := (hva.quiet hkb1).rows
    obtain ⟨A2, k2, rfl, hk2c, hr2⟩ := hvb.rows
    rw [HNL.out] at hr1 ⊢
    try rw [HNO2.out] at hr2
    try rw [HNO2.out]
    refine wpAnyH_ready (rs := [8]) (by kernel_rfl) (by simp) ?_
    refine AllReadyH.cons rfl (fun K hK => ?_) AllReadyH.nil
    go_simp
    refine (HSE.out A1 k1 A2 k2 _ hH2 hr1 hk1c hr2 hk2c).mono ?_
    rintro e wc ⟨rfl, hkc⟩
    go_wp2_with fail
    have hH3 := Keeps.trans hH2 hkc (fun _ _ h => h)
    refine hK.out _ _ hH3 (fun _ => ?_)
    clear hK K
    try simp only [Act.put, List.setIfInBounds_toArray, List.set_cons_zero, List.set_cons_succ]
    refine wpAnyH_ready (rs := [9]) (by kernel_rfl) (by simp) ?_
    refine AllReadyH.cons rfl (fun K hK => ?_) AllReadyH.nil
    go_simp
    refine hK.out _ _ hH3 (fun _ => ?_)
    clear hK K
    try simp only [Act.put, List.setIfInBounds_toArray, List.set_cons_zero, List.set_cons_succ]
    refine wpAnyH_done (by kernel_rfl) ?_ _
    go_wp2_with fail
    go_ret
    exact ⟨by first | rfl | go_simp, HK13.out.trans hH3 (fun _ _ h => h)⟩

end Go.Proofs.YtgmbladcoikffaaGreatDoor

/- OptEndsG1 -/
/- The walk of the law OptEnds: the run. Printed by gen/optends.py. -/
namespace Go.Proofs.YtgmbladcoikffaaGreatDoor
open Go.RowKit Go.Deep
set_option linter.unusedVariables false
set_option linter.unusedSimpArgs false

set_option maxHeartbeats 16000000 in
set_option maxRecDepth 100000 in
theorem optEnds_g1 (pc many level : Int) (A : Option Addr) (n cap : Nat) (l : List Ir.Op) (s : Cp.St) (PA : Option Addr) (pn pcap : Nat) (page : Int) (ws : Nat → Int) (w : World) (ea : Nat → Addr) (E : ErrsAll w ea) (V : OpsAt w A n cap l) (hc : cap ≤ 9223372036854775807) (hok : ∀ o ∈ l, OpOk o)
    (hR : Reads w PA pn pcap (fun i => .int .u32 (ws i))) (hpc : pcap ≤ 9223372036854775807) (hr : ∀ i, i < pn → 0 ≤ ws i ∧ ws i < 4294967296) (hrng : 0 ≤ s.count → s.count < 4611686018427387904 → Cp.Rng s) (hp : 0 ≤ pc ∧ pc < 4294967296) (hfz : (Ir.fault many l).1 = 0) (hlv : level = 1) :
    Calls Tryz.prog 4 #[.int .u32 pc, .int .i64 many, .slice A n cap, .int .i64 level, .agg (placeL s PA pn pcap page).toArray] w fun e w' => e = .returned (.bool true) ∧ Keeps (fun _ => False) w w' := by
  have HE := Lib.hid E
  have HV := Lib.hid V
  have HL := Lib.hid V.len
  have HOK := Lib.hid hok
  have HRD := Lib.hid hR
  have HRR := Lib.hid hr
  have HRNG := Lib.hid hrng
  have HP := Lib.hid hp
  have hnc := V.le
  have HN := Lib.hid (PlaceAt.new w s PA pn pcap page)
  have HK := Lib.hid ((Keeps.refl (fun _ => False) w).alloc (.cells (placeL s PA pn pcap page).toArray 29))
  have HFS := Lib.hid (fault_small many l)
  have HCF := Lib.hid (fun w V => codeFault_any many A n cap l w V hc)
  obtain ⟨fa, hfa⟩ : ∃ f, Ir.fault many l = f := ⟨_, rfl⟩
  rw [hfa] at HFS HCF
  have HFA := Lib.hid hfa
  obtain ⟨fc, fat⟩ := fa
  have hfc0 : fc = 0 := by have := hfz; rw [hfa] at this; exact this
  have hft : ((fc : Int) == 0) = true := by simp; omega
  have hfgt : decide (0 < fc) = false := decide_eq_false (by omega)
  have HOF0 := Lib.hid (show (Ir.optFault many l level).1 = 0 by
    unfold Ir.optFault
    rw [hfa, if_neg (by show ¬ (fc ≠ 0); omega), if_neg (by omega)])
  have HG := Lib.hid (Ir.good_of_fault hfz)
  have HLV := Lib.hid hlv
  have hl1 : decide (level < 0) = false := decide_eq_false (by omega)
  have hl2 : decide (2 < level) = false := decide_eq_false (by omega)
  clear hfc0 hfz hlv
  clear E V hok hR hr hrng hp hfa
  go_enter Tryz.func4, Tryz.ntmps4
  go_upto_region 1 with fail
  have HP1 := Lib.hid HN.out
  have HK1 := Lib.hid HK.out
  clear HN HK
  generalize w.alloc _ = w1 at *
  obtain ⟨x, hx⟩ : ∃ x, w.heap.size = x := ⟨_, rfl⟩
  rw [hx] at HP1 ⊢
  have HX := Lib.hid hx
  clear hx
  go_wp2_with fail
  refine (bettered_any w1 ea (HE.out.quiet HK1.out).toC).mono ?_
  rintro e w2 ⟨rfl, hk2⟩
  have HP2 := Lib.hid (HP1.out.keep hk2 (fun h => h))
  have HK2 := Lib.hid (HK1.out.trans hk2 (fun _ _ h => h))
  clear hk2
  go_wp2_with fail
  refine (longOps40_any A n cap l w2 (HV.out.quiet HK2.out) hc).mono ?_
  rintro e w3 ⟨r, rfl, hr, hk3⟩
  have HP3 := Lib.hid (HP2.out.keep hk3 (fun h => h))
  have HK3 := Lib.hid (HK2.out.trans hk3 (fun _ _ h => h))
  clear hk3
  rcases hr with rfl | ⟨rfl, hn⟩
  · go_wp2_with fail
    go_ret
    exact ⟨rfl, HK3.out⟩
  go_wp2_with (refine wpList_load_place _ rfl x s PA pn pcap page HP3.out rfl (by first | rfl | decide) ?_)
  refine (longPlace_any s PA pn pcap page w3).mono ?_
  rintro e w4 ⟨b, rfl, hb, hk4⟩
  have HP4 := Lib.hid (HP3.out.keep hk4 (fun h => h))
  have HK4 := Lib.hid (HK3.out.trans hk4 (fun _ _ h => h))
  clear hk4
  cases b
  case true =>
    go_wp2_with fail
    go_ret
    exact ⟨rfl, HK4.out⟩
  obtain ⟨hpn, hc0, hc1⟩ := hb rfl
  clear hb
  have HSPR := Lib.hid (placedA_rng (HRNG.out hc0 (by omega)) pc HP.out false)
  have HSPC := Lib.hid (show (Ir.placedA s pc false).count ≤ 1099511627776 ∧ (Ir.placedA s pc false).R 0 = 0 from ⟨hc1, rfl⟩)
  have HOW := Lib.hid (ownOps_any A n cap l w4 (HV.out.quiet HK4.out) (by omega))
  go_wp2_with fail
  refine HOW.out.mono ?_
  rintro e w5 ⟨v, rfl, ⟨A3, cap3, rfl, ho3⟩, hk5⟩
  have HO5 := Lib.hid (OpsAt.of_owns ho3 rfl)
  have HCAP := owns_cap ho3
  have HK5 := Lib.hid (HK4.out.trans hk5 (fun _ _ h => h))
  have HP5 := Lib.hid (HP4.out.keep hk5 (fun h => h))
  have HOP := Lib.hid (Opt_any pc many level A3 l.length cap3 l w5 ea (HE.out.quiet HK5.out).toC HO5.out HCAP HOK.out)
  clear hk5 ho3 HOW HP1 HP2 HP3 HP4
  go_wp2_with fail
  refine HOP.out.mono ?_
  rintro e w6 ⟨⟨cv, ev, rfl, hv6⟩, hk6⟩
  obtain ⟨rfl, A5, cap5, rfl, ho5, hc5⟩ := hv6.good HOF0.out
  have HLO := Lib.hid (show (Ir.opt l level).length ≤ n by have := Ir.opt_len l level; have := HL.out; omega)
  have HGO := Lib.hid (Ir.opt_good HG.out level)
  have HKN := Lib.hid (show 0 < level → Ir.known (Ir.opt l level) = 0 from fun h => by rw [show level = 1 from HLV.out, show Ir.opt l 1 = Ir.fold l by unfold Ir.opt; rw [if_neg (by decide), if_pos (by decide)]]; exact Ir.known_fold l)
  have HDN := Lib.hid (show 1 < level → Ir.deads (Ir.opt l level) = 0 from fun h => by have := HLV.out; omega)
  have HOK2 := Lib.hid (opt_ops_ok (ops_ok_good HG.out HOK.out) level)
  have HL0 := Lib.hid (show level = 0 → Ir.opt l level = l from fun h => by unfold Ir.opt; rw [if_pos (by omega)])
  have HFIN := Lib.hid (fun (sp : Cp.St) (m : Nat → Int) (W : Int → Bool) (hs : Cp.Rng sp) (h0 : sp.R 0 = 0) (hc : sp.count ≤ 1099511627776) (hm : ∀ j, j < 16384 → 0 ≤ m j ∧ m j < 256) => opt_ends HG.out HOK.out level sp m W hs h0 hc hm)
  obtain ⟨lo, hlo⟩ : ∃ lo, Ir.opt l level = lo := ⟨_, rfl⟩
  rw [hlo] at HLO HGO HKN HDN HOK2 HL0 HFIN ho5 ⊢
  obtain ⟨no, hno⟩ : ∃ no, lo.length = no := ⟨_, rfl⟩
  have HNO := Lib.hid hno
  rw [hno] at HLO ho5 ⊢
  have hka := (Keeps.refl (fun _ => False) w6).alloc (.cells #[.int .u32 pc, .int .i64 many, .slice A5 no cap5] 35)
  have hkb := hk6.trans hka (fun _ _ h => h)
  have HB7 := Lib.hid (CodeBox.new w6 pc many A5 no cap5)
  have HO7 := Lib.hid (ho5.quiet hka)
  have HK7 := Lib.hid (HK5.out.trans hkb (fun _ _ h => h))
  have HP7 := Lib.hid (HP5.out.keep hkb (fun h => h))
  clear hv6 hk6 hka hkb ho5 hlo hno
  go_upto_region 5 with fail
  generalize w6.alloc _ = w7 at *
  generalize w6.heap.size = cb at *
  go_wp2_with fail
  refine (HCF.out w7 (HV.out.quiet HK7.out)).mono ?_
  rintro e w8 ⟨rfl, hk8⟩
  unfold faultV
  dsimp only
  have hka := (Keeps.refl (fun _ => False) w8).alloc (.cells #[.int .i64 fc, .int .i64 fat] 37)
  have hkb := hk8.trans hka (fun _ _ h => h)
  have HF9 := Lib.hid (FaultBox.new w8 fc fat)
  have HK9 := Lib.hid (HK7.out.trans hkb (fun _ _ h => h))
  have HB9 := Lib.hid (HB7.out.keep hkb (fun h => h))
  have HO9 := Lib.hid (HO7.out.quiet hkb)
  have HP9 := Lib.hid (HP7.out.keep hkb (fun h => h))
  clear hk8 hka hkb
  go_upto_region 6 with fail
  generalize w8.alloc _ = w9 at *
  generalize w8.heap.size = fb at *
  obtain ⟨y0, y1, g0, g1⟩ := HF9.out.cells
  obtain ⟨d0, d1, d2, _⟩ := HB9.out.cells
  have hlen : decide (n < no) = false := decide_eq_false (by have := HLO.out; omega)
  have HCF2 := Lib.hid (codeFault_any many A5 no cap5 lo w9 HO9.out hc5)
  rw [Ir.fault_good HGO.out] at HCF2
  unfold faultV at HCF2
  dsimp only at HCF2
  go_wp2_with fail
  refine HCF2.out.mono ?_
  rintro e w10 ⟨rfl, hk10⟩
  have HK10 := Lib.hid (HK9.out.trans hk10 (fun _ _ h => h))
  have HB10 := Lib.hid (HB9.out.keep hk10 (fun h => h))
  have HO10 := Lib.hid (HO9.out.quiet hk10)
  have HP10 := Lib.hid (HP9.out.keep hk10 (fun h => h))
  clear hk10 y0 y1 g0 g1 d0 d1 d2
  obtain ⟨d0, d1, d2, _⟩ := HB10.out.cells
  have hff := field_fault
  obtain rfl : level = 1 := HLV.out
  have HKO := Lib.hid (knownOf_any A5 no cap5 lo w10 HO10.out hc5)
  rw [HKN.out (by decide)] at HKO
  go_wp2_with fail
  refine HKO.out.mono ?_
  rintro e w13 ⟨rfl, hk13⟩
  have HK13 := Lib.hid (HK10.out.trans hk13 (fun _ _ h => h))
  have HB13 := Lib.hid (HB10.out.keep hk13 (fun h => h))
  have HO13 := Lib.hid (HO10.out.quiet hk13)
  have HP13 := Lib.hid (HP10.out.keep hk13 (fun h => h))
  clear hk13 d0 d1 d2
  obtain ⟨d0, d1, d2, _⟩ := HB13.out.cells
  go_upto_region 14 with fail
  have Z2 := Lib.hid d2
  have HPR := Lib.hid HP13.out.range
  have HEA := Lib.hid (fun w' (k : Keeps (fun _ => False) w13 w') => each_any A n cap l w' (HV.out.quiet (HK13.out.trans k (fun _ _ h => h))) hc (by omega))
  have HEB := Lib.hid (fun w' (k : Keeps (fun _ => False) w13 w') => each_any A5 no cap5 lo w' (HO13.out.quiet k) hc5 (by have := HLO.out; omega))
  have HSE := Lib.hid (fun A1 c1 A2 c2 w' (k : Keeps (fun _ => False) w13 w') (h1 : RowsAt w' A1 n c1 (l.map fun o => [o])) (hc1 : c1 ≤ 9223372036854775807) (h2 : RowsAt w' A2 no c2 (lo.map fun o => [o])) (hc2 : c2 ≤ 9223372036854775807) => by
    have hin := HFIN.out (Ir.placedA s pc false) (ramOf (min pn 4096) ws) (watchF page) HSPR.out HSPC.out.2 HSPC.out.1 (ramOf_rng _ _)
    exact sameEnd_any (l.map fun o => [o]) (lo.map fun o => [o]) many pc A1 n c1 A2 no c2 s PA pn pcap page ws w' h1 hc1 (singles_in HG.out HOK.out) h2 hc2 (singles_in HGO.out HOK2.out) (HRD.out.keep (HK13.out.trans k (fun _ _ h => h)) (fun _ _ _ h => h)) hpc HRR.out HSPR.out HP.out (by have := HG.out.range; omega) _ _ rfl rfl hin.1 hin.2.1 hin.2.2.1 hin.2.2.2)
  have HPS := Lib.hid (show (Tryz.prog.info? 29).map (·.size) = some (placeL s PA pn pcap page).length by
    rw [show (placeL s PA pn pcap page).length = 45 by unfold placeL; rw [List.length_append, stL_len]; rfl]
    kernel_rfl)
  have HNL := Lib.hid HL.out
  have HNO2 := Lib.hid HNO.out
  generalize placeL s PA pn pcap page = pl at HPR HPS HSE ⊢
  refine wp_region_held_drew (S := fun w' => Keeps (fun _ => False) w13 w') (by kernel_rfl) (Keeps.refl _ w13).drew (fun hH0 => ?_)
  refine wpAnyH_take (i := 0) (v := ?_) rfl (by kernel_rfl) (by kernel_rfl) (by kernel_rfl) (fun _ _ _ h => h) (Or.inl ⟨by rfl, ?_⟩) hH0 ?_
  rotate_left
  · intro w' hSw
    go_simp
    try with_reducible rfl
  simp only [Act.put, List.setIfInBounds_toArray, List.set_cons_zero, List.set_cons_succ]
  refine wpAnyH_take (i := 2) (v := ?_) rfl (by kernel_rfl) (by kernel_rfl) (by kernel_rfl) (fun _ _ _ h => h) (Or.inl ⟨by rfl, ?_⟩) hH0 ?_
  rotate_left
  · intro w' hSw
    go_simp
    try with_reducible rfl
  simp only [Act.put, List.setIfInBounds_toArray, List.set_cons_zero, List.set_cons_succ]
  refine wpAnyH_take (i := 3) (v := ?_) rfl (by kernel_rfl) (by kernel_rfl) (by kernel_rfl) (fun _ _ _ h => h) (Or.inl ⟨by rfl, ?_⟩) hH0 ?_
  rotate_left
  · intro w' hSw
    have c := Keeps.cell' hSw Z2.out (fun f => f)
    go_simp
    try with_reducible rfl
  simp only [Act.put, List.setIfInBounds_toArray, List.set_cons_zero, List.set_cons_succ]
  refine wpAnyH_take (i := 5) (v := ?_) rfl (by kernel_rfl) (by kernel_rfl) (by kernel_rfl) (fun _ _ _ h => h) (Or.inl ⟨by rfl, ?_⟩) hH0 ?_
  rotate_left
  · intro w' hSw
    go_simp
    try with_reducible rfl
  simp only [Act.put, List.setIfInBounds_toArray, List.set_cons_zero, List.set_cons_succ]
  refine wpAnyH_take (i := 6) (v := .agg pl.toArray) rfl (by kernel_rfl) (by kernel_rfl) (by kernel_rfl) (fun _ _ _ h => h) (yieldsIf_load_mid (by rfl) 29 (.tmp 9) rfl x 0 (by go_simp) pl _ (fun w' hSw => range_keep HPR.out hSw) Tryz.underlying29 rfl HPS.out) hH0 ?_
  simp only [Act.put, List.setIfInBounds_toArray, List.set_cons_zero, List.set_cons_succ]
  refine wpAnyH_take (i := 7) (v := ?_) rfl (by kernel_rfl) (by kernel_rfl) (by kernel_rfl) (fun _ _ _ h => h) (Or.inl ⟨by rfl, ?_⟩) hH0 ?_
  rotate_left
  · intro w' hSw
    go_simp
    try with_reducible rfl
  simp only [Act.put, List.setIfInBounds_toArray, List.set_cons_zero, List.set_cons_succ]
  refine wpAnyH_ready (rs := [1]) (by kernel_rfl) (by simp) ?_
  refine AllReadyH.cons rfl (fun K hK => ?_) AllReadyH.nil
  · skip
    go_simp
    refine (HEA.out _ hH0).mono ?_
    rintro e wa ⟨va, rfl, hva, hka1⟩
    go_wp2_with fail
    have hH1 := Keeps.trans hH0 hka1 (fun _ _ h => h)
    refine hK.out _ _ hH1 (fun _ => ?_)
    clear hK K
    try simp only [Act.put, List.setIfInBounds_toArray, List.set_cons_zero, List.set_cons_succ]
    refine wpAnyH_ready (rs := [4]) (by kernel_rfl) (by simp) ?_
    refine AllReadyH.cons rfl (fun K hK => ?_) AllReadyH.nil
    go_simp
    refine (HEB.out _ hH1).mono ?_
    rintro e wb1 ⟨vb, rfl, hvb, hkb1⟩
    go_wp2_with fail
    have hH2 := Keeps.trans hH1 hkb1 (fun _ _ h => h)
    refine hK.out _ _ hH2 (fun _ => ?_)
    clear hK K
    try simp only [Act.put, List.setIfInBounds_toArray, List.set_cons_zero, List.set_cons_succ]
    obtain ⟨A1, k1, rfl, hk1c, hr1⟩ := (hva.quiet hkb1).rows
    obtain ⟨A2, k2, rfl, hk2c, hr2⟩ := hvb.rows
    rw [HNL.out] at hr1 ⊢
    try rw [HNO2.out] at hr2
    try rw [HNO2.out]
    refine wpAnyH_ready (rs := [8]) (by kernel_rfl) (by simp) ?_
    refine AllReadyH.cons rfl (fun K hK => ?_) AllReadyH.nil
    go_simp
    refine (HSE.out A1 k1 A2 k2 _ hH2 hr1 hk1c hr2 hk2c).mono ?_
    rintro e wc ⟨rfl, hkc⟩
    go_wp2_with fail
    have hH3 := Keeps.trans hH2 hkc (fun _ _ h => h)
    refine hK.out _ _ hH3 (fun _ => ?_)
    clear hK K
    try simp only [Act.put, List.setIfInBounds_toArray, List.set_cons_zero, List.set_cons_succ]
    refine wpAnyH_ready (rs := [9]) (by kernel_rfl) (by simp) ?_
    refine AllReadyH.cons rfl (fun K hK => ?_) AllReadyH.nil
    go_simp
    refine hK.out _ _ hH3 (fun _ => ?_)
    clear hK K
    try simp only [Act.put, List.setIfInBounds_toArray, List.set_cons_zero, List.set_cons_succ]
    refine wpAnyH_done (by kernel_rfl) ?_ _
    go_wp2_with fail
    go_ret
    exact ⟨by first | rfl | go_simp, HK13.out.trans hH3 (fun _ _ h => h)⟩

end Go.Proofs.YtgmbladcoikffaaGreatDoor

/- OptEndsG2 -/
/- The walk of the law OptEnds: the run. Printed by gen/optends.py. -/
namespace Go.Proofs.YtgmbladcoikffaaGreatDoor
open Go.RowKit Go.Deep
set_option linter.unusedVariables false
set_option linter.unusedSimpArgs false

set_option maxHeartbeats 16000000 in
set_option maxRecDepth 100000 in
theorem optEnds_g2 (pc many level : Int) (A : Option Addr) (n cap : Nat) (l : List Ir.Op) (s : Cp.St) (PA : Option Addr) (pn pcap : Nat) (page : Int) (ws : Nat → Int) (w : World) (ea : Nat → Addr) (E : ErrsAll w ea) (V : OpsAt w A n cap l) (hc : cap ≤ 9223372036854775807) (hok : ∀ o ∈ l, OpOk o)
    (hR : Reads w PA pn pcap (fun i => .int .u32 (ws i))) (hpc : pcap ≤ 9223372036854775807) (hr : ∀ i, i < pn → 0 ≤ ws i ∧ ws i < 4294967296) (hrng : 0 ≤ s.count → s.count < 4611686018427387904 → Cp.Rng s) (hp : 0 ≤ pc ∧ pc < 4294967296) (hfz : (Ir.fault many l).1 = 0) (hlv : level = 2) :
    Calls Tryz.prog 4 #[.int .u32 pc, .int .i64 many, .slice A n cap, .int .i64 level, .agg (placeL s PA pn pcap page).toArray] w fun e w' => e = .returned (.bool true) ∧ Keeps (fun _ => False) w w' := by
  have HE := Lib.hid E
  have HV := Lib.hid V
  have HL := Lib.hid V.len
  have HOK := Lib.hid hok
  have HRD := Lib.hid hR
  have HRR := Lib.hid hr
  have HRNG := Lib.hid hrng
  have HP := Lib.hid hp
  have hnc := V.le
  have HN := Lib.hid (PlaceAt.new w s PA pn pcap page)
  have HK := Lib.hid ((Keeps.refl (fun _ => False) w).alloc (.cells (placeL s PA pn pcap page).toArray 29))
  have HFS := Lib.hid (fault_small many l)
  have HCF := Lib.hid (fun w V => codeFault_any many A n cap l w V hc)
  obtain ⟨fa, hfa⟩ : ∃ f, Ir.fault many l = f := ⟨_, rfl⟩
  rw [hfa] at HFS HCF
  have HFA := Lib.hid hfa
  obtain ⟨fc, fat⟩ := fa
  have hfc0 : fc = 0 := by have := hfz; rw [hfa] at this; exact this
  have hft : ((fc : Int) == 0) = true := by simp; omega
  have hfgt : decide (0 < fc) = false := decide_eq_false (by omega)
  have HOF0 := Lib.hid (show (Ir.optFault many l level).1 = 0 by
    unfold Ir.optFault
    rw [hfa, if_neg (by show ¬ (fc ≠ 0); omega), if_neg (by omega)])
  have HG := Lib.hid (Ir.good_of_fault hfz)
  have HLV := Lib.hid hlv
  have hl1 : decide (level < 0) = false := decide_eq_false (by omega)
  have hl2 : decide (2 < level) = false := decide_eq_false (by omega)
  clear hfc0 hfz hlv
  clear E V hok hR hr hrng hp hfa
  go_enter Tryz.func4, Tryz.ntmps4
  go_upto_region 1 with fail
  have HP1 := Lib.hid HN.out
  have HK1 := Lib.hid HK.out
  clear HN HK
  generalize w.alloc _ = w1 at *
  obtain ⟨x, hx⟩ : ∃ x, w.heap.size = x := ⟨_, rfl⟩
  rw [hx] at HP1 ⊢
  have HX := Lib.hid hx
  clear hx
  go_wp2_with fail
  refine (bettered_any w1 ea (HE.out.quiet HK1.out).toC).mono ?_
  rintro e w2 ⟨rfl, hk2⟩
  have HP2 := Lib.hid (HP1.out.keep hk2 (fun h => h))
  have HK2 := Lib.hid (HK1.out.trans hk2 (fun _ _ h => h))
  clear hk2
  go_wp2_with fail
  refine (longOps40_any A n cap l w2 (HV.out.quiet HK2.out) hc).mono ?_
  rintro e w3 ⟨r, rfl, hr, hk3⟩
  have HP3 := Lib.hid (HP2.out.keep hk3 (fun h => h))
  have HK3 := Lib.hid (HK2.out.trans hk3 (fun _ _ h => h))
  clear hk3
  rcases hr with rfl | ⟨rfl, hn⟩
  · go_wp2_with fail
    go_ret
    exact ⟨rfl, HK3.out⟩
  go_wp2_with (refine wpList_load_place _ rfl x s PA pn pcap page HP3.out rfl (by first | rfl | decide) ?_)
  refine (longPlace_any s PA pn pcap page w3).mono ?_
  rintro e w4 ⟨b, rfl, hb, hk4⟩
  have HP4 := Lib.hid (HP3.out.keep hk4 (fun h => h))
  have HK4 := Lib.hid (HK3.out.trans hk4 (fun _ _ h => h))
  clear hk4
  cases b
  case true =>
    go_wp2_with fail
    go_ret
    exact ⟨rfl, HK4.out⟩
  obtain ⟨hpn, hc0, hc1⟩ := hb rfl
  clear hb
  have HSPR := Lib.hid (placedA_rng (HRNG.out hc0 (by omega)) pc HP.out false)
  have HSPC := Lib.hid (show (Ir.placedA s pc false).count ≤ 1099511627776 ∧ (Ir.placedA s pc false).R 0 = 0 from ⟨hc1, rfl⟩)
  have HOW := Lib.hid (ownOps_any A n cap l w4 (HV.out.quiet HK4.out) (by omega))
  go_wp2_with fail
  refine HOW.out.mono ?_
  rintro e w5 ⟨v, rfl, ⟨A3, cap3, rfl, ho3⟩, hk5⟩
  have HO5 := Lib.hid (OpsAt.of_owns ho3 rfl)
  have HCAP := owns_cap ho3
  have HK5 := Lib.hid (HK4.out.trans hk5 (fun _ _ h => h))
  have HP5 := Lib.hid (HP4.out.keep hk5 (fun h => h))
  have HOP := Lib.hid (Opt_any pc many level A3 l.length cap3 l w5 ea (HE.out.quiet HK5.out).toC HO5.out HCAP HOK.out)
  clear hk5 ho3 HOW HP1 HP2 HP3 HP4
  go_wp2_with fail
  refine HOP.out.mono ?_
  rintro e w6 ⟨⟨cv, ev, rfl, hv6⟩, hk6⟩
  obtain ⟨rfl, A5, cap5, rfl, ho5, hc5⟩ := hv6.good HOF0.out
  have HLO := Lib.hid (show (Ir.opt l level).length ≤ n by have := Ir.opt_len l level; have := HL.out; omega)
  have HGO := Lib.hid (Ir.opt_good HG.out level)
  have HKN := Lib.hid (show 0 < level → Ir.known (Ir.opt l level) = 0 from fun h => by rw [show level = 2 from HLV.out, show Ir.opt l 2 = Ir.sweep (Ir.fold l) by unfold Ir.opt; rw [if_neg (by decide), if_neg (by decide)]]; exact known_two HG.out HOK.out)
  have HDN := Lib.hid (show 1 < level → Ir.deads (Ir.opt l level) = 0 from fun h => by rw [show level = 2 from HLV.out, show Ir.opt l 2 = Ir.sweep (Ir.fold l) by unfold Ir.opt; rw [if_neg (by decide), if_neg (by decide)]]; exact Ir.deads_sweep _)
  have HOK2 := Lib.hid (opt_ops_ok (ops_ok_good HG.out HOK.out) level)
  have HL0 := Lib.hid (show level = 0 → Ir.opt l level = l from fun h => by unfold Ir.opt; rw [if_pos (by omega)])
  have HFIN := Lib.hid (fun (sp : Cp.St) (m : Nat → Int) (W : Int → Bool) (hs : Cp.Rng sp) (h0 : sp.R 0 = 0) (hc : sp.count ≤ 1099511627776) (hm : ∀ j, j < 16384 → 0 ≤ m j ∧ m j < 256) => opt_ends HG.out HOK.out level sp m W hs h0 hc hm)
  obtain ⟨lo, hlo⟩ : ∃ lo, Ir.opt l level = lo := ⟨_, rfl⟩
  rw [hlo] at HLO HGO HKN HDN HOK2 HL0 HFIN ho5 ⊢
  obtain ⟨no, hno⟩ : ∃ no, lo.length = no := ⟨_, rfl⟩
  have HNO := Lib.hid hno
  rw [hno] at HLO ho5 ⊢
  have hka := (Keeps.refl (fun _ => False) w6).alloc (.cells #[.int .u32 pc, .int .i64 many, .slice A5 no cap5] 35)
  have hkb := hk6.trans hka (fun _ _ h => h)
  have HB7 := Lib.hid (CodeBox.new w6 pc many A5 no cap5)
  have HO7 := Lib.hid (ho5.quiet hka)
  have HK7 := Lib.hid (HK5.out.trans hkb (fun _ _ h => h))
  have HP7 := Lib.hid (HP5.out.keep hkb (fun h => h))
  clear hv6 hk6 hka hkb ho5 hlo hno
  go_upto_region 5 with fail
  generalize w6.alloc _ = w7 at *
  generalize w6.heap.size = cb at *
  go_wp2_with fail
  refine (HCF.out w7 (HV.out.quiet HK7.out)).mono ?_
  rintro e w8 ⟨rfl, hk8⟩
  unfold faultV
  dsimp only
  have hka := (Keeps.refl (fun _ => False) w8).alloc (.cells #[.int .i64 fc, .int .i64 fat] 37)
  have hkb := hk8.trans hka (fun _ _ h => h)
  have HF9 := Lib.hid (FaultBox.new w8 fc fat)
  have HK9 := Lib.hid (HK7.out.trans hkb (fun _ _ h => h))
  have HB9 := Lib.hid (HB7.out.keep hkb (fun h => h))
  have HO9 := Lib.hid (HO7.out.quiet hkb)
  have HP9 := Lib.hid (HP7.out.keep hkb (fun h => h))
  clear hk8 hka hkb
  go_upto_region 6 with fail
  generalize w8.alloc _ = w9 at *
  generalize w8.heap.size = fb at *
  obtain ⟨y0, y1, g0, g1⟩ := HF9.out.cells
  obtain ⟨d0, d1, d2, _⟩ := HB9.out.cells
  have hlen : decide (n < no) = false := decide_eq_false (by have := HLO.out; omega)
  have HCF2 := Lib.hid (codeFault_any many A5 no cap5 lo w9 HO9.out hc5)
  rw [Ir.fault_good HGO.out] at HCF2
  unfold faultV at HCF2
  dsimp only at HCF2
  go_wp2_with fail
  refine HCF2.out.mono ?_
  rintro e w10 ⟨rfl, hk10⟩
  have HK10 := Lib.hid (HK9.out.trans hk10 (fun _ _ h => h))
  have HB10 := Lib.hid (HB9.out.keep hk10 (fun h => h))
  have HO10 := Lib.hid (HO9.out.quiet hk10)
  have HP10 := Lib.hid (HP9.out.keep hk10 (fun h => h))
  clear hk10 y0 y1 g0 g1 d0 d1 d2
  obtain ⟨d0, d1, d2, _⟩ := HB10.out.cells
  have hff := field_fault
  obtain rfl : level = 2 := HLV.out
  have HKO := Lib.hid (knownOf_any A5 no cap5 lo w10 HO10.out hc5)
  rw [HKN.out (by decide)] at HKO
  go_wp2_with fail
  refine HKO.out.mono ?_
  rintro e w11 ⟨rfl, hk11⟩
  have HK11 := Lib.hid (HK10.out.trans hk11 (fun _ _ h => h))
  have HB11 := Lib.hid (HB10.out.keep hk11 (fun h => h))
  have HO11 := Lib.hid (HO10.out.quiet hk11)
  have HP11 := Lib.hid (HP10.out.keep hk11 (fun h => h))
  clear hk11 d0 d1 d2
  obtain ⟨d0, d1, d2, _⟩ := HB11.out.cells
  have HDO := Lib.hid (deadOf_any A5 no cap5 lo w11 HO11.out hc5)
  rw [HDN.out (by decide)] at HDO
  go_wp2_with fail
  refine HDO.out.mono ?_
  rintro e w13 ⟨rfl, hk13⟩
  have HK13 := Lib.hid (HK11.out.trans hk13 (fun _ _ h => h))
  have HB13 := Lib.hid (HB11.out.keep hk13 (fun h => h))
  have HO13 := Lib.hid (HO11.out.quiet hk13)
  have HP13 := Lib.hid (HP11.out.keep hk13 (fun h => h))
  clear hk13 d0 d1 d2
  obtain ⟨d0, d1, d2, _⟩ := HB13.out.cells
  go_upto_region 14 with fail
  have Z2 := Lib.hid d2
  have HPR := Lib.hid HP13.out.range
  have HEA := Lib.hid (fun w' (k : Keeps (fun _ => False) w13 w') => each_any A n cap l w' (HV.out.quiet (HK13.out.trans k (fun _ _ h => h))) hc (by omega))
  have HEB := Lib.hid (fun w' (k : Keeps (fun _ => False) w13 w') => each_any A5 no cap5 lo w' (HO13.out.quiet k) hc5 (by have := HLO.out; omega))
  have HSE := Lib.hid (fun A1 c1 A2 c2 w' (k : Keeps (fun _ => False) w13 w') (h1 : RowsAt w' A1 n c1 (l.map fun o => [o])) (hc1 : c1 ≤ 9223372036854775807) (h2 : RowsAt w' A2 no c2 (lo.map fun o => [o])) (hc2 : c2 ≤ 9223372036854775807) => by
    have hin := HFIN.out (Ir.placedA s pc false) (ramOf (min pn 4096) ws) (watchF page) HSPR.out HSPC.out.2 HSPC.out.1 (ramOf_rng _ _)
    exact sameEnd_any (l.map fun o => [o]) (lo.map fun o => [o]) many pc A1 n c1 A2 no c2 s PA pn pcap page ws w' h1 hc1 (singles_in HG.out HOK.out) h2 hc2 (singles_in HGO.out HOK2.out) (HRD.out.keep (HK13.out.trans k (fun _ _ h => h)) (fun _ _ _ h => h)) hpc HRR.out HSPR.out HP.out (by have := HG.out.range; omega) _ _ rfl rfl hin.1 hin.2.1 hin.2.2.1 hin.2.2.2)
  have HPS := Lib.hid (show (Tryz.prog.info? 29).map (·.size) = some (placeL s PA pn pcap page).length by
    rw [show (placeL s PA pn pcap page).length = 45 by unfold placeL; rw [List.length_append, stL_len]; rfl]
    kernel_rfl)
  have HNL := Lib.hid HL.out
  have HNO2 := Lib.hid HNO.out
  generalize placeL s PA pn pcap page = pl at HPR HPS HSE ⊢
  refine wp_region_held_drew (S := fun w' => Keeps (fun _ => False) w13 w') (by kernel_rfl) (Keeps.refl _ w13).drew (fun hH0 => ?_)
  refine wpAnyH_take (i := 0) (v := ?_) rfl (by kernel_rfl) (by kernel_rfl) (by kernel_rfl) (fun _ _ _ h => h) (Or.inl ⟨by rfl, ?_⟩) hH0 ?_
  rotate_left
  · intro w' hSw
    go_simp
    try with_reducible rfl
  simp only [Act.put, List.setIfInBounds_toArray, List.set_cons_zero, List.set_cons_succ]
  refine wpAnyH_take (i := 2) (v := ?_) rfl (by kernel_rfl) (by kernel_rfl) (by kernel_rfl) (fun _ _ _ h => h) (Or.inl ⟨by rfl, ?_⟩) hH0 ?_
  rotate_left
  · intro w' hSw
    go_simp
    try with_reducible rfl
  simp only [Act.put, List.setIfInBounds_toArray, List.set_cons_zero, List.set_cons_succ]
  refine wpAnyH_take (i := 3) (v := ?_) rfl (by kernel_rfl) (by kernel_rfl) (by kernel_rfl) (fun _ _ _ h => h) (Or.inl ⟨by rfl, ?_⟩) hH0 ?_
  rotate_left
  · intro w' hSw
    have c := Keeps.cell' hSw Z2.out (fun f => f)
    go_simp
    try with_reducible rfl
  simp only [Act.put, List.setIfInBounds_toArray, List.set_cons_zero, List.set_cons_succ]
  refine wpAnyH_take (i := 5) (v := ?_) rfl (by kernel_rfl) (by kernel_rfl) (by kernel_rfl) (fun _ _ _ h => h) (Or.inl ⟨by rfl, ?_⟩) hH0 ?_
  rotate_left
  · intro w' hSw
    go_simp
    try with_reducible rfl
  simp only [Act.put, List.setIfInBounds_toArray, List.set_cons_zero, List.set_cons_succ]
  refine wpAnyH_take (i := 6) (v := .agg pl.toArray) rfl (by kernel_rfl) (by kernel_rfl) (by kernel_rfl) (fun _ _ _ h => h) (yieldsIf_load_mid (by rfl) 29 (.tmp 9) rfl x 0 (by go_simp) pl _ (fun w' hSw => range_keep HPR.out hSw) Tryz.underlying29 rfl HPS.out) hH0 ?_
  simp only [Act.put, List.setIfInBounds_toArray, List.set_cons_zero, List.set_cons_succ]
  refine wpAnyH_take (i := 7) (v := ?_) rfl (by kernel_rfl) (by kernel_rfl) (by kernel_rfl) (fun _ _ _ h => h) (Or.inl ⟨by rfl, ?_⟩) hH0 ?_
  rotate_left
  · intro w' hSw
    go_simp
    try with_reducible rfl
  simp only [Act.put, List.setIfInBounds_toArray, List.set_cons_zero, List.set_cons_succ]
  refine wpAnyH_ready (rs := [1]) (by kernel_rfl) (by simp) ?_
  refine AllReadyH.cons rfl (fun K hK => ?_) AllReadyH.nil
  · skip
    go_simp
    refine (HEA.out _ hH0).mono ?_
    rintro e wa ⟨va, rfl, hva, hka1⟩
    go_wp2_with fail
    have hH1 := Keeps.trans hH0 hka1 (fun _ _ h => h)
    refine hK.out _ _ hH1 (fun _ => ?_)
    clear hK K
    try simp only [Act.put, List.setIfInBounds_toArray, List.set_cons_zero, List.set_cons_succ]
    refine wpAnyH_ready (rs := [4]) (by kernel_rfl) (by simp) ?_
    refine AllReadyH.cons rfl (fun K hK => ?_) AllReadyH.nil
    go_simp
    refine (HEB.out _ hH1).mono ?_
    rintro e wb1 ⟨vb, rfl, hvb, hkb1⟩
    go_wp2_with fail
    have hH2 := Keeps.trans hH1 hkb1 (fun _ _ h => h)
    refine hK.out _ _ hH2 (fun _ => ?_)
    clear hK K
    try simp only [Act.put, List.setIfInBounds_toArray, List.set_cons_zero, List.set_cons_succ]
    obtain ⟨A1, k1, rfl, hk1c, hr1⟩ := (hva.quiet hkb1).rows
    obtain ⟨A2, k2, rfl, hk2c, hr2⟩ := hvb.rows
    rw [HNL.out] at hr1 ⊢
    try rw [HNO2.out] at hr2
    try rw [HNO2.out]
    refine wpAnyH_ready (rs := [8]) (by kernel_rfl) (by simp) ?_
    refine AllReadyH.cons rfl (fun K hK => ?_) AllReadyH.nil
    go_simp
    refine (HSE.out A1 k1 A2 k2 _ hH2 hr1 hk1c hr2 hk2c).mono ?_
    rintro e wc ⟨rfl, hkc⟩
    go_wp2_with fail
    have hH3 := Keeps.trans hH2 hkc (fun _ _ h => h)
    refine hK.out _ _ hH3 (fun _ => ?_)
    clear hK K
    try simp only [Act.put, List.setIfInBounds_toArray, List.set_cons_zero, List.set_cons_succ]
    refine wpAnyH_ready (rs := [9]) (by kernel_rfl) (by simp) ?_
    refine AllReadyH.cons rfl (fun K hK => ?_) AllReadyH.nil
    go_simp
    refine hK.out _ _ hH3 (fun _ => ?_)
    clear hK K
    try simp only [Act.put, List.setIfInBounds_toArray, List.set_cons_zero, List.set_cons_succ]
    refine wpAnyH_done (by kernel_rfl) ?_ _
    go_wp2_with fail
    go_ret
    exact ⟨by first | rfl | go_simp, HK13.out.trans hH3 (fun _ _ h => h)⟩

end Go.Proofs.YtgmbladcoikffaaGreatDoor
