import Derived.Test.YtgmbladcoikffaaGreatDoorIru9

/- IrRunsA -/
/- The walk of the law IrRuns: one way of four. Printed by gen/irruns.py. -/
namespace Go.Proofs.YtgmbladcoikffaaGreatDoor
open Go.RowKit Go.Deep
set_option linter.unusedVariables false
set_option linter.unusedSimpArgs false

set_option maxHeartbeats 16000000 in
set_option maxRecDepth 100000 in
theorem irRuns_a (pc many : Int) (A : Option Addr) (n cap : Nat) (l : List Ir.Op) (s : Cp.St) (PA : Option Addr) (pn pcap : Nat) (page : Int) (ws : Nat → Int) (w : World) (ea : Nat → Addr) (E : ErrsAll w ea) (V : OpsAt w A n cap l) (hc : cap ≤ 9223372036854775807) (hok : ∀ o ∈ l, OpOk o)
    (hR : Reads w PA pn pcap (fun i => .int .u32 (ws i))) (hpc : pcap ≤ 9223372036854775807) (hr : ∀ i, i < pn → 0 ≤ ws i ∧ ws i < 4294967296) (hrng : 0 ≤ s.count → s.count < 4611686018427387904 → Cp.Rng s) (hp : 0 ≤ pc ∧ pc < 4294967296) (hfz : (Ir.fault many l).1 = 0) :
    Calls Tryz.prog 3 #[.int .u32 pc, .int .i64 many, .slice A n cap, .agg (placeL s PA pn pcap page).toArray, .bool true] w fun e w' => e = .returned (.bool true) ∧ Keeps (fun _ => False) w w' := by
  have HE := Lib.hid E
  have HV := Lib.hid V
  have HL := Lib.hid V.len
  have HOK := Lib.hid hok
  have HRD := Lib.hid hR
  have HRR := Lib.hid hr
  have HRNG := Lib.hid hrng
  have HP := Lib.hid hp
  have HFZ := Lib.hid hfz
  have hnc := V.le
  have HN := Lib.hid (PlaceAt.new w s PA pn pcap page)
  have HK := Lib.hid ((Keeps.refl (fun _ => False) w).alloc (.cells (placeL s PA pn pcap page).toArray 29))
  have HFS := Lib.hid (fault_small many l)
  have HCF := Lib.hid (fun w V => codeFault_any many A n cap l w V hc)
  obtain ⟨fa, hfa⟩ : ∃ f, Ir.fault many l = f := ⟨_, rfl⟩
  rw [hfa] at HFS HCF
  have HFA := Lib.hid hfa
  obtain ⟨fc, fat⟩ := fa
  have hfc0 : fc = 0 := by have := hfz; rw [hfa] at this; exact this
  have hft : ((fc : Int) == 0) = true := by simp; omega
  have HFC0 := Lib.hid hfc0
  clear E V hok hR hr hrng hp hfz hfa hfc0
  go_enter Tryz.func3, Tryz.ntmps3
  go_upto_region 1 with fail
  have HP1 := Lib.hid HN.out
  have HK1 := Lib.hid HK.out
  clear HN HK
  generalize w.alloc _ = w1 at *
  obtain ⟨x, hx⟩ : ∃ x, w.heap.size = x := ⟨_, rfl⟩
  rw [hx] at HP1 ⊢
  have HX := Lib.hid hx
  clear hx
  go_wp2_with fail
  refine (evaluated_any w1 ea (HE.out.quiet HK1.out).toC (HE.out.quiet HK1.out).three).mono ?_
  rintro e w2 ⟨rfl, hk2⟩
  have HP2 := Lib.hid (HP1.out.keep hk2 (fun h => h))
  have HK2 := Lib.hid (HK1.out.trans hk2 (fun _ _ h => h))
  clear hk2
  go_wp2_with fail
  refine (longOps40_any A n cap l w2 (HV.out.quiet HK2.out) hc).mono ?_
  rintro e w3 ⟨r, rfl, hr, hk3⟩
  have HP3 := Lib.hid (HP2.out.keep hk3 (fun h => h))
  have HK3 := Lib.hid (HK2.out.trans hk3 (fun _ _ h => h))
  clear hk3
  rcases hr with rfl | ⟨rfl, hn⟩
  · go_wp2_with fail
    go_ret
    exact ⟨rfl, HK3.out⟩
  go_wp2_with (refine wpList_load_place _ rfl x s PA pn pcap page HP3.out rfl (by first | rfl | decide) ?_)
  refine (longPlace_any s PA pn pcap page w3).mono ?_
  rintro e w4 ⟨b, rfl, hb, hk4⟩
  have HP4 := Lib.hid (HP3.out.keep hk4 (fun h => h))
  have HK4 := Lib.hid (HK3.out.trans hk4 (fun _ _ h => h))
  clear hk4
  cases b
  case true =>
    go_wp2_with fail
    go_ret
    exact ⟨rfl, HK4.out⟩
  obtain ⟨hpn, hc0, hc1⟩ := hb rfl
  clear hb
  have HSPR := Lib.hid (placedA_rng (HRNG.out hc0 (by omega)) pc HP.out true)
  have HSPC := Lib.hid (show (Ir.placedA s pc true).count ≤ 1099511627776 ∧ (Ir.placedA s pc true).R 0 = 0 from ⟨hc1, rfl⟩)
  have HOW := Lib.hid (ownOps_any A n cap l w4 (HV.out.quiet HK4.out) (by omega))
  go_wp2_with fail
  refine HOW.out.mono ?_
  rintro e w5 ⟨v, rfl, ⟨A3, cap3, rfl, ho3⟩, hk5⟩
  have hka := (Keeps.refl (fun _ => False) w5).alloc (.cells #[.int .u32 pc, .int .i64 many, .slice A3 l.length cap3] 35)
  have HO3 := Lib.hid ((OpsAt.of_owns ho3 rfl).quiet hka)
  have HCAP := owns_cap ho3
  have HA3 := Lib.hid (show ∀ a, A3 = some a → a.block < w5.heap.size from fun a ha => (ho3.lt a.block (by rw [ha]; rfl)).2)
  have HX3 := Lib.hid (CodeBox.new w5 pc many A3 l.length cap3)
  have HK6 := Lib.hid ((HK4.out.trans hk5 (fun _ _ h => h)).trans hka (fun _ _ h => h))
  have HP6 := Lib.hid ((HP4.out.keep hk5 (fun h => h)).keep hka (fun h => h))
  clear hk5 ho3 hka HOW
  go_upto_region 5 with fail
  generalize w5.alloc _ = w6 at *
  generalize w5.heap.size = cb at *
  go_wp2_with fail
  refine (HCF.out w6 (HV.out.quiet HK6.out)).mono ?_
  rintro e w7 ⟨rfl, hk7⟩
  unfold faultV
  dsimp only
  have hka := (Keeps.refl (fun _ => False) w7).alloc (.cells #[.int .i64 fc, .int .i64 fat] 37)
  have HF8 := Lib.hid (FaultBox.new w7 fc fat)
  have HK8 := Lib.hid ((HK6.out.trans hk7 (fun _ _ h => h)).trans hka (fun _ _ h => h))
  have HP8 := Lib.hid ((HP6.out.keep hk7 (fun h => h)).keep hka (fun h => h))
  have HX8 := Lib.hid ((HX3.out.keep hk7 (fun h => h)).keep hka (fun h => h))
  have HO8 := Lib.hid ((HO3.out.quiet hk7).quiet hka)
  have HFBW := Lib.hid (show w.heap.size ≤ w7.heap.size ∧ cb < w7.heap.size ∧ x < w7.heap.size from ⟨Nat.le_trans HK6.out.size hk7.size, Nat.lt_of_lt_of_le HX3.out.lt hk7.size, Nat.lt_of_lt_of_le HP6.out.lt hk7.size⟩)
  have HOFB := Lib.hid (show A3.map (·.block) ≠ some w7.heap.size from fun e => by
    cases hA : A3 with
    | none => rw [hA] at e; cases e
    | some a =>
      have h1 := HA3.out a hA
      have h2 := Nat.lt_of_lt_of_le HX3.out.lt hk7.size
      rw [hA] at e
      injection e with e
      have e2 : a.block = w7.heap.size := e
      omega)
  clear hk7 hka HO3 HX3 HP1 HP2 HP3 HP4 HP6
  go_upto_region 6 with fail
  generalize w7.alloc _ = w8 at *
  obtain ⟨fb, hfb⟩ : ∃ b, w7.heap.size = b := ⟨_, rfl⟩
  rw [hfb] at HF8 HFBW HOFB ⊢
  have HFBE := Lib.hid hfb
  clear hfb
  have HPLC := Lib.hid (fun w => placed_any s PA pn pcap page pc w HP.out)
  obtain ⟨sq, hsq⟩ : ∃ sp, Ir.placed s pc = sp := ⟨_, rfl⟩
  rw [hsq] at HPLC
  have HSPE := Lib.hid (show Ir.placedA s pc true = { sq with slot := true } from by rw [← hsq]; rfl)
  have HSQS := Lib.hid (show sq.slot = false from by rw [← hsq]; rfl)
  have HRDY := Lib.hid (placedA_unready s pc)
  obtain ⟨sp, hsp⟩ : ∃ sp, Ir.placedA s pc true = sp := ⟨_, rfl⟩
  rw [hsp] at HSPR HSPC HSPE HRDY
  clear hsq hsp
  go_wp2_with (refine wpList_load_place _ rfl x s PA pn pcap page HP8.out rfl (by first | rfl | decide) ?_)
  refine (HPLC.out _).mono ?_
  rintro e w9 ⟨rfl, hk9⟩
  have HK9 := Lib.hid (HK8.out.trans hk9 (fun _ _ h => h))
  have HK98 := Lib.hid hk9
  clear hk9
  go_wp2_with (with_reducible refine wpList_store_st rfl _ _ rfl _ _ sq (blk_alloc_new _ _) (by simp) rfl rfl ?_)
  intro w10 hS10 hk10
  have hk10' := ((Keeps.refl (fun _ => False) w9).alloc _).trans hk10 (fun j hj e => absurd (show j = w9.heap.size from e) (Nat.ne_of_lt hj))
  have HS10 := Lib.hid hS10
  have HK10 := Lib.hid (HK9.out.trans hk10' (fun _ _ h => h))
  have HK108 := Lib.hid (HK98.out.trans hk10' (fun _ _ h => h))
  have hsbl : w8.heap.size ≤ w9.heap.size := HK98.out.size
  obtain ⟨sb, hsb⟩ : ∃ b, w9.heap.size = b := ⟨_, rfl⟩
  rw [hsb] at HS10 hsbl ⊢
  have HSBL := Lib.hid hsbl
  clear hS10 hk10 hk10' hsb hsbl
  -- apart
  have q36 := HS10.out.frozen 36
  obtain ⟨_, _, _, _, c36, _⟩ := HS10.out.cells
  have HS11 := Lib.hid (show StAt (w10.setCell ⟨sb, 36, none⟩ (.bool true)) sb sp from by
    have := HS10.out.set (s' := { sq with slot := true }) 4 (.bool true) rfl rfl
    rw [HSPE.out]
    exact this)
  have hk11 := Keeps.one w10 sb 36 (.bool true)
  have HK11 := Lib.hid (show Keeps (fun _ => False) w (w10.setCell ⟨sb, 36, none⟩ (.bool true)) from HK10.out.trans hk11 (fun b hb e => by have e : b = sb := e; have := HSBL.out; have := HK8.out.size; omega))
  have HK118 := Lib.hid (show Keeps (fun _ => False) w8 (w10.setCell ⟨sb, 36, none⟩ (.bool true)) from HK108.out.trans hk11 (fun b hb e => by have e : b = sb := e; have := HSBL.out; omega))
  clear hk11
  go_upto_region 9 with fail
  clear q36 c36
  generalize w10.setCell _ _ = w11 at *
  clear HS10 HK10 HK108 HK9 HK98
  have HX11 := Lib.hid (HX8.out.keep HK118.out (fun h => h))
  have HF11 := Lib.hid (HF8.out.keep HK118.out (fun h => h))
  have HO11 := Lib.hid (HO8.out.quiet HK118.out)
  have HP11 := Lib.hid (HP8.out.keep HK118.out (fun h => h))
  have HCK := Lib.hid (fun w' (k : Keeps (fun _ => False) w11 w') => Check_any pc many A3 l.length cap3 l w' ea (HE.out.quiet (HK11.out.trans k (fun _ _ h => h))).toC (HO11.out.quiet k) HCAP)
  rw [show Ir.fault many l = (fc, fat) from HFA.out] at HCK
  have HFT := Lib.hid (fun w' (k : Keeps (fun _ => False) w11 w') v hv => faulted_any (fc, fat) HFS.out v w' ea (HE.out.quiet (HK11.out.trans k (fun _ _ h => h))) hv)
  unfold faultV at HFT
  dsimp only at HFT
  obtain ⟨d0, d1, d2, _⟩ := HX11.out.cells
  obtain ⟨y0, y1, _, _⟩ := HF11.out.cells
  go_region_held3 (fun w' => Keeps (fun _ => False) w11 w' ∧ w'.cell? ⟨cb, 0, none⟩ = some (.int .u32 pc) ∧ w'.cell? ⟨cb, 1, none⟩ = some (.int .i64 many) ∧ w'.cell? ⟨cb, 2, none⟩ = some (.slice A3 l.length cap3) ∧ w'.cell? ⟨fb, 0, none⟩ = some (.int .i64 fc) ∧ w'.cell? ⟨fb, 1, none⟩ = some (.int .i64 fat))
    (first | (refine ⟨?_, ?_, ?_, ?_, ?_, ?_⟩ <;> first | ((repeat (first | (with_reducible assumption) | (with_reducible (exact Keeps.refl _ _)) | (with_reducible (apply Keeps.drew)) | (with_reducible (apply Keeps.drewN)) | (with_reducible (apply Keeps.alloc)) | (refine Keeps.trans ?_ (by assumption) (fun _ _ h => h)))); done) | (refine Keeps.cell' (S := fun _ => False) (w := w11) ?_ (by assumption) (fun f => f); (repeat (first | (with_reducible assumption) | (with_reducible (exact Keeps.refl _ _)) | (with_reducible (apply Keeps.drew)) | (with_reducible (apply Keeps.drewN)) | (with_reducible (apply Keeps.alloc)) | (refine Keeps.trans ?_ (by assumption) (fun _ _ h => h)))); done)) | (trace_state; fail))
    (first
      | (go_at_call 14; refine (HCK.out _ (by (repeat (first | (with_reducible assumption) | (with_reducible (exact Keeps.refl _ _)) | (with_reducible (apply Keeps.drew)) | (with_reducible (apply Keeps.drewN)) | (with_reducible (apply Keeps.alloc)) | (refine Keeps.trans ?_ (by assumption) (fun _ _ h => h)))); done)).mono ?_; rintro e wA ⟨⟨v, rfl, hv⟩, hkA⟩; have hqA : Keeps (fun _ => False) w11 wA := Keeps.trans (by (repeat (first | (with_reducible assumption) | (with_reducible (exact Keeps.refl _ _)) | (with_reducible (apply Keeps.drew)) | (with_reducible (apply Keeps.drewN)) | (with_reducible (apply Keeps.alloc)) | (refine Keeps.trans ?_ (by assumption) (fun _ _ h => h)))); done) hkA (fun _ _ h => h))
      | (go_at_call 13; refine (HFT.out _ (by (repeat (first | (with_reducible assumption) | (with_reducible (exact Keeps.refl _ _)) | (with_reducible (apply Keeps.drew)) | (with_reducible (apply Keeps.drewN)) | (with_reducible (apply Keeps.alloc)) | (refine Keeps.trans ?_ (by assumption) (fun _ _ h => h)))); done) _ (FaultIs.keep (by assumption) (by (repeat (first | (with_reducible assumption) | (with_reducible (exact Keeps.refl _ _)) | (with_reducible (apply Keeps.drew)) | (with_reducible (apply Keeps.drewN)) | (with_reducible (apply Keeps.alloc)) | (refine Keeps.trans ?_ (by assumption) (fun _ _ h => h)))); done))).mono ?_; rintro e wB ⟨rfl, hkB⟩))
  rename_i hh
  have hkb := hh.1
  clear hh
  have HK12 := Lib.hid (HK11.out.trans hkb (fun _ _ h => h))
  have HX12 := Lib.hid (HX11.out.keep hkb (fun h => h))
  have HF12 := Lib.hid (HF11.out.keep hkb (fun h => h))
  have HO12 := Lib.hid (HO11.out.quiet hkb)
  have HP12 := Lib.hid (HP11.out.keep hkb (fun h => h))
  have HS12 := Lib.hid (HS11.out.keep hkb (fun h => h))
  clear hkb d0 d1 d2 y0 y1 HCK HFT
  try clear hqA
  try clear hkA
  try clear hkB
  try clear hv
  generalize wB = w12 at *
  -- without a state
  obtain ⟨d0, d1, d2, _⟩ := HX12.out.cells
  go_wp2_with fail
  refine (eval_nil pc many A3 l.length cap3 w12 ea (HE.out.quiet HK12.out)).mono ?_
  rintro e w13 ⟨rfl, hk13⟩
  unfold endC
  have hka := (Keeps.refl (fun _ => False) w13).alloc (.cells #[.bool false, .int .i64 0] 45)
  have hkb := hk13.trans hka (fun _ _ h => h)
  have HK14 := Lib.hid (HK12.out.trans hkb (fun _ _ h => h))
  have HX14 := Lib.hid (HX12.out.keep hkb (fun h => h))
  have HF14 := Lib.hid (HF12.out.keep hkb (fun h => h))
  have HO14 := Lib.hid (HO12.out.quiet hkb)
  have HP14 := Lib.hid (HP12.out.keep hkb (fun h => h))
  have HS14 := Lib.hid (HS12.out.keep hkb (fun h => h))
  clear hk13 hka hkb d0 d1 d2
  go_upto_region 12 with fail
  generalize w13.alloc _ = w14 at *
  go_wp2_with fail
  refine (coded_any 3 (by omega) (by omega) w14 ea (HE.out.quiet HK14.out)).mono ?_
  rintro e w15 ⟨rfl, hk15⟩
  have HK15 := Lib.hid (HK14.out.trans hk15 (fun _ _ h => h))
  have HX15 := Lib.hid (HX14.out.keep hk15 (fun h => h))
  have HF15 := Lib.hid (HF14.out.keep hk15 (fun h => h))
  have HO15 := Lib.hid (HO14.out.quiet hk15)
  have HP15 := Lib.hid (HP14.out.keep hk15 (fun h => h))
  have HS15 := Lib.hid (HS14.out.keep hk15 (fun h => h))
  clear hk15 HX14 HF14 HO14 HP14 HS14 HX12 HF12 HO12 HP12 HS12
  obtain ⟨y0, y1, g0, g1⟩ := HF15.out.cells
  go_wp2_with fail
  refine (faultBare_any 9 w15).mono ?_
  rintro e w16 ⟨rfl, hk16⟩
  have HF16 := Lib.hid (HF15.out.keep hk16 (fun h => h))
  unfold faultV
  dsimp only
  clear y0 y1 g0 g1
  obtain ⟨y0, y1, g0, g1⟩ := HF16.out.cells
  have hz := HF16.out.put (c' := 9) (a' := -1)
  have hz1 : FaultBox ((w16.setCell ⟨fb, 0, none⟩ (.int .i64 9)).setCell ⟨fb, 1, none⟩ (.int .i64 (-1))) fb 9 (-1) := hz.1
  have hz2 : Keeps (· = fb) w16 ((w16.setCell ⟨fb, 0, none⟩ (.int .i64 9)).setCell ⟨fb, 1, none⟩ (.int .i64 (-1))) := hz.2
  have hfbw := show w.heap.size ≤ fb from by have := HFBW.out; omega
  have HK17 := Lib.hid ((HK15.out.trans hk16 (fun _ _ h => h)).trans hz2 (fun b hb e => by have e : b = fb := e; omega))
  have HX17 := Lib.hid ((HX15.out.keep hk16 (fun h => h)).keep hz2 (fun e => by have e : cb = fb := e; have := HFBW.out; omega))
  have HO17 := Lib.hid (((HO15.out.quiet hk16)).keep hz2 (fun b hb e => by
    have e : b = fb := e
    subst e
    exact HOFB.out hb))
  have HP17 := Lib.hid ((HP15.out.keep hk16 (fun h => h)).keep hz2 (fun e => by have e : x = fb := e; have := HFBW.out; omega))
  have HS17 := Lib.hid ((HS15.out.keep hk16 (fun h => h)).keep hz2 (fun e => by have e : sb = fb := e; have := HF8.out.lt; have := HSBL.out; omega))
  have HF17 := Lib.hid (show ∃ cc : Nat, FaultBox ((w16.setCell ⟨fb, 0, none⟩ (.int .i64 9)).setCell ⟨fb, 1, none⟩ (.int .i64 (-1))) fb cc (-1) ∧ cc = 9 from ⟨9, hz1, rfl⟩)
  clear hz hz1 hz2 hfbw hk16
  go_upto_region 16 with fail
  clear y0 y1 g0 g1
  generalize World.setCell (World.setCell w16 _ _) _ _ = w17 at *
  obtain ⟨cc, hF17, hcc⟩ := HF17.out
  clear HF17
  have HF17 := Lib.hid hF17
  have HCC := Lib.hid hcc
  have hft2 : ((cc : Int) == 0) = false := by rw [hcc]; decide
  clear hF17 hcc
  obtain ⟨aa, haa⟩ : ∃ a : Int, a = -1 := ⟨_, rfl⟩
  rw [← haa] at HF17
  have HFSS := Lib.hid (show (cc, aa).1 = 0 ∨ (1 ≤ (cc, aa).1 ∧ (cc, aa).1 ≤ 10) from .inr (by show 1 ≤ cc ∧ cc ≤ 10; have := HCC.out; omega))
  have HEVF := Lib.hid (show (Ir.fault many l).1 ≠ 0 ∧ ((cc, aa) : Nat × Int) = Ir.fault many l ∨ (Ir.fault many l).1 = 0 ∧ Ir.ready sp pc = false ∧ ((cc, aa) : Nat × Int) = (9, -1) from .inr ⟨HFZ.out, HRDY.out, by rw [HCC.out, haa]⟩)
  clear haa
  obtain ⟨em, hem⟩ : ∃ m, ramOf (min pn 4096) ws = m := ⟨_, rfl⟩
  have HEMR := Lib.hid (show ∀ j, j < 16384 → 0 ≤ em j ∧ em j < 256 by rw [← hem]; exact ramOf_rng _ _)
  have HMEM := Lib.hid (memory_any s PA pn pcap page ws w17 ea (HE.out.quiet HK17.out).toC (HRD.out.keep HK17.out (fun _ _ _ h => h)) hpc HRR.out)
  have HMOD := Lib.hid (fun w' (k : Keeps (fun _ => False) w17 w') => model_any s PA pn pcap page ws w' (HRD.out.keep (HK17.out.trans k (fun _ _ h => h)) (fun _ _ _ h => h)) hpc HRR.out)
  unfold MemIs at HMEM
  unfold ModelIs at HMOD
  rw [hem] at HMEM HMOD
  clear hem
  go_wp2_with (refine wpList_load_place _ rfl x s PA pn pcap page HP17.out rfl (by first | rfl | decide) ?_)
  refine HMEM.out.mono ?_
  rintro e w18 ⟨r, pb, pw, ph, rfl, hRA, hWA, _, hnew, hk18⟩
  have HP18 := Lib.hid (HP17.out.keep hk18 (fun h => h))
  have HRA18 := Lib.hid hRA
  have HWA18 := Lib.hid hWA
  have HNEWR := Lib.hid hnew
  have HK18 := Lib.hid hk18
  have HPBL := Lib.hid (show pb < w18.heap.size ∧ r < w18.heap.size ∧ pw < w18.heap.size from ⟨hRA.bytes.lt, (Array.getElem?_eq_some_iff.1 hRA.box).1, hWA.lt⟩)
  clear hRA hWA hnew hk18
  go_wp2_with (refine wpList_load_place _ rfl x s PA pn pcap page HP18.out rfl (by first | rfl | decide) ?_)
  refine (HMOD.out w18 HK18.out).mono ?_
  rintro e w19 ⟨q, wb, tb, hb, rfl, hRF, hnewq, hk19⟩
  have HRF19 := Lib.hid hRF
  have HNEWQ := Lib.hid hnewq
  have HQL := Lib.hid (show (q < w19.heap.size ∧ wb < w19.heap.size) ∧ tb < w19.heap.size ∧ hb < w19.heap.size from ⟨⟨(Array.getElem?_eq_some_iff.1 hRF.raw.box).1, hRF.raw.words.lt⟩, hRF.raw.watch.lt, hRF.raw.hit.lt⟩)
  have HK179 := Lib.hid (HK18.out.trans hk19 (fun _ _ h => h))
  have HS19 := Lib.hid (HS17.out.keep HK179.out (fun h => h))
  have HK189 := Lib.hid hk19
  clear hRF hnewq hk19
  -- two states
  go_wp2_with (first
    | (with_reducible refine wpList_load_st rfl _ rfl sb sp HS19.out rfl ?_)
    | (with_reducible refine wpList_store_st rfl _ _ rfl _ _ sp (blk_alloc_new _ _) (by simp) rfl rfl ?_))
  intro w20 hS20 hk20
  have hk20' := ((Keeps.refl (fun _ => False) w19).alloc _).trans hk20 (fun j hj e => absurd (show j = w19.heap.size from e) (Nat.ne_of_lt hj))
  have HXS20 := Lib.hid hS20
  have HK1920 := Lib.hid hk20'
  have HS20 := Lib.hid (HS19.out.keep hk20' (fun h => h))
  obtain ⟨xb, hxb⟩ : ∃ b, w19.heap.size = b := ⟨_, rfl⟩
  rw [hxb] at HXS20 HQL ⊢
  have HXB := Lib.hid (show w18.heap.size ≤ xb by rw [← hxb]; exact HK189.out.size)
  clear hS20 hk20 hk20' hxb
  go_wp2_with (first
    | (with_reducible refine wpList_load_st rfl _ rfl sb sp HS20.out rfl ?_)
    | (with_reducible refine wpList_store_st rfl _ _ rfl _ _ sp (blk_alloc_new _ _) (by simp) rfl rfl ?_))
  intro w21 hS21 hk21
  have hk21' := ((Keeps.refl (fun _ => False) w20).alloc _).trans hk21 (fun j hj e => absurd (show j = w20.heap.size from e) (Nat.ne_of_lt hj))
  have HYS21 := Lib.hid hS21
  have HXS21 := Lib.hid (HXS20.out.keep hk21' (fun h => h))
  have HK1721 := Lib.hid ((HK179.out.trans HK1920.out (fun _ _ h => h)).trans hk21' (fun _ _ h => h))
  have HK1821 := Lib.hid ((HK189.out.trans HK1920.out (fun _ _ h => h)).trans hk21' (fun _ _ h => h))
  have HK1921 := Lib.hid (HK1920.out.trans hk21' (fun _ _ h => h))
  have HXYL := Lib.hid HXS20.out.lt
  obtain ⟨yb, hyb⟩ : ∃ b, w20.heap.size = b := ⟨_, rfl⟩
  rw [hyb] at HYS21 HXYL ⊢
  clear hS21 hk21 hk21' hyb
  have HK21 := Lib.hid (HK17.out.trans HK1721.out (fun _ _ h => h))
  have HX21 := Lib.hid (HX17.out.keep HK1721.out (fun h => h))
  have HF21 := Lib.hid (HF17.out.keep HK1721.out (fun h => h))
  have HO21 := Lib.hid (HO17.out.quiet HK1721.out)
  have HRA21 := Lib.hid (HRA18.out.keep HK1821.out (fun h => h) (fun h => h))
  have HWA21 := Lib.hid (HWA18.out.keep HK1821.out (fun h => h))
  have HRF21 := Lib.hid (HRF19.out.keep HK1921.out ⟨fun h => h, fun h => h, fun h => h, fun h => h⟩)
  have HFBL := Lib.hid HF17.out.lt
  have HORD := Lib.hid (show (fb ≠ xb ∧ fb ≠ pb) ∧ (yb ≠ xb ∧ yb ≠ pb) ∧ ((q ≠ xb ∧ q ≠ pb) ∧ (wb ≠ xb ∧ wb ≠ pb) ∧ (tb ≠ xb ∧ tb ≠ pb) ∧ (hb ≠ xb ∧ hb ≠ pb)) ∧ (xb ≠ r ∧ xb ≠ pb ∧ xb ≠ pw) ∧ (w.heap.size ≤ xb ∧ w.heap.size ≤ pb) ∧ (fb ≠ yb ∧ fb ≠ q) ∧ (pb ≠ yb ∧ pb ≠ q ∧ r ≠ yb ∧ r ≠ q ∧ xb ≠ q ∧ w.heap.size ≤ q) from by
    have h1 := HPBL.out
    have h2 := HNEWR.out
    have h3 := HNEWQ.out
    have h4 := HQL.out
    have h5 := HFBL.out
    have h6 := HXB.out
    have h7 := HXYL.out
    have h8 := HK18.out.size
    have h9 := HK17.out.size
    omega)
  clear HP15 HP17 HP18 HS15 HS17 HS19 HS20 HXS20 HRA18 HWA18 HRF19 HX15 HX17 HF15 HF17 HO15 HO17
  obtain ⟨d0, d1, d2, _⟩ := HX21.out.cells
  have HEV := Lib.hid (eval_err pc many A3 l.length cap3 l xb ⟨r, 0, none⟩ sp w21 ea (HE.out.quiet HK21.out) HO21.out HCAP HXS21.out HP.out (cc, aa) HEVF.out)
  have hne : (Value.pointer (some ⟨r, 0, none⟩)) ≠ .pointer none := by intro h; cases h
  go_wp2_with fail
  refine HEV.out.mono ?_
  rintro e w22 ⟨ev, rfl, hfv, hk22⟩
  unfold endC
  have hka := (Keeps.refl (fun _ => False) w22).alloc (.cells #[.bool false, .int .i64 0] 45)
  have hkb := hk22.trans hka (fun _ _ h => h)
  have HE23 := Lib.hid (EndBox.new w22 false 0)
  have HK23 := Lib.hid (HK21.out.trans hkb (fun _ _ h => h))
  have HFV := Lib.hid ((hfv.keep hka))
  have HF23 := Lib.hid (HF21.out.keep hkb (fun h => h))
  have HXS23 := Lib.hid (HXS21.out.keep hkb (fun h => h))
  have HYS23 := Lib.hid (HYS21.out.keep hkb (fun h => h))
  have HRA23 := Lib.hid (HRA21.out.keep hkb (fun h => h) (fun h => h))
  have HRF23 := Lib.hid (HRF21.out.keep hkb ⟨fun h => h, fun h => h, fun h => h, fun h => h⟩)
  clear hk22 hka hkb hfv d0 d1 d2
  go_upto_region 21 with fail
  generalize w22.alloc _ = w23 at *
  generalize w22.heap.size = eb at *
  obtain ⟨y0, y1, _, _⟩ := HF23.out.cells
  have HFT3 := Lib.hid (faulted_any (cc, aa) HFSS.out ev w23 ea (HE.out.quiet HK23.out) HFV.out)
  unfold faultV at HFT3
  dsimp only at HFT3
  go_wp2_with fail
  refine HFT3.out.mono ?_
  rintro e w24 ⟨rfl, hk24⟩
  have hka := (Keeps.refl (fun _ => False) w24).alloc (.cells #[.bool false, .int .i64 0, .bool false] 56)
  have hkb := hk24.trans hka (fun _ _ h => h)
  have HZ25 := Lib.hid (REndBox.new w24 false 0 false)
  have HF25 := Lib.hid (HF23.out.keep hkb (fun h => h))
  have HE25 := Lib.hid (HE23.out.keep hkb (fun h => h))
  have HK25 := Lib.hid (HK23.out.trans hkb (fun _ _ h => h))
  have HXS25 := Lib.hid (HXS23.out.keep hkb (fun h => h))
  have HYS25 := Lib.hid (HYS23.out.keep hkb (fun h => h))
  have HRA25 := Lib.hid (HRA23.out.keep hkb (fun h => h) (fun h => h))
  have HRF25 := Lib.hid (HRF23.out.keep hkb ⟨fun h => h, fun h => h, fun h => h, fun h => h⟩)
  simp only [rendC] at HZ25
  clear hk24 hka hkb y0 y1
  go_upto_region 24 with fail
  generalize w24.alloc _ = w25 at *
  generalize w24.heap.size = zb at *
  obtain ⟨y0, y1, _, _⟩ := HF25.out.cells
  go_upto_region 26 with fail
  have HSR := Lib.hid HSPR.out
  clear y0 y1 HE23 HF23 HXS23 HYS23 HRA23 HRF23 HXS21 HYS21
  have hr1 := HXS25.out.range
  have hr2 := HYS25.out.range
  have HI : Hid ((Tryz.prog.info? 26).map (·.size) = some (stL sp).length) := Lib.hid (by rw [stL_len]; exact size_st)
  have HU := Lib.hid Tryz.underlying26
  have HQ := Lib.hid (fun w => equal_st w sp HSR.out)
  have Z0 := Lib.hid HE25.out.cells.1
  have Z1 := Lib.hid HE25.out.cells.2.1
  have Z2 := Lib.hid HZ25.out.cells.1
  have Z3 := Lib.hid HZ25.out.cells.2.1
  have Z4 := Lib.hid (cell_at HRF25.out.raw.box 0)
  have HWR := Lib.hid HRF25.out.raw.words
  generalize stL sp = cs at hr1 hr2 HI HQ ⊢
  refine wp_region_held_drew (S := fun w' => Keeps (fun _ => False) w25 w') (by kernel_rfl) (Keeps.refl _ w25).drew (fun hH0 => ?_)
  refine wpAnyH_take (i := 0) (v := ?_) rfl (by kernel_rfl) (by kernel_rfl) (by kernel_rfl) (fun _ _ _ h => h) (Or.inl ⟨by rfl, ?_⟩) hH0 ?_
  rotate_left
  · intro w' hSw
    go_simp
    try with_reducible rfl
  simp only [Act.put, List.setIfInBounds_toArray, List.set_cons_zero, List.set_cons_succ]
  refine wpAnyH_take (i := 1) (v := ?_) rfl (by kernel_rfl) (by kernel_rfl) (by kernel_rfl) (fun _ _ _ h => h) (Or.inl ⟨by rfl, ?_⟩) hH0 ?_
  rotate_left
  · intro w' hSw
    have c := Keeps.cell' hSw Z0.out (fun f => f)
    go_simp
    try with_reducible rfl
  simp only [Act.put, List.setIfInBounds_toArray, List.set_cons_zero, List.set_cons_succ]
  refine wpAnyH_take (i := 2) (v := ?_) rfl (by kernel_rfl) (by kernel_rfl) (by kernel_rfl) (fun _ _ _ h => h) (Or.inl ⟨by rfl, ?_⟩) hH0 ?_
  rotate_left
  · intro w' hSw
    go_simp
    try with_reducible rfl
  simp only [Act.put, List.setIfInBounds_toArray, List.set_cons_zero, List.set_cons_succ]
  refine wpAnyH_take (i := 3) (v := ?_) rfl (by kernel_rfl) (by kernel_rfl) (by kernel_rfl) (fun _ _ _ h => h) (Or.inl ⟨by rfl, ?_⟩) hH0 ?_
  rotate_left
  · intro w' hSw
    have c := Keeps.cell' hSw Z2.out (fun f => f)
    go_simp
    try with_reducible rfl
  simp only [Act.put, List.setIfInBounds_toArray, List.set_cons_zero, List.set_cons_succ]
  refine wpAnyH_take (i := 4) (v := ?_) rfl (by kernel_rfl) (by kernel_rfl) (by kernel_rfl) (fun _ _ _ h => h) (Or.inl ⟨by rfl, ?_⟩) hH0 ?_
  rotate_left
  · intro w' hSw
    go_simp
    try with_reducible rfl
  simp only [Act.put, List.setIfInBounds_toArray, List.set_cons_zero, List.set_cons_succ]
  refine wpAnyH_take (i := 5) (v := ?_) rfl (by kernel_rfl) (by kernel_rfl) (by kernel_rfl) (fun _ _ _ h => h) (Or.inl ⟨by rfl, ?_⟩) hH0 ?_
  rotate_left
  · intro w' hSw
    go_simp
    try with_reducible rfl
  simp only [Act.put, List.setIfInBounds_toArray, List.set_cons_zero, List.set_cons_succ]
  refine wpAnyH_take (i := 6) (v := ?_) rfl (by kernel_rfl) (by kernel_rfl) (by kernel_rfl) (fun _ _ _ h => h) (Or.inl ⟨by go_simp, ?_⟩) hH0 ?_
  rotate_left
  · intro w' hSw
    go_simp
    try with_reducible rfl
  simp only [Act.put, List.setIfInBounds_toArray, List.set_cons_zero, List.set_cons_succ]
  refine wpAnyH_take (i := 7) (v := ?_) rfl (by kernel_rfl) (by kernel_rfl) (by kernel_rfl) (fun _ _ _ h => h) (Or.inl ⟨by go_simp, ?_⟩) hH0 ?_
  rotate_left
  · intro w' hSw
    have c := Keeps.cell' hSw Z1.out (fun f => f)
    go_simp
    try with_reducible rfl
  simp only [Act.put, List.setIfInBounds_toArray, List.set_cons_zero, List.set_cons_succ]
  refine wpAnyH_take (i := 8) (v := ?_) rfl (by kernel_rfl) (by kernel_rfl) (by kernel_rfl) (fun _ _ _ h => h) (Or.inl ⟨by go_simp, ?_⟩) hH0 ?_
  rotate_left
  · intro w' hSw
    go_simp
    try with_reducible rfl
  simp only [Act.put, List.setIfInBounds_toArray, List.set_cons_zero, List.set_cons_succ]
  refine wpAnyH_take (i := 9) (v := ?_) rfl (by kernel_rfl) (by kernel_rfl) (by kernel_rfl) (fun _ _ _ h => h) (Or.inl ⟨by go_simp, ?_⟩) hH0 ?_
  rotate_left
  · intro w' hSw
    have c := Keeps.cell' hSw Z3.out (fun f => f)
    go_simp
    try with_reducible rfl
  simp only [Act.put, List.setIfInBounds_toArray, List.set_cons_zero, List.set_cons_succ]
  refine wpAnyH_take (i := 10) (v := ?_) rfl (by kernel_rfl) (by kernel_rfl) (by kernel_rfl) (fun _ _ _ h => h) (Or.inl ⟨by go_simp, ?_⟩) hH0 ?_
  rotate_left
  · intro w' hSw
    go_simp
    try with_reducible rfl
  simp only [Act.put, List.setIfInBounds_toArray, List.set_cons_zero, List.set_cons_succ]
  refine wpAnyH_take (i := 11) (v := ?_) rfl (by kernel_rfl) (by kernel_rfl) (by kernel_rfl) (fun _ _ _ h => h) (Or.inl ⟨by rfl, ?_⟩) hH0 ?_
  rotate_left
  · intro w' hSw
    go_simp
    try with_reducible rfl
  simp only [Act.put, List.setIfInBounds_toArray, List.set_cons_zero, List.set_cons_succ]
  refine wpAnyH_take (i := 12) (v := ?_) rfl (by kernel_rfl) (by kernel_rfl) (by kernel_rfl) (fun _ _ _ h => h) (Or.inl ⟨by rfl, ?_⟩) hH0 ?_
  rotate_left
  · intro w' hSw
    go_simp
    try with_reducible rfl
  simp only [Act.put, List.setIfInBounds_toArray, List.set_cons_zero, List.set_cons_succ]
  refine wpAnyH_take (i := 13) (v := .agg cs.toArray) rfl (by kernel_rfl) (by kernel_rfl) (by kernel_rfl) (fun _ _ _ h => h) (yieldsIf_load_mid (by go_simp) 26 (.tmp 19) rfl xb 0 (by go_simp) cs _ (fun w' hSw => range_keep hr1 hSw) HU.out rfl HI.out) hH0 ?_
  simp only [Act.put, List.setIfInBounds_toArray, List.set_cons_zero, List.set_cons_succ]
  refine wpAnyH_take (i := 14) (v := .agg cs.toArray) rfl (by kernel_rfl) (by kernel_rfl) (by kernel_rfl) (fun _ _ _ h => h) (yieldsIf_load_mid (by go_simp) 26 (.tmp 20) rfl yb 0 (by go_simp) cs _ (fun w' hSw => range_keep hr2 hSw) HU.out rfl HI.out) hH0 ?_
  simp only [Act.put, List.setIfInBounds_toArray, List.set_cons_zero, List.set_cons_succ]
  refine wpAnyH_take (i := 15) (v := .bool true) rfl (by kernel_rfl) (by kernel_rfl) (by kernel_rfl) (fun _ _ _ h => h) (yieldsIf_eql_agg (by go_simp) 26 26 (.tmp 110) (.tmp 111) rfl cs.toArray eqg_st HQ.out (by go_simp) (by go_simp)) hH0 ?_
  simp only [Act.put, List.setIfInBounds_toArray, List.set_cons_zero, List.set_cons_succ]
  refine wpAnyH_take (i := 16) (v := ?_) rfl (by kernel_rfl) (by kernel_rfl) (by kernel_rfl) (fun _ _ _ h => h) (Or.inl ⟨by rfl, ?_⟩) hH0 ?_
  rotate_left
  · intro w' hSw
    go_simp
    try with_reducible rfl
  simp only [Act.put, List.setIfInBounds_toArray, List.set_cons_zero, List.set_cons_succ]
  refine wpAnyH_take (i := 17) (v := ?_) rfl (by kernel_rfl) (by kernel_rfl) (by kernel_rfl) (fun _ _ _ h => h) (Or.inl ⟨by rfl, ?_⟩) hH0 ?_
  rotate_left
  · intro w' hSw
    go_simp
    try with_reducible rfl
  simp only [Act.put, List.setIfInBounds_toArray, List.set_cons_zero, List.set_cons_succ]
  refine wpAnyH_take (i := 18) (v := ?_) rfl (by kernel_rfl) (by kernel_rfl) (by kernel_rfl) (fun _ _ _ h => h) (Or.inl ⟨by go_simp, ?_⟩) hH0 ?_
  rotate_left
  · intro w' hSw
    go_simp
    try with_reducible rfl
  simp only [Act.put, List.setIfInBounds_toArray, List.set_cons_zero, List.set_cons_succ]
  refine wpAnyH_take (i := 20) (v := ?_) rfl (by kernel_rfl) (by kernel_rfl) (by kernel_rfl) (fun _ _ _ h => h) (Or.inl ⟨by go_simp, ?_⟩) hH0 ?_
  rotate_left
  · intro w' hSw
    go_simp
    try with_reducible rfl
  simp only [Act.put, List.setIfInBounds_toArray, List.set_cons_zero, List.set_cons_succ]
  refine wpAnyH_take (i := 21) (v := ?_) rfl (by kernel_rfl) (by kernel_rfl) (by kernel_rfl) (fun _ _ _ h => h) (Or.inl ⟨by go_simp, ?_⟩) hH0 ?_
  rotate_left
  · intro w' hSw
    go_simp
    try with_reducible rfl
  simp only [Act.put, List.setIfInBounds_toArray, List.set_cons_zero, List.set_cons_succ]
  refine wpAnyH_take (i := 22) (v := ?_) rfl (by kernel_rfl) (by kernel_rfl) (by kernel_rfl) (fun _ _ _ h => h) (Or.inl ⟨by go_simp, ?_⟩) hH0 ?_
  rotate_left
  · intro w' hSw
    go_simp
    try with_reducible rfl
  simp only [Act.put, List.setIfInBounds_toArray, List.set_cons_zero, List.set_cons_succ]
  refine wpAnyH_take (i := 23) (v := ?_) rfl (by kernel_rfl) (by kernel_rfl) (by kernel_rfl) (fun _ _ _ h => h) (Or.inl ⟨by go_simp, ?_⟩) hH0 ?_
  rotate_left
  · intro w' hSw
    have c := Keeps.cell' hSw Z4.out (fun f => f)
    go_simp
    try with_reducible rfl
  simp only [Act.put, List.setIfInBounds_toArray, List.set_cons_zero, List.set_cons_succ]
  refine wpAnyH_ready (rs := [19]) (by kernel_rfl) (by simp) ?_
  refine AllReadyH.cons rfl (fun K hK => ?_) AllReadyH.nil
  go_simp
  refine (words_two r pb pw ph em _ (HRA25.out.keep hH0 (fun h => h) (fun h => h))).mono ?_
  rintro e wx1 ⟨gg, rfl, hra1, hkx1⟩
  go_wp2_with fail
  have hH1 := Keeps.trans hH0 hkx1 (fun _ _ h => h)
  refine hK.out _ _ hH1 (fun _ => ?_)
  clear hK K
  try simp only [Act.put, List.setIfInBounds_toArray, List.set_cons_zero, List.set_cons_succ]
  refine wpAnyH_ready (rs := [24]) (by kernel_rfl) (by simp) ?_
  refine AllReadyH.cons rfl (fun K hK => ?_) AllReadyH.nil
  go_simp
  refine (alike_same gg wb 4096 4096 4096 (fun k => be em (4 * k) 4) wx1 (by omega) (by omega) (by omega) (fun i hi => hra1.cell hi) (fun i hi => (Keeps.rowTo hH1 HWR.out (fun h => h)).cell hi)).mono ?_
  rintro e wx2 ⟨rfl, hkx2⟩
  go_wp2_with fail
  have hH2 := Keeps.trans hH1 hkx2 (fun _ _ h => h)
  refine hK.out _ _ hH2 (fun _ => ?_)
  clear hK K
  try simp only [Act.put, List.setIfInBounds_toArray, List.set_cons_zero, List.set_cons_succ]
  refine wpAnyH_ready (rs := [25]) (by kernel_rfl) (by simp) ?_
  refine AllReadyH.cons rfl (fun K hK => ?_) AllReadyH.nil
  go_simp
  refine hK.out _ _ hH2 (fun _ => ?_)
  clear hK K
  try simp only [Act.put, List.setIfInBounds_toArray, List.set_cons_zero, List.set_cons_succ]
  refine wpAnyH_ready (rs := [26]) (by kernel_rfl) (by simp) ?_
  refine AllReadyH.cons rfl (fun K hK => ?_) AllReadyH.nil
  go_simp
  refine hK.out _ _ hH2 (fun _ => ?_)
  clear hK K
  try simp only [Act.put, List.setIfInBounds_toArray, List.set_cons_zero, List.set_cons_succ]
  refine wpAnyH_ready (rs := [27]) (by kernel_rfl) (by simp) ?_
  refine AllReadyH.cons rfl (fun K hK => ?_) AllReadyH.nil
  go_simp
  refine hK.out _ _ hH2 (fun _ => ?_)
  clear hK K
  try simp only [Act.put, List.setIfInBounds_toArray, List.set_cons_zero, List.set_cons_succ]
  refine wpAnyH_done (by kernel_rfl) ?_ _
  go_wp2_with fail
  go_ret
  exact ⟨by go_simp, HK25.out.trans hH2 (fun _ _ h => h)⟩
end Go.Proofs.YtgmbladcoikffaaGreatDoor

/- IrRunsB -/
/- The walk of the law IrRuns: one way of four. Printed by gen/irruns.py. -/
namespace Go.Proofs.YtgmbladcoikffaaGreatDoor
open Go.RowKit Go.Deep
set_option linter.unusedVariables false
set_option linter.unusedSimpArgs false

set_option maxHeartbeats 16000000 in
set_option maxRecDepth 100000 in
theorem irRuns_b (pc many : Int) (A : Option Addr) (n cap : Nat) (l : List Ir.Op) (s : Cp.St) (PA : Option Addr) (pn pcap : Nat) (page : Int) (ws : Nat → Int) (w : World) (ea : Nat → Addr) (E : ErrsAll w ea) (V : OpsAt w A n cap l) (hc : cap ≤ 9223372036854775807) (hok : ∀ o ∈ l, OpOk o)
    (hR : Reads w PA pn pcap (fun i => .int .u32 (ws i))) (hpc : pcap ≤ 9223372036854775807) (hr : ∀ i, i < pn → 0 ≤ ws i ∧ ws i < 4294967296) (hrng : 0 ≤ s.count → s.count < 4611686018427387904 → Cp.Rng s) (hp : 0 ≤ pc ∧ pc < 4294967296) (hfz : (Ir.fault many l).1 ≠ 0) :
    Calls Tryz.prog 3 #[.int .u32 pc, .int .i64 many, .slice A n cap, .agg (placeL s PA pn pcap page).toArray, .bool true] w fun e w' => e = .returned (.bool true) ∧ Keeps (fun _ => False) w w' := by
  have HE := Lib.hid E
  have HV := Lib.hid V
  have HL := Lib.hid V.len
  have HOK := Lib.hid hok
  have HRD := Lib.hid hR
  have HRR := Lib.hid hr
  have HRNG := Lib.hid hrng
  have HP := Lib.hid hp
  have HFZ := Lib.hid hfz
  have hnc := V.le
  have HN := Lib.hid (PlaceAt.new w s PA pn pcap page)
  have HK := Lib.hid ((Keeps.refl (fun _ => False) w).alloc (.cells (placeL s PA pn pcap page).toArray 29))
  have HFS := Lib.hid (fault_small many l)
  have HCF := Lib.hid (fun w V => codeFault_any many A n cap l w V hc)
  obtain ⟨fa, hfa⟩ : ∃ f, Ir.fault many l = f := ⟨_, rfl⟩
  rw [hfa] at HFS HCF
  have HFA := Lib.hid hfa
  obtain ⟨fc, fat⟩ := fa
  have hfc0 : fc ≠ 0 := by have := hfz; rw [hfa] at this; exact this
  have hft : ((fc : Int) == 0) = false := by simp; omega
  have HFC0 := Lib.hid hfc0
  clear E V hok hR hr hrng hp hfz hfa hfc0
  go_enter Tryz.func3, Tryz.ntmps3
  go_upto_region 1 with fail
  have HP1 := Lib.hid HN.out
  have HK1 := Lib.hid HK.out
  clear HN HK
  generalize w.alloc _ = w1 at *
  obtain ⟨x, hx⟩ : ∃ x, w.heap.size = x := ⟨_, rfl⟩
  rw [hx] at HP1 ⊢
  have HX := Lib.hid hx
  clear hx
  go_wp2_with fail
  refine (evaluated_any w1 ea (HE.out.quiet HK1.out).toC (HE.out.quiet HK1.out).three).mono ?_
  rintro e w2 ⟨rfl, hk2⟩
  have HP2 := Lib.hid (HP1.out.keep hk2 (fun h => h))
  have HK2 := Lib.hid (HK1.out.trans hk2 (fun _ _ h => h))
  clear hk2
  go_wp2_with fail
  refine (longOps40_any A n cap l w2 (HV.out.quiet HK2.out) hc).mono ?_
  rintro e w3 ⟨r, rfl, hr, hk3⟩
  have HP3 := Lib.hid (HP2.out.keep hk3 (fun h => h))
  have HK3 := Lib.hid (HK2.out.trans hk3 (fun _ _ h => h))
  clear hk3
  rcases hr with rfl | ⟨rfl, hn⟩
  · go_wp2_with fail
    go_ret
    exact ⟨rfl, HK3.out⟩
  go_wp2_with (refine wpList_load_place _ rfl x s PA pn pcap page HP3.out rfl (by first | rfl | decide) ?_)
  refine (longPlace_any s PA pn pcap page w3).mono ?_
  rintro e w4 ⟨b, rfl, hb, hk4⟩
  have HP4 := Lib.hid (HP3.out.keep hk4 (fun h => h))
  have HK4 := Lib.hid (HK3.out.trans hk4 (fun _ _ h => h))
  clear hk4
  cases b
  case true =>
    go_wp2_with fail
    go_ret
    exact ⟨rfl, HK4.out⟩
  obtain ⟨hpn, hc0, hc1⟩ := hb rfl
  clear hb
  have HSPR := Lib.hid (placedA_rng (HRNG.out hc0 (by omega)) pc HP.out true)
  have HSPC := Lib.hid (show (Ir.placedA s pc true).count ≤ 1099511627776 ∧ (Ir.placedA s pc true).R 0 = 0 from ⟨hc1, rfl⟩)
  have HOW := Lib.hid (ownOps_any A n cap l w4 (HV.out.quiet HK4.out) (by omega))
  go_wp2_with fail
  refine HOW.out.mono ?_
  rintro e w5 ⟨v, rfl, ⟨A3, cap3, rfl, ho3⟩, hk5⟩
  have hka := (Keeps.refl (fun _ => False) w5).alloc (.cells #[.int .u32 pc, .int .i64 many, .slice A3 l.length cap3] 35)
  have HO3 := Lib.hid ((OpsAt.of_owns ho3 rfl).quiet hka)
  have HCAP := owns_cap ho3
  have HA3 := Lib.hid (show ∀ a, A3 = some a → a.block < w5.heap.size from fun a ha => (ho3.lt a.block (by rw [ha]; rfl)).2)
  have HX3 := Lib.hid (CodeBox.new w5 pc many A3 l.length cap3)
  have HK6 := Lib.hid ((HK4.out.trans hk5 (fun _ _ h => h)).trans hka (fun _ _ h => h))
  have HP6 := Lib.hid ((HP4.out.keep hk5 (fun h => h)).keep hka (fun h => h))
  clear hk5 ho3 hka HOW
  go_upto_region 5 with fail
  generalize w5.alloc _ = w6 at *
  generalize w5.heap.size = cb at *
  go_wp2_with fail
  refine (HCF.out w6 (HV.out.quiet HK6.out)).mono ?_
  rintro e w7 ⟨rfl, hk7⟩
  unfold faultV
  dsimp only
  have hka := (Keeps.refl (fun _ => False) w7).alloc (.cells #[.int .i64 fc, .int .i64 fat] 37)
  have HF8 := Lib.hid (FaultBox.new w7 fc fat)
  have HK8 := Lib.hid ((HK6.out.trans hk7 (fun _ _ h => h)).trans hka (fun _ _ h => h))
  have HP8 := Lib.hid ((HP6.out.keep hk7 (fun h => h)).keep hka (fun h => h))
  have HX8 := Lib.hid ((HX3.out.keep hk7 (fun h => h)).keep hka (fun h => h))
  have HO8 := Lib.hid ((HO3.out.quiet hk7).quiet hka)
  have HFBW := Lib.hid (show w.heap.size ≤ w7.heap.size ∧ cb < w7.heap.size ∧ x < w7.heap.size from ⟨Nat.le_trans HK6.out.size hk7.size, Nat.lt_of_lt_of_le HX3.out.lt hk7.size, Nat.lt_of_lt_of_le HP6.out.lt hk7.size⟩)
  have HOFB := Lib.hid (show A3.map (·.block) ≠ some w7.heap.size from fun e => by
    cases hA : A3 with
    | none => rw [hA] at e; cases e
    | some a =>
      have h1 := HA3.out a hA
      have h2 := Nat.lt_of_lt_of_le HX3.out.lt hk7.size
      rw [hA] at e
      injection e with e
      have e2 : a.block = w7.heap.size := e
      omega)
  clear hk7 hka HO3 HX3 HP1 HP2 HP3 HP4 HP6
  go_upto_region 6 with fail
  generalize w7.alloc _ = w8 at *
  obtain ⟨fb, hfb⟩ : ∃ b, w7.heap.size = b := ⟨_, rfl⟩
  rw [hfb] at HF8 HFBW HOFB ⊢
  have HFBE := Lib.hid hfb
  clear hfb
  have HPLC := Lib.hid (fun w => placed_any s PA pn pcap page pc w HP.out)
  obtain ⟨sq, hsq⟩ : ∃ sp, Ir.placed s pc = sp := ⟨_, rfl⟩
  rw [hsq] at HPLC
  have HSPE := Lib.hid (show Ir.placedA s pc true = { sq with slot := true } from by rw [← hsq]; rfl)
  have HSQS := Lib.hid (show sq.slot = false from by rw [← hsq]; rfl)
  have HRDY := Lib.hid (placedA_unready s pc)
  obtain ⟨sp, hsp⟩ : ∃ sp, Ir.placedA s pc true = sp := ⟨_, rfl⟩
  rw [hsp] at HSPR HSPC HSPE HRDY
  clear hsq hsp
  go_wp2_with (refine wpList_load_place _ rfl x s PA pn pcap page HP8.out rfl (by first | rfl | decide) ?_)
  refine (HPLC.out _).mono ?_
  rintro e w9 ⟨rfl, hk9⟩
  have HK9 := Lib.hid (HK8.out.trans hk9 (fun _ _ h => h))
  have HK98 := Lib.hid hk9
  clear hk9
  go_wp2_with (with_reducible refine wpList_store_st rfl _ _ rfl _ _ sq (blk_alloc_new _ _) (by simp) rfl rfl ?_)
  intro w10 hS10 hk10
  have hk10' := ((Keeps.refl (fun _ => False) w9).alloc _).trans hk10 (fun j hj e => absurd (show j = w9.heap.size from e) (Nat.ne_of_lt hj))
  have HS10 := Lib.hid hS10
  have HK10 := Lib.hid (HK9.out.trans hk10' (fun _ _ h => h))
  have HK108 := Lib.hid (HK98.out.trans hk10' (fun _ _ h => h))
  have hsbl : w8.heap.size ≤ w9.heap.size := HK98.out.size
  obtain ⟨sb, hsb⟩ : ∃ b, w9.heap.size = b := ⟨_, rfl⟩
  rw [hsb] at HS10 hsbl ⊢
  have HSBL := Lib.hid hsbl
  clear hS10 hk10 hk10' hsb hsbl
  -- apart
  have q36 := HS10.out.frozen 36
  obtain ⟨_, _, _, _, c36, _⟩ := HS10.out.cells
  have HS11 := Lib.hid (show StAt (w10.setCell ⟨sb, 36, none⟩ (.bool true)) sb sp from by
    have := HS10.out.set (s' := { sq with slot := true }) 4 (.bool true) rfl rfl
    rw [HSPE.out]
    exact this)
  have hk11 := Keeps.one w10 sb 36 (.bool true)
  have HK11 := Lib.hid (show Keeps (fun _ => False) w (w10.setCell ⟨sb, 36, none⟩ (.bool true)) from HK10.out.trans hk11 (fun b hb e => by have e : b = sb := e; have := HSBL.out; have := HK8.out.size; omega))
  have HK118 := Lib.hid (show Keeps (fun _ => False) w8 (w10.setCell ⟨sb, 36, none⟩ (.bool true)) from HK108.out.trans hk11 (fun b hb e => by have e : b = sb := e; have := HSBL.out; omega))
  clear hk11
  go_upto_region 9 with fail
  clear q36 c36
  generalize w10.setCell _ _ = w11 at *
  clear HS10 HK10 HK108 HK9 HK98
  have HX11 := Lib.hid (HX8.out.keep HK118.out (fun h => h))
  have HF11 := Lib.hid (HF8.out.keep HK118.out (fun h => h))
  have HO11 := Lib.hid (HO8.out.quiet HK118.out)
  have HP11 := Lib.hid (HP8.out.keep HK118.out (fun h => h))
  have HCK := Lib.hid (fun w' (k : Keeps (fun _ => False) w11 w') => Check_any pc many A3 l.length cap3 l w' ea (HE.out.quiet (HK11.out.trans k (fun _ _ h => h))).toC (HO11.out.quiet k) HCAP)
  rw [show Ir.fault many l = (fc, fat) from HFA.out] at HCK
  have HFT := Lib.hid (fun w' (k : Keeps (fun _ => False) w11 w') v hv => faulted_any (fc, fat) HFS.out v w' ea (HE.out.quiet (HK11.out.trans k (fun _ _ h => h))) hv)
  unfold faultV at HFT
  dsimp only at HFT
  obtain ⟨d0, d1, d2, _⟩ := HX11.out.cells
  obtain ⟨y0, y1, _, _⟩ := HF11.out.cells
  go_region_held3 (fun w' => Keeps (fun _ => False) w11 w' ∧ w'.cell? ⟨cb, 0, none⟩ = some (.int .u32 pc) ∧ w'.cell? ⟨cb, 1, none⟩ = some (.int .i64 many) ∧ w'.cell? ⟨cb, 2, none⟩ = some (.slice A3 l.length cap3) ∧ w'.cell? ⟨fb, 0, none⟩ = some (.int .i64 fc) ∧ w'.cell? ⟨fb, 1, none⟩ = some (.int .i64 fat))
    (first | (refine ⟨?_, ?_, ?_, ?_, ?_, ?_⟩ <;> first | ((repeat (first | (with_reducible assumption) | (with_reducible (exact Keeps.refl _ _)) | (with_reducible (apply Keeps.drew)) | (with_reducible (apply Keeps.drewN)) | (with_reducible (apply Keeps.alloc)) | (refine Keeps.trans ?_ (by assumption) (fun _ _ h => h)))); done) | (refine Keeps.cell' (S := fun _ => False) (w := w11) ?_ (by assumption) (fun f => f); (repeat (first | (with_reducible assumption) | (with_reducible (exact Keeps.refl _ _)) | (with_reducible (apply Keeps.drew)) | (with_reducible (apply Keeps.drewN)) | (with_reducible (apply Keeps.alloc)) | (refine Keeps.trans ?_ (by assumption) (fun _ _ h => h)))); done)) | (trace_state; fail))
    (first
      | (go_at_call 14; refine (HCK.out _ (by (repeat (first | (with_reducible assumption) | (with_reducible (exact Keeps.refl _ _)) | (with_reducible (apply Keeps.drew)) | (with_reducible (apply Keeps.drewN)) | (with_reducible (apply Keeps.alloc)) | (refine Keeps.trans ?_ (by assumption) (fun _ _ h => h)))); done)).mono ?_; rintro e wA ⟨⟨v, rfl, hv⟩, hkA⟩; have hqA : Keeps (fun _ => False) w11 wA := Keeps.trans (by (repeat (first | (with_reducible assumption) | (with_reducible (exact Keeps.refl _ _)) | (with_reducible (apply Keeps.drew)) | (with_reducible (apply Keeps.drewN)) | (with_reducible (apply Keeps.alloc)) | (refine Keeps.trans ?_ (by assumption) (fun _ _ h => h)))); done) hkA (fun _ _ h => h))
      | (go_at_call 13; refine (HFT.out _ (by (repeat (first | (with_reducible assumption) | (with_reducible (exact Keeps.refl _ _)) | (with_reducible (apply Keeps.drew)) | (with_reducible (apply Keeps.drewN)) | (with_reducible (apply Keeps.alloc)) | (refine Keeps.trans ?_ (by assumption) (fun _ _ h => h)))); done) _ (FaultIs.keep (by assumption) (by (repeat (first | (with_reducible assumption) | (with_reducible (exact Keeps.refl _ _)) | (with_reducible (apply Keeps.drew)) | (with_reducible (apply Keeps.drewN)) | (with_reducible (apply Keeps.alloc)) | (refine Keeps.trans ?_ (by assumption) (fun _ _ h => h)))); done))).mono ?_; rintro e wB ⟨rfl, hkB⟩))
  rename_i hh
  have hkb := hh.1
  clear hh
  have HK12 := Lib.hid (HK11.out.trans hkb (fun _ _ h => h))
  have HX12 := Lib.hid (HX11.out.keep hkb (fun h => h))
  have HF12 := Lib.hid (HF11.out.keep hkb (fun h => h))
  have HO12 := Lib.hid (HO11.out.quiet hkb)
  have HP12 := Lib.hid (HP11.out.keep hkb (fun h => h))
  have HS12 := Lib.hid (HS11.out.keep hkb (fun h => h))
  clear hkb d0 d1 d2 y0 y1 HCK HFT
  try clear hqA
  try clear hkA
  try clear hkB
  try clear hv
  generalize wB = w12 at *
  -- without a state
  obtain ⟨d0, d1, d2, _⟩ := HX12.out.cells
  go_wp2_with fail
  refine (eval_nil pc many A3 l.length cap3 w12 ea (HE.out.quiet HK12.out)).mono ?_
  rintro e w13 ⟨rfl, hk13⟩
  unfold endC
  have hka := (Keeps.refl (fun _ => False) w13).alloc (.cells #[.bool false, .int .i64 0] 45)
  have hkb := hk13.trans hka (fun _ _ h => h)
  have HK14 := Lib.hid (HK12.out.trans hkb (fun _ _ h => h))
  have HX14 := Lib.hid (HX12.out.keep hkb (fun h => h))
  have HF14 := Lib.hid (HF12.out.keep hkb (fun h => h))
  have HO14 := Lib.hid (HO12.out.quiet hkb)
  have HP14 := Lib.hid (HP12.out.keep hkb (fun h => h))
  have HS14 := Lib.hid (HS12.out.keep hkb (fun h => h))
  clear hk13 hka hkb d0 d1 d2
  go_upto_region 12 with fail
  generalize w13.alloc _ = w14 at *
  go_wp2_with fail
  refine (coded_any 3 (by omega) (by omega) w14 ea (HE.out.quiet HK14.out)).mono ?_
  rintro e w15 ⟨rfl, hk15⟩
  have HK15 := Lib.hid (HK14.out.trans hk15 (fun _ _ h => h))
  have HX15 := Lib.hid (HX14.out.keep hk15 (fun h => h))
  have HF15 := Lib.hid (HF14.out.keep hk15 (fun h => h))
  have HO15 := Lib.hid (HO14.out.quiet hk15)
  have HP15 := Lib.hid (HP14.out.keep hk15 (fun h => h))
  have HS15 := Lib.hid (HS14.out.keep hk15 (fun h => h))
  clear hk15 HX14 HF14 HO14 HP14 HS14 HX12 HF12 HO12 HP12 HS12
  obtain ⟨y0, y1, g0, g1⟩ := HF15.out.cells
  go_upto_region 16 with fail
  clear y0 y1 g0 g1
  have HK17 := Lib.hid HK15.out
  have HX17 := Lib.hid HX15.out
  have HO17 := Lib.hid HO15.out
  have HP17 := Lib.hid HP15.out
  have HS17 := Lib.hid HS15.out
  have HF17 := Lib.hid HF15.out
  generalize w15 = w17 at *
  obtain ⟨cc, hcc⟩ : ∃ c, fc = c := ⟨_, rfl⟩
  obtain ⟨aa, haa⟩ : ∃ c, fat = c := ⟨_, rfl⟩
  have hft2 : ((cc : Int) == 0) = false := by rw [← hcc]; exact hft
  rw [hcc, haa] at HF17
  have HFSS := Lib.hid (show (cc, aa).1 = 0 ∨ (1 ≤ (cc, aa).1 ∧ (cc, aa).1 ≤ 10) from by rw [← hcc, ← haa]; exact HFS.out)
  have HEVF := Lib.hid (show (Ir.fault many l).1 ≠ 0 ∧ ((cc, aa) : Nat × Int) = Ir.fault many l ∨ (Ir.fault many l).1 = 0 ∧ Ir.ready sp pc = false ∧ ((cc, aa) : Nat × Int) = (9, -1) from .inl ⟨HFZ.out, by rw [← hcc, ← haa]; exact HFA.out.symm⟩)
  clear hcc haa
  obtain ⟨em, hem⟩ : ∃ m, ramOf (min pn 4096) ws = m := ⟨_, rfl⟩
  have HEMR := Lib.hid (show ∀ j, j < 16384 → 0 ≤ em j ∧ em j < 256 by rw [← hem]; exact ramOf_rng _ _)
  have HMEM := Lib.hid (memory_any s PA pn pcap page ws w17 ea (HE.out.quiet HK17.out).toC (HRD.out.keep HK17.out (fun _ _ _ h => h)) hpc HRR.out)
  have HMOD := Lib.hid (fun w' (k : Keeps (fun _ => False) w17 w') => model_any s PA pn pcap page ws w' (HRD.out.keep (HK17.out.trans k (fun _ _ h => h)) (fun _ _ _ h => h)) hpc HRR.out)
  unfold MemIs at HMEM
  unfold ModelIs at HMOD
  rw [hem] at HMEM HMOD
  clear hem
  go_wp2_with (refine wpList_load_place _ rfl x s PA pn pcap page HP17.out rfl (by first | rfl | decide) ?_)
  refine HMEM.out.mono ?_
  rintro e w18 ⟨r, pb, pw, ph, rfl, hRA, hWA, _, hnew, hk18⟩
  have HP18 := Lib.hid (HP17.out.keep hk18 (fun h => h))
  have HRA18 := Lib.hid hRA
  have HWA18 := Lib.hid hWA
  have HNEWR := Lib.hid hnew
  have HK18 := Lib.hid hk18
  have HPBL := Lib.hid (show pb < w18.heap.size ∧ r < w18.heap.size ∧ pw < w18.heap.size from ⟨hRA.bytes.lt, (Array.getElem?_eq_some_iff.1 hRA.box).1, hWA.lt⟩)
  clear hRA hWA hnew hk18
  go_wp2_with (refine wpList_load_place _ rfl x s PA pn pcap page HP18.out rfl (by first | rfl | decide) ?_)
  refine (HMOD.out w18 HK18.out).mono ?_
  rintro e w19 ⟨q, wb, tb, hb, rfl, hRF, hnewq, hk19⟩
  have HRF19 := Lib.hid hRF
  have HNEWQ := Lib.hid hnewq
  have HQL := Lib.hid (show (q < w19.heap.size ∧ wb < w19.heap.size) ∧ tb < w19.heap.size ∧ hb < w19.heap.size from ⟨⟨(Array.getElem?_eq_some_iff.1 hRF.raw.box).1, hRF.raw.words.lt⟩, hRF.raw.watch.lt, hRF.raw.hit.lt⟩)
  have HK179 := Lib.hid (HK18.out.trans hk19 (fun _ _ h => h))
  have HS19 := Lib.hid (HS17.out.keep HK179.out (fun h => h))
  have HK189 := Lib.hid hk19
  clear hRF hnewq hk19
  -- two states
  go_wp2_with (first
    | (with_reducible refine wpList_load_st rfl _ rfl sb sp HS19.out rfl ?_)
    | (with_reducible refine wpList_store_st rfl _ _ rfl _ _ sp (blk_alloc_new _ _) (by simp) rfl rfl ?_))
  intro w20 hS20 hk20
  have hk20' := ((Keeps.refl (fun _ => False) w19).alloc _).trans hk20 (fun j hj e => absurd (show j = w19.heap.size from e) (Nat.ne_of_lt hj))
  have HXS20 := Lib.hid hS20
  have HK1920 := Lib.hid hk20'
  have HS20 := Lib.hid (HS19.out.keep hk20' (fun h => h))
  obtain ⟨xb, hxb⟩ : ∃ b, w19.heap.size = b := ⟨_, rfl⟩
  rw [hxb] at HXS20 HQL ⊢
  have HXB := Lib.hid (show w18.heap.size ≤ xb by rw [← hxb]; exact HK189.out.size)
  clear hS20 hk20 hk20' hxb
  go_wp2_with (first
    | (with_reducible refine wpList_load_st rfl _ rfl sb sp HS20.out rfl ?_)
    | (with_reducible refine wpList_store_st rfl _ _ rfl _ _ sp (blk_alloc_new _ _) (by simp) rfl rfl ?_))
  intro w21 hS21 hk21
  have hk21' := ((Keeps.refl (fun _ => False) w20).alloc _).trans hk21 (fun j hj e => absurd (show j = w20.heap.size from e) (Nat.ne_of_lt hj))
  have HYS21 := Lib.hid hS21
  have HXS21 := Lib.hid (HXS20.out.keep hk21' (fun h => h))
  have HK1721 := Lib.hid ((HK179.out.trans HK1920.out (fun _ _ h => h)).trans hk21' (fun _ _ h => h))
  have HK1821 := Lib.hid ((HK189.out.trans HK1920.out (fun _ _ h => h)).trans hk21' (fun _ _ h => h))
  have HK1921 := Lib.hid (HK1920.out.trans hk21' (fun _ _ h => h))
  have HXYL := Lib.hid HXS20.out.lt
  obtain ⟨yb, hyb⟩ : ∃ b, w20.heap.size = b := ⟨_, rfl⟩
  rw [hyb] at HYS21 HXYL ⊢
  clear hS21 hk21 hk21' hyb
  have HK21 := Lib.hid (HK17.out.trans HK1721.out (fun _ _ h => h))
  have HX21 := Lib.hid (HX17.out.keep HK1721.out (fun h => h))
  have HF21 := Lib.hid (HF17.out.keep HK1721.out (fun h => h))
  have HO21 := Lib.hid (HO17.out.quiet HK1721.out)
  have HRA21 := Lib.hid (HRA18.out.keep HK1821.out (fun h => h) (fun h => h))
  have HWA21 := Lib.hid (HWA18.out.keep HK1821.out (fun h => h))
  have HRF21 := Lib.hid (HRF19.out.keep HK1921.out ⟨fun h => h, fun h => h, fun h => h, fun h => h⟩)
  have HFBL := Lib.hid HF17.out.lt
  have HORD := Lib.hid (show (fb ≠ xb ∧ fb ≠ pb) ∧ (yb ≠ xb ∧ yb ≠ pb) ∧ ((q ≠ xb ∧ q ≠ pb) ∧ (wb ≠ xb ∧ wb ≠ pb) ∧ (tb ≠ xb ∧ tb ≠ pb) ∧ (hb ≠ xb ∧ hb ≠ pb)) ∧ (xb ≠ r ∧ xb ≠ pb ∧ xb ≠ pw) ∧ (w.heap.size ≤ xb ∧ w.heap.size ≤ pb) ∧ (fb ≠ yb ∧ fb ≠ q) ∧ (pb ≠ yb ∧ pb ≠ q ∧ r ≠ yb ∧ r ≠ q ∧ xb ≠ q ∧ w.heap.size ≤ q) from by
    have h1 := HPBL.out
    have h2 := HNEWR.out
    have h3 := HNEWQ.out
    have h4 := HQL.out
    have h5 := HFBL.out
    have h6 := HXB.out
    have h7 := HXYL.out
    have h8 := HK18.out.size
    have h9 := HK17.out.size
    omega)
  clear HP15 HP17 HP18 HS15 HS17 HS19 HS20 HXS20 HRA18 HWA18 HRF19 HX15 HX17 HF15 HF17 HO15 HO17
  obtain ⟨d0, d1, d2, _⟩ := HX21.out.cells
  have HEV := Lib.hid (eval_err pc many A3 l.length cap3 l xb ⟨r, 0, none⟩ sp w21 ea (HE.out.quiet HK21.out) HO21.out HCAP HXS21.out HP.out (cc, aa) HEVF.out)
  have hne : (Value.pointer (some ⟨r, 0, none⟩)) ≠ .pointer none := by intro h; cases h
  go_wp2_with fail
  refine HEV.out.mono ?_
  rintro e w22 ⟨ev, rfl, hfv, hk22⟩
  unfold endC
  have hka := (Keeps.refl (fun _ => False) w22).alloc (.cells #[.bool false, .int .i64 0] 45)
  have hkb := hk22.trans hka (fun _ _ h => h)
  have HE23 := Lib.hid (EndBox.new w22 false 0)
  have HK23 := Lib.hid (HK21.out.trans hkb (fun _ _ h => h))
  have HFV := Lib.hid ((hfv.keep hka))
  have HF23 := Lib.hid (HF21.out.keep hkb (fun h => h))
  have HXS23 := Lib.hid (HXS21.out.keep hkb (fun h => h))
  have HYS23 := Lib.hid (HYS21.out.keep hkb (fun h => h))
  have HRA23 := Lib.hid (HRA21.out.keep hkb (fun h => h) (fun h => h))
  have HRF23 := Lib.hid (HRF21.out.keep hkb ⟨fun h => h, fun h => h, fun h => h, fun h => h⟩)
  clear hk22 hka hkb hfv d0 d1 d2
  go_upto_region 21 with fail
  generalize w22.alloc _ = w23 at *
  generalize w22.heap.size = eb at *
  obtain ⟨y0, y1, _, _⟩ := HF23.out.cells
  have HFT3 := Lib.hid (faulted_any (cc, aa) HFSS.out ev w23 ea (HE.out.quiet HK23.out) HFV.out)
  unfold faultV at HFT3
  dsimp only at HFT3
  go_wp2_with fail
  refine HFT3.out.mono ?_
  rintro e w24 ⟨rfl, hk24⟩
  have hka := (Keeps.refl (fun _ => False) w24).alloc (.cells #[.bool false, .int .i64 0, .bool false] 56)
  have hkb := hk24.trans hka (fun _ _ h => h)
  have HZ25 := Lib.hid (REndBox.new w24 false 0 false)
  have HF25 := Lib.hid (HF23.out.keep hkb (fun h => h))
  have HE25 := Lib.hid (HE23.out.keep hkb (fun h => h))
  have HK25 := Lib.hid (HK23.out.trans hkb (fun _ _ h => h))
  have HXS25 := Lib.hid (HXS23.out.keep hkb (fun h => h))
  have HYS25 := Lib.hid (HYS23.out.keep hkb (fun h => h))
  have HRA25 := Lib.hid (HRA23.out.keep hkb (fun h => h) (fun h => h))
  have HRF25 := Lib.hid (HRF23.out.keep hkb ⟨fun h => h, fun h => h, fun h => h, fun h => h⟩)
  simp only [rendC] at HZ25
  clear hk24 hka hkb y0 y1
  go_upto_region 24 with fail
  generalize w24.alloc _ = w25 at *
  generalize w24.heap.size = zb at *
  obtain ⟨y0, y1, _, _⟩ := HF25.out.cells
  go_upto_region 26 with fail
  have HSR := Lib.hid HSPR.out
  clear y0 y1 HE23 HF23 HXS23 HYS23 HRA23 HRF23 HXS21 HYS21
  have hr1 := HXS25.out.range
  have hr2 := HYS25.out.range
  have HI : Hid ((Tryz.prog.info? 26).map (·.size) = some (stL sp).length) := Lib.hid (by rw [stL_len]; exact size_st)
  have HU := Lib.hid Tryz.underlying26
  have HQ := Lib.hid (fun w => equal_st w sp HSR.out)
  have Z0 := Lib.hid HE25.out.cells.1
  have Z1 := Lib.hid HE25.out.cells.2.1
  have Z2 := Lib.hid HZ25.out.cells.1
  have Z3 := Lib.hid HZ25.out.cells.2.1
  have Z4 := Lib.hid (cell_at HRF25.out.raw.box 0)
  have HWR := Lib.hid HRF25.out.raw.words
  generalize stL sp = cs at hr1 hr2 HI HQ ⊢
  refine wp_region_held_drew (S := fun w' => Keeps (fun _ => False) w25 w') (by kernel_rfl) (Keeps.refl _ w25).drew (fun hH0 => ?_)
  refine wpAnyH_take (i := 0) (v := ?_) rfl (by kernel_rfl) (by kernel_rfl) (by kernel_rfl) (fun _ _ _ h => h) (Or.inl ⟨by rfl, ?_⟩) hH0 ?_
  rotate_left
  · intro w' hSw
    go_simp
    try with_reducible rfl
  simp only [Act.put, List.setIfInBounds_toArray, List.set_cons_zero, List.set_cons_succ]
  refine wpAnyH_take (i := 1) (v := ?_) rfl (by kernel_rfl) (by kernel_rfl) (by kernel_rfl) (fun _ _ _ h => h) (Or.inl ⟨by rfl, ?_⟩) hH0 ?_
  rotate_left
  · intro w' hSw
    have c := Keeps.cell' hSw Z0.out (fun f => f)
    go_simp
    try with_reducible rfl
  simp only [Act.put, List.setIfInBounds_toArray, List.set_cons_zero, List.set_cons_succ]
  refine wpAnyH_take (i := 2) (v := ?_) rfl (by kernel_rfl) (by kernel_rfl) (by kernel_rfl) (fun _ _ _ h => h) (Or.inl ⟨by rfl, ?_⟩) hH0 ?_
  rotate_left
  · intro w' hSw
    go_simp
    try with_reducible rfl
  simp only [Act.put, List.setIfInBounds_toArray, List.set_cons_zero, List.set_cons_succ]
  refine wpAnyH_take (i := 3) (v := ?_) rfl (by kernel_rfl) (by kernel_rfl) (by kernel_rfl) (fun _ _ _ h => h) (Or.inl ⟨by rfl, ?_⟩) hH0 ?_
  rotate_left
  · intro w' hSw
    have c := Keeps.cell' hSw Z2.out (fun f => f)
    go_simp
    try with_reducible rfl
  simp only [Act.put, List.setIfInBounds_toArray, List.set_cons_zero, List.set_cons_succ]
  refine wpAnyH_take (i := 4) (v := ?_) rfl (by kernel_rfl) (by kernel_rfl) (by kernel_rfl) (fun _ _ _ h => h) (Or.inl ⟨by rfl, ?_⟩) hH0 ?_
  rotate_left
  · intro w' hSw
    go_simp
    try with_reducible rfl
  simp only [Act.put, List.setIfInBounds_toArray, List.set_cons_zero, List.set_cons_succ]
  refine wpAnyH_take (i := 5) (v := ?_) rfl (by kernel_rfl) (by kernel_rfl) (by kernel_rfl) (fun _ _ _ h => h) (Or.inl ⟨by rfl, ?_⟩) hH0 ?_
  rotate_left
  · intro w' hSw
    go_simp
    try with_reducible rfl
  simp only [Act.put, List.setIfInBounds_toArray, List.set_cons_zero, List.set_cons_succ]
  refine wpAnyH_take (i := 6) (v := ?_) rfl (by kernel_rfl) (by kernel_rfl) (by kernel_rfl) (fun _ _ _ h => h) (Or.inl ⟨by go_simp, ?_⟩) hH0 ?_
  rotate_left
  · intro w' hSw
    go_simp
    try with_reducible rfl
  simp only [Act.put, List.setIfInBounds_toArray, List.set_cons_zero, List.set_cons_succ]
  refine wpAnyH_take (i := 7) (v := ?_) rfl (by kernel_rfl) (by kernel_rfl) (by kernel_rfl) (fun _ _ _ h => h) (Or.inl ⟨by go_simp, ?_⟩) hH0 ?_
  rotate_left
  · intro w' hSw
    have c := Keeps.cell' hSw Z1.out (fun f => f)
    go_simp
    try with_reducible rfl
  simp only [Act.put, List.setIfInBounds_toArray, List.set_cons_zero, List.set_cons_succ]
  refine wpAnyH_take (i := 8) (v := ?_) rfl (by kernel_rfl) (by kernel_rfl) (by kernel_rfl) (fun _ _ _ h => h) (Or.inl ⟨by go_simp, ?_⟩) hH0 ?_
  rotate_left
  · intro w' hSw
    go_simp
    try with_reducible rfl
  simp only [Act.put, List.setIfInBounds_toArray, List.set_cons_zero, List.set_cons_succ]
  refine wpAnyH_take (i := 9) (v := ?_) rfl (by kernel_rfl) (by kernel_rfl) (by kernel_rfl) (fun _ _ _ h => h) (Or.inl ⟨by go_simp, ?_⟩) hH0 ?_
  rotate_left
  · intro w' hSw
    have c := Keeps.cell' hSw Z3.out (fun f => f)
    go_simp
    try with_reducible rfl
  simp only [Act.put, List.setIfInBounds_toArray, List.set_cons_zero, List.set_cons_succ]
  refine wpAnyH_take (i := 10) (v := ?_) rfl (by kernel_rfl) (by kernel_rfl) (by kernel_rfl) (fun _ _ _ h => h) (Or.inl ⟨by go_simp, ?_⟩) hH0 ?_
  rotate_left
  · intro w' hSw
    go_simp
    try with_reducible rfl
  simp only [Act.put, List.setIfInBounds_toArray, List.set_cons_zero, List.set_cons_succ]
  refine wpAnyH_take (i := 11) (v := ?_) rfl (by kernel_rfl) (by kernel_rfl) (by kernel_rfl) (fun _ _ _ h => h) (Or.inl ⟨by rfl, ?_⟩) hH0 ?_
  rotate_left
  · intro w' hSw
    go_simp
    try with_reducible rfl
  simp only [Act.put, List.setIfInBounds_toArray, List.set_cons_zero, List.set_cons_succ]
  refine wpAnyH_take (i := 12) (v := ?_) rfl (by kernel_rfl) (by kernel_rfl) (by kernel_rfl) (fun _ _ _ h => h) (Or.inl ⟨by rfl, ?_⟩) hH0 ?_
  rotate_left
  · intro w' hSw
    go_simp
    try with_reducible rfl
  simp only [Act.put, List.setIfInBounds_toArray, List.set_cons_zero, List.set_cons_succ]
  refine wpAnyH_take (i := 13) (v := .agg cs.toArray) rfl (by kernel_rfl) (by kernel_rfl) (by kernel_rfl) (fun _ _ _ h => h) (yieldsIf_load_mid (by go_simp) 26 (.tmp 19) rfl xb 0 (by go_simp) cs _ (fun w' hSw => range_keep hr1 hSw) HU.out rfl HI.out) hH0 ?_
  simp only [Act.put, List.setIfInBounds_toArray, List.set_cons_zero, List.set_cons_succ]
  refine wpAnyH_take (i := 14) (v := .agg cs.toArray) rfl (by kernel_rfl) (by kernel_rfl) (by kernel_rfl) (fun _ _ _ h => h) (yieldsIf_load_mid (by go_simp) 26 (.tmp 20) rfl yb 0 (by go_simp) cs _ (fun w' hSw => range_keep hr2 hSw) HU.out rfl HI.out) hH0 ?_
  simp only [Act.put, List.setIfInBounds_toArray, List.set_cons_zero, List.set_cons_succ]
  refine wpAnyH_take (i := 15) (v := .bool true) rfl (by kernel_rfl) (by kernel_rfl) (by kernel_rfl) (fun _ _ _ h => h) (yieldsIf_eql_agg (by go_simp) 26 26 (.tmp 110) (.tmp 111) rfl cs.toArray eqg_st HQ.out (by go_simp) (by go_simp)) hH0 ?_
  simp only [Act.put, List.setIfInBounds_toArray, List.set_cons_zero, List.set_cons_succ]
  refine wpAnyH_take (i := 16) (v := ?_) rfl (by kernel_rfl) (by kernel_rfl) (by kernel_rfl) (fun _ _ _ h => h) (Or.inl ⟨by rfl, ?_⟩) hH0 ?_
  rotate_left
  · intro w' hSw
    go_simp
    try with_reducible rfl
  simp only [Act.put, List.setIfInBounds_toArray, List.set_cons_zero, List.set_cons_succ]
  refine wpAnyH_take (i := 17) (v := ?_) rfl (by kernel_rfl) (by kernel_rfl) (by kernel_rfl) (fun _ _ _ h => h) (Or.inl ⟨by rfl, ?_⟩) hH0 ?_
  rotate_left
  · intro w' hSw
    go_simp
    try with_reducible rfl
  simp only [Act.put, List.setIfInBounds_toArray, List.set_cons_zero, List.set_cons_succ]
  refine wpAnyH_take (i := 18) (v := ?_) rfl (by kernel_rfl) (by kernel_rfl) (by kernel_rfl) (fun _ _ _ h => h) (Or.inl ⟨by go_simp, ?_⟩) hH0 ?_
  rotate_left
  · intro w' hSw
    go_simp
    try with_reducible rfl
  simp only [Act.put, List.setIfInBounds_toArray, List.set_cons_zero, List.set_cons_succ]
  refine wpAnyH_take (i := 20) (v := ?_) rfl (by kernel_rfl) (by kernel_rfl) (by kernel_rfl) (fun _ _ _ h => h) (Or.inl ⟨by go_simp, ?_⟩) hH0 ?_
  rotate_left
  · intro w' hSw
    go_simp
    try with_reducible rfl
  simp only [Act.put, List.setIfInBounds_toArray, List.set_cons_zero, List.set_cons_succ]
  refine wpAnyH_take (i := 21) (v := ?_) rfl (by kernel_rfl) (by kernel_rfl) (by kernel_rfl) (fun _ _ _ h => h) (Or.inl ⟨by go_simp, ?_⟩) hH0 ?_
  rotate_left
  · intro w' hSw
    go_simp
    try with_reducible rfl
  simp only [Act.put, List.setIfInBounds_toArray, List.set_cons_zero, List.set_cons_succ]
  refine wpAnyH_take (i := 22) (v := ?_) rfl (by kernel_rfl) (by kernel_rfl) (by kernel_rfl) (fun _ _ _ h => h) (Or.inl ⟨by go_simp, ?_⟩) hH0 ?_
  rotate_left
  · intro w' hSw
    go_simp
    try with_reducible rfl
  simp only [Act.put, List.setIfInBounds_toArray, List.set_cons_zero, List.set_cons_succ]
  refine wpAnyH_take (i := 23) (v := ?_) rfl (by kernel_rfl) (by kernel_rfl) (by kernel_rfl) (fun _ _ _ h => h) (Or.inl ⟨by go_simp, ?_⟩) hH0 ?_
  rotate_left
  · intro w' hSw
    have c := Keeps.cell' hSw Z4.out (fun f => f)
    go_simp
    try with_reducible rfl
  simp only [Act.put, List.setIfInBounds_toArray, List.set_cons_zero, List.set_cons_succ]
  refine wpAnyH_ready (rs := [19]) (by kernel_rfl) (by simp) ?_
  refine AllReadyH.cons rfl (fun K hK => ?_) AllReadyH.nil
  go_simp
  refine (words_two r pb pw ph em _ (HRA25.out.keep hH0 (fun h => h) (fun h => h))).mono ?_
  rintro e wx1 ⟨gg, rfl, hra1, hkx1⟩
  go_wp2_with fail
  have hH1 := Keeps.trans hH0 hkx1 (fun _ _ h => h)
  refine hK.out _ _ hH1 (fun _ => ?_)
  clear hK K
  try simp only [Act.put, List.setIfInBounds_toArray, List.set_cons_zero, List.set_cons_succ]
  refine wpAnyH_ready (rs := [24]) (by kernel_rfl) (by simp) ?_
  refine AllReadyH.cons rfl (fun K hK => ?_) AllReadyH.nil
  go_simp
  refine (alike_same gg wb 4096 4096 4096 (fun k => be em (4 * k) 4) wx1 (by omega) (by omega) (by omega) (fun i hi => hra1.cell hi) (fun i hi => (Keeps.rowTo hH1 HWR.out (fun h => h)).cell hi)).mono ?_
  rintro e wx2 ⟨rfl, hkx2⟩
  go_wp2_with fail
  have hH2 := Keeps.trans hH1 hkx2 (fun _ _ h => h)
  refine hK.out _ _ hH2 (fun _ => ?_)
  clear hK K
  try simp only [Act.put, List.setIfInBounds_toArray, List.set_cons_zero, List.set_cons_succ]
  refine wpAnyH_ready (rs := [25]) (by kernel_rfl) (by simp) ?_
  refine AllReadyH.cons rfl (fun K hK => ?_) AllReadyH.nil
  go_simp
  refine hK.out _ _ hH2 (fun _ => ?_)
  clear hK K
  try simp only [Act.put, List.setIfInBounds_toArray, List.set_cons_zero, List.set_cons_succ]
  refine wpAnyH_ready (rs := [26]) (by kernel_rfl) (by simp) ?_
  refine AllReadyH.cons rfl (fun K hK => ?_) AllReadyH.nil
  go_simp
  refine hK.out _ _ hH2 (fun _ => ?_)
  clear hK K
  try simp only [Act.put, List.setIfInBounds_toArray, List.set_cons_zero, List.set_cons_succ]
  refine wpAnyH_ready (rs := [27]) (by kernel_rfl) (by simp) ?_
  refine AllReadyH.cons rfl (fun K hK => ?_) AllReadyH.nil
  go_simp
  refine hK.out _ _ hH2 (fun _ => ?_)
  clear hK K
  try simp only [Act.put, List.setIfInBounds_toArray, List.set_cons_zero, List.set_cons_succ]
  refine wpAnyH_done (by kernel_rfl) ?_ _
  go_wp2_with fail
  go_ret
  exact ⟨by go_simp, HK25.out.trans hH2 (fun _ _ h => h)⟩
end Go.Proofs.YtgmbladcoikffaaGreatDoor
