import Derived.Test.YtknhfobcejpmeaaGreatDoorHrz24

/- HostRunsC -/
/- The walk of the law HostRuns: one way of four. Printed by gen/hostruns.py. -/
namespace Go.Proofs.YtknhfobcejpmeaaGreatDoor
open Go.RowKit Go.Deep
set_option linter.unusedVariables false
set_option linter.unusedSimpArgs false

set_option maxHeartbeats 16000000 in
set_option maxRecDepth 100000 in
theorem hostRuns_c (pc many : Int) (A : Option Addr) (n cap : Nat) (rows : List (List Ir.Op)) (s : Cp.St) (PA : Option Addr) (pn pcap : Nat) (page : Int) (ws : Nat → Int) (w : World) (ea : Nat → Addr) (E : ErrsAll w ea) (V : RowsAt w A n cap rows) (hc : cap ≤ 9223372036854775807) (hok : ∀ l ∈ rows, ∀ o ∈ l, OpOk o)
    (hR : Reads w PA pn pcap (fun i => .int .u32 (ws i))) (hpc : pcap ≤ 9223372036854775807) (hr : ∀ i, i < pn → 0 ≤ ws i ∧ ws i < 4294967296) (hrng : 0 ≤ s.count → s.count < 4611686018427387904 → Cp.Rng s) (hp : 0 ≤ pc ∧ pc < 4294967296) (hfz : (Ir.planFault many rows).1 ≠ 0) :
    Calls Tryz.prog 4 #[.int .u32 pc, .int .i64 many, .slice A n cap, .agg (placeL s PA pn pcap page).toArray, .bool false] w fun e w' => e = .returned (.bool true) ∧ Keeps (fun _ => False) w w' := by
  have HE := Lib.hid E
  have HV := Lib.hid V
  have HL := Lib.hid V.len
  have HOK := Lib.hid hok
  have HRD := Lib.hid hR
  have HRR := Lib.hid hr
  have HRNG := Lib.hid hrng
  have HP := Lib.hid hp
  have HFZ := Lib.hid hfz
  have hnc := V.le
  have HN := Lib.hid (PlaceAt.new w s PA pn pcap page)
  have HK := Lib.hid ((Keeps.refl (fun _ => False) w).alloc (.cells (placeL s PA pn pcap page).toArray 29))
  have HFS := Lib.hid (pfault_small many rows)
  have HCF := Lib.hid (fun w V => planFault_any many A n cap rows w V hc)
  obtain ⟨fa, hfa⟩ : ∃ f, Ir.planFault many rows = f := ⟨_, rfl⟩
  rw [hfa] at HFS HCF
  have HFA := Lib.hid hfa
  obtain ⟨fc, fat⟩ := fa
  have hfc0 : fc ≠ 0 := by have := hfz; rw [hfa] at this; exact this
  have hft : ((fc : Int) == 0) = false := by simp; omega
  have HFC0 := Lib.hid hfc0
  clear E V hok hR hr hrng hp hfz hfa hfc0
  go_enter Tryz.func4, Tryz.ntmps4
  go_upto_region 1 with fail
  have HP1 := Lib.hid HN.out
  have HK1 := Lib.hid HK.out
  clear HN HK
  generalize w.alloc _ = w1 at *
  obtain ⟨x, hx⟩ : ∃ x, w.heap.size = x := ⟨_, rfl⟩
  rw [hx] at HP1 ⊢
  have HX := Lib.hid hx
  clear hx
  go_wp2_with fail
  refine (hosted_any w1 ea (HE.out.quiet HK1.out)).mono ?_
  rintro e w2 ⟨rfl, hk2⟩
  have HP2 := Lib.hid (HP1.out.keep hk2 (fun h => h))
  have HK2 := Lib.hid (HK1.out.trans hk2 (fun _ _ h => h))
  clear hk2
  by_cases hn20 : 20 < n
  · have ht20 : decide (20 < n) = true := decide_eq_true hn20
    go_wp2_with fail
    go_ret
    exact ⟨rfl, HK2.out⟩
  have ht20 : decide (20 < n) = false := decide_eq_false hn20
  go_wp2_with (refine wpList_load_place _ rfl x s PA pn pcap page HP2.out rfl (by first | rfl | (go_simp; omega)) ?_)
  refine (longPlace_any s PA pn pcap page w2).mono ?_
  rintro e w4 ⟨b, rfl, hb, hk4⟩
  have HP4 := Lib.hid (HP2.out.keep hk4 (fun h => h))
  have HK4 := Lib.hid (HK2.out.trans hk4 (fun _ _ h => h))
  clear hk4
  cases b
  case true =>
    go_wp2_with fail
    go_ret
    exact ⟨rfl, HK4.out⟩
  obtain ⟨hpn, hc0, hc1⟩ := hb rfl
  clear hb
  have HSPR := Lib.hid (placed_rngH (HRNG.out hc0 (by omega)) pc HP.out)
  have HSPC := Lib.hid (show (Ir.placed s pc).count ≤ 1099511627776 ∧ (Ir.placed s pc).R 0 = 0 from ⟨hc1, rfl⟩)
  have HRDY := Lib.hid (Ir.placed_ready s pc)
  clear ht20
  go_wp2_with fail
  go_loopw [10, 12] (fun s10 s12 wr => ∃ i : Nat, i ≤ n ∧ s12 = .int .i64 i ∧ s10 = .bool false ∧ (∀ j, j < i → (rows.getD j []).length ≤ 201) ∧ Keeps (fun _ => False) w4 wr) (fun _ s12 _ => n - (intOf s12).toNat)
  case atStart => exact ⟨0, by omega, rfl, rfl, fun j hj => absurd hj (by omega), Keeps.refl _ _⟩
  case round =>
    obtain ⟨i, hi, rfl, rfl, hZ, hkr⟩ := hrel
    have HZ := Lib.hid hZ
    have HKR := Lib.hid hkr
    clear hZ hkr
    by_cases hlt : i < n
    · obtain ⟨ob, oo, Ai, ci, rfl, e0, e1, e2⟩ := (HV.out.quiet (HK4.out.trans HKR.out (fun _ _ h => h))).get hlt
      have hi63 : (i : Int) < n := by omega
      obtain ⟨lr, hlr⟩ : ∃ l, rows.getD i [] = l := ⟨_, rfl⟩
      rw [hlr] at e0 e1
      have HLR := Lib.hid hlr
      clear hlr
      have HLO := Lib.hid (longOps8_any Ai lr.length ci lr wr e1 e2)
      obtain ⟨ll, hll⟩ : ∃ x, lr.length = x := ⟨_, rfl⟩
      rw [hll] at e0 HLO
      have HLL := Lib.hid hll
      clear hll e1
      go_wp2_with fail
      refine HLO.out.mono ?_
      rintro e w5 ⟨r, rfl, hr, hk5⟩
      have HK5 := Lib.hid (HKR.out.trans hk5 (fun _ _ h => h))
      clear hk5 e0
      rcases hr with rfl | ⟨rfl, hn⟩
      · go_wp2_with fail
        go_ret
        exact ⟨rfl, HK4.out.trans HK5.out (fun _ _ h => h)⟩
      · have HZ2 := Lib.hid (show ∀ j, j < i + 1 → (rows.getD j []).length ≤ 201 from fun j hj => by
          by_cases e : j = i
          · subst e; rw [HLR.out, HLL.out]; exact hn
          · exact HZ.out j (by omega))
        go_wp2_with fail
        go_roundw
        case rel => exact ⟨i + 1, by omega, by go_num, rfl, HZ2.out, HK5.out⟩
        case measure => simp [intOf]; omega
    · obtain rfl : i = n := by omega
      generalize i = n at *
      have HP5 := Lib.hid (HP4.out.keep HKR.out (fun h => h))
      have HK5 := Lib.hid (HK4.out.trans HKR.out (fun _ _ h => h))
      clear HKR HP4 HK4 HP1 HP2
      generalize wr = w5 at *
      have HOW := Lib.hid (ownRows_any A n cap rows w5 (HV.out.quiet HK5.out) hc (by omega) (fun j hj => by have := HZ.out j hj; omega))
      go_wp2_with fail
      refine HOW.out.mono ?_
      rintro e w6 ⟨v, rfl, hro, hk6⟩
      obtain ⟨A3, cap3, rfl, hcap3, _⟩ := hro.rows
      rw [HL.out] at hro ⊢
      have hka := (Keeps.refl (fun _ => False) w6).alloc (.cells #[.int .u32 pc, .int .i64 many, .slice A3 n cap3] 35)
      have HO3 := Lib.hid (hro.quiet hka)
      have HCAP := hcap3
      have HX3 := Lib.hid (PlanBox.new w6 pc many A3 n cap3)
      have HK7 := Lib.hid ((HK5.out.trans hk6 (fun _ _ h => h)).trans hka (fun _ _ h => h))
      have HP7 := Lib.hid ((HP5.out.keep hk6 (fun h => h)).keep hka (fun h => h))
      clear hk6 hka HOW HP5 hro hcap3 HZ
      go_upto_region 10 with fail
      generalize w6.alloc _ = w7 at *
      generalize w6.heap.size = cb at *
      go_wp2_with fail
      refine (HCF.out w7 (HV.out.quiet HK7.out)).mono ?_
      rintro e w8 ⟨rfl, hk8⟩
      unfold faultV
      dsimp only
      have hka := (Keeps.refl (fun _ => False) w8).alloc (.cells #[.int .i64 fc, .int .i64 fat] 44)
      have HF9 := Lib.hid (FaultBox.new w8 fc fat)
      have HK9 := Lib.hid ((HK7.out.trans hk8 (fun _ _ h => h)).trans hka (fun _ _ h => h))
      have HP9 := Lib.hid ((HP7.out.keep hk8 (fun h => h)).keep hka (fun h => h))
      have HX9 := Lib.hid ((HX3.out.keep hk8 (fun h => h)).keep hka (fun h => h))
      have HO9 := Lib.hid ((HO3.out.quiet hk8).quiet hka)
      have HFBW := Lib.hid (show w.heap.size ≤ w8.heap.size ∧ cb < w8.heap.size ∧ x < w8.heap.size from ⟨Nat.le_trans HK7.out.size hk8.size, Nat.lt_of_lt_of_le HX3.out.lt hk8.size, Nat.lt_of_lt_of_le HP7.out.lt hk8.size⟩)
      clear hk8 hka HO3 HX3 HP7
      go_upto_region 11 with fail
      generalize w8.alloc _ = w9 at *
      obtain ⟨fb, hfb⟩ : ∃ b, w8.heap.size = b := ⟨_, rfl⟩
      rw [hfb] at HF9 HFBW ⊢
      have HFBE := Lib.hid hfb
      clear hfb
      -- without a state
      obtain ⟨d0, d1, d2, _⟩ := HX9.out.cells
      go_wp2_with fail
      refine (hrun_nil pc many A3 n cap3 w9 ea (HE.out.quiet HK9.out)).mono ?_
      rintro e w13 ⟨rfl, hk13⟩
      unfold endC
      have hka := (Keeps.refl (fun _ => False) w13).alloc (.cells #[.bool false, .int .i64 0] 56)
      have hkb := hk13.trans hka (fun _ _ h => h)
      have HK14 := Lib.hid (HK9.out.trans hkb (fun _ _ h => h))
      have HX14 := Lib.hid (HX9.out.keep hkb (fun h => h))
      have HF14 := Lib.hid (HF9.out.keep hkb (fun h => h))
      have HO14 := Lib.hid (HO9.out.quiet hkb)
      have HP14 := Lib.hid (HP9.out.keep hkb (fun h => h))
      clear hk13 hka hkb d0 d1 d2
      go_upto_region 12 with fail
      generalize w13.alloc _ = w14 at *
      go_wp2_with fail
      refine (coded_any 3 (by omega) (by omega) w14 ea (HE.out.quiet HK14.out)).mono ?_
      rintro e w15 ⟨rfl, hk15⟩
      have HK15 := Lib.hid (HK14.out.trans hk15 (fun _ _ h => h))
      have HX15 := Lib.hid (HX14.out.keep hk15 (fun h => h))
      have HF15 := Lib.hid (HF14.out.keep hk15 (fun h => h))
      have HO15 := Lib.hid (HO14.out.quiet hk15)
      have HP15 := Lib.hid (HP14.out.keep hk15 (fun h => h))
      clear hk15 HX14 HF14 HO14 HP14 HX9 HF9 HO9 HP9
      obtain ⟨y0, y1, g0, g1⟩ := HF15.out.cells
      have HPLC := Lib.hid (fun w => placed_any s PA pn pcap page pc w HP.out)
      obtain ⟨sq, hsq⟩ : ∃ sp, Ir.placed s pc = sp := ⟨_, rfl⟩
      rw [hsq] at HPLC
      have HSPE := Lib.hid (show Ir.placed s pc = sq from by rw [← hsq])
      obtain ⟨sp, hsp⟩ : ∃ sp, Ir.placed s pc = sp := ⟨_, rfl⟩
      rw [hsp] at HSPR HSPC HSPE HRDY
      clear hsq hsp
      go_upto_region 16 with fail
      clear y0 y1 g0 g1
      have HK17 := Lib.hid HK15.out
      have HX17 := Lib.hid HX15.out
      have HO17 := Lib.hid HO15.out
      have HP17 := Lib.hid HP15.out
      have HF17 := Lib.hid HF15.out
      generalize w15 = w17 at *
      obtain ⟨cc, hcc⟩ : ∃ c, fc = c := ⟨_, rfl⟩
      obtain ⟨aa, haa⟩ : ∃ c, fat = c := ⟨_, rfl⟩
      have hft2 : ((cc : Int) == 0) = false := by rw [← hcc]; exact hft
      rw [hcc, haa] at HF17
      have HFSS := Lib.hid (show (cc, aa).1 = 0 ∨ (1 ≤ (cc, aa).1 ∧ (cc, aa).1 ≤ 10) from by rw [← hcc, ← haa]; exact HFS.out)
      have HEVF := Lib.hid (show (Ir.planFault many rows).1 ≠ 0 ∧ ((cc, aa) : Nat × Int) = Ir.planFault many rows ∨ (Ir.planFault many rows).1 = 0 ∧ Ir.ready sp pc = false ∧ ((cc, aa) : Nat × Int) = (9, -1) from .inl ⟨HFZ.out, by rw [← hcc, ← haa]; exact HFA.out.symm⟩)
      clear hcc haa
      have HFBL := Lib.hid HF17.out.lt
      go_wp2_with (refine wpList_load_place _ rfl x s PA pn pcap page HP17.out rfl (by first | rfl | decide) ?_)
      refine (HPLC.out _).mono ?_
      rintro e w18 ⟨rfl, hk18⟩
      have HK18 := Lib.hid hk18
      clear hk18
      go_wp2_with (with_reducible refine wpList_store_st rfl _ _ rfl _ _ sq (blk_alloc_new _ _) (by simp) rfl rfl ?_)
      intro w19 hS19 hk19
      have hk19' := ((Keeps.refl (fun _ => False) w18).alloc _).trans hk19 (fun j hj e => absurd (show j = w18.heap.size from e) (Nat.ne_of_lt hj))
      have HS19 := Lib.hid hS19
      have HK19 := Lib.hid (HK18.out.trans hk19' (fun _ _ h => h))
      have hxs : w17.heap.size ≤ w18.heap.size := HK18.out.size
      obtain ⟨xb, hxb⟩ : ∃ b, w18.heap.size = b := ⟨_, rfl⟩
      rw [hxb] at HS19 hxs ⊢
      have HXB := Lib.hid hxs
      clear hS19 hk19 hk19' hxb hxs HK18
      have HS20 := Lib.hid (show StAt w19 xb sp from by rw [HSPE.out]; exact HS19.out)
      have HK20 := Lib.hid (show Keeps (fun b => b = xb) w17 w19 from HK19.out.mono (T := fun b => b = xb) (fun _ _ h => h.elim))
      go_upto_region 19 with fail
      generalize w19 = w20 at *
      clear HS19 HK19
      have HX20 := Lib.hid (HX17.out.keep HK20.out (fun e => by have e : cb = xb := e; have := HX17.out.lt; have := HXB.out; omega))
      have HF20 := Lib.hid (HF17.out.keep HK20.out (fun e => by have e : fb = xb := e; have := HFBL.out; have := HXB.out; omega))
      have HP20 := Lib.hid (HP17.out.keep HK20.out (fun e => by have e : x = xb := e; have := HP17.out.lt; have := HXB.out; omega))
      have HO20 := Lib.hid (HO17.out.keepT HK20.out (fun g c t fz hg ht e => by
        have e : g = xb := e
        have h1 := (Array.getElem?_eq_some_iff.1 hg).1
        have := HXB.out
        omega))
      have HKF20 := Lib.hid (show Keeps (fun _ => False) w w20 from HK17.out.trans HK20.out (fun b hb e => by have e : b = xb := e; have := HXB.out; have := HK17.out.size; omega))
      clear HX17 HF17 HP17 HO17 HX15 HF15 HP15 HO15
      -- the second state
      go_wp2_with (first
        | (with_reducible refine wpList_load_st rfl _ rfl xb sp HS20.out rfl ?_)
        | (with_reducible refine wpList_store_st rfl _ _ rfl _ _ sp (blk_alloc_new _ _) (by simp) rfl rfl ?_))
      intro w22 hS22 hk22
      have hk22' := ((Keeps.refl (fun _ => False) w20).alloc _).trans hk22 (fun j hj e => absurd (show j = w20.heap.size from e) (Nat.ne_of_lt hj))
      have HYS22 := Lib.hid hS22
      have HXS22 := Lib.hid (HS20.out.keep hk22' (fun h => h))
      have HK22 := Lib.hid hk22'
      have HXYL := Lib.hid HS20.out.lt
      obtain ⟨yb, hyb⟩ : ∃ b, w20.heap.size = b := ⟨_, rfl⟩
      rw [hyb] at HYS22 HXYL ⊢
      clear hS22 hk22 hk22' hyb HS20
      have HP22 := Lib.hid (HP20.out.keep HK22.out (fun h => h))
      have HKF22 := Lib.hid (HKF20.out.trans HK22.out (fun _ _ h => h))
      -- memory, model
      obtain ⟨em, hem⟩ : ∃ m, ramOf (min pn 4096) ws = m := ⟨_, rfl⟩
      have HEMR := Lib.hid (show ∀ j, j < 16384 → 0 ≤ em j ∧ em j < 256 by rw [← hem]; exact ramOf_rng _ _)
      have HMEM := Lib.hid (memory_any s PA pn pcap page ws w22 ea (HE.out.quiet HKF22.out).toC (HRD.out.keep HKF22.out (fun _ _ _ h => h)) hpc HRR.out)
      have HMOD := Lib.hid (fun w' (k : Keeps (fun _ => False) w22 w') => model_any s PA pn pcap page ws w' (HRD.out.keep (HKF22.out.trans k (fun _ _ h => h)) (fun _ _ _ h => h)) hpc HRR.out)
      unfold MemIs at HMEM
      unfold ModelIs at HMOD
      rw [hem] at HMEM HMOD
      clear hem
      go_wp2_with (refine wpList_load_place _ rfl x s PA pn pcap page HP22.out rfl (by first | rfl | decide) ?_)
      refine HMEM.out.mono ?_
      rintro e w23 ⟨r, pb, pw, ph, rfl, hRA, hWA, _, hnew, hk23⟩
      have HP23 := Lib.hid (HP22.out.keep hk23 (fun h => h))
      have HRA23 := Lib.hid hRA
      have HWA23 := Lib.hid hWA
      have HNEWR := Lib.hid hnew
      have HK23 := Lib.hid hk23
      have HPBL := Lib.hid (show pb < w23.heap.size ∧ r < w23.heap.size ∧ pw < w23.heap.size from ⟨hRA.bytes.lt, (Array.getElem?_eq_some_iff.1 hRA.box).1, hWA.lt⟩)
      clear hRA hWA hnew hk23
      go_wp2_with (refine wpList_load_place _ rfl x s PA pn pcap page HP23.out rfl (by first | rfl | decide) ?_)
      refine (HMOD.out w23 HK23.out).mono ?_
      rintro e w21 ⟨q, wb, tb, hb, rfl, hRF, hnewq, hk21⟩
      have HRF21 := Lib.hid hRF
      have HNEWQ := Lib.hid hnewq
      have HK2221 := Lib.hid (HK23.out.trans hk21 (fun _ _ h => h))
      have HK2021 := Lib.hid (HK22.out.trans HK2221.out (fun _ _ h => h))
      have HK21 := Lib.hid (HKF20.out.trans HK2021.out (fun _ _ h => h))
      have HRA21 := Lib.hid (HRA23.out.keep hk21 (fun h => h) (fun h => h))
      have HWA21 := Lib.hid (HWA23.out.keep hk21 (fun h => h))
      have HX21 := Lib.hid (HX20.out.keep HK2021.out (fun h => h))
      have HF21 := Lib.hid (HF20.out.keep HK2021.out (fun h => h))
      have HO21 := Lib.hid ((HO20.out.quiet HK2021.out).at_ HL.out).1
      have HXS21 := Lib.hid (HXS22.out.keep HK2221.out (fun h => h))
      have HYS21 := Lib.hid (HYS22.out.keep HK2221.out (fun h => h))
      have HORD := Lib.hid (show (fb ≠ xb ∧ fb ≠ pb) ∧ (yb ≠ xb ∧ yb ≠ pb) ∧ ((q ≠ xb ∧ q ≠ pb) ∧ (wb ≠ xb ∧ wb ≠ pb) ∧ (tb ≠ xb ∧ tb ≠ pb) ∧ (hb ≠ xb ∧ hb ≠ pb)) ∧ (xb ≠ r ∧ xb ≠ pb ∧ xb ≠ pw) ∧ (w.heap.size ≤ xb ∧ w.heap.size ≤ pb) ∧ (fb ≠ yb ∧ fb ≠ q) ∧ (pb ≠ yb ∧ pb ≠ q ∧ r ≠ yb ∧ r ≠ q ∧ xb ≠ q ∧ w.heap.size ≤ q) from by
        have h1 := HPBL.out
        have h2 := HNEWR.out
        have h3 := HNEWQ.out
        have h4 := HFBL.out
        have h5 := HXB.out
        have h6 := HXYL.out
        have h7 := HYS22.out.lt
        have h8 := HK23.out.size
        have h9 := HK17.out.size
        omega)
      have HXYL := Lib.hid (show xb < yb from HXYL.out)
      clear HP20 HP22 HP23 HXS22 HYS22 HRA23 HWA23 HX20 HF20 HO20 hk21 hRF hnewq
      obtain ⟨d0, d1, d2, _⟩ := HX21.out.cells
      have HEV := Lib.hid (hrun_err pc many A3 n cap3 rows xb ⟨r, 0, none⟩ sp w21 ea (HE.out.quiet HK21.out) HO21.out HCAP HXS21.out HP.out (cc, aa) HEVF.out)
      have hne : (Value.pointer (some ⟨r, 0, none⟩)) ≠ .pointer none := by intro h; cases h
      go_wp2_with fail
      refine HEV.out.mono ?_
      rintro e w22 ⟨ev, rfl, hfv, hk22⟩
      unfold endC
      have hka := (Keeps.refl (fun _ => False) w22).alloc (.cells #[.bool false, .int .i64 0] 56)
      have hkb := hk22.trans hka (fun _ _ h => h)
      have HE23 := Lib.hid (EndBox.new w22 false 0)
      have HK23 := Lib.hid (HK21.out.trans hkb (fun _ _ h => h))
      have HFV := Lib.hid ((hfv.keep hka))
      have HF23 := Lib.hid (HF21.out.keep hkb (fun h => h))
      have HXS23 := Lib.hid (HXS21.out.keep hkb (fun h => h))
      have HYS23 := Lib.hid (HYS21.out.keep hkb (fun h => h))
      have HRA23 := Lib.hid (HRA21.out.keep hkb (fun h => h) (fun h => h))
      have HRF23 := Lib.hid (HRF21.out.keep hkb ⟨fun h => h, fun h => h, fun h => h, fun h => h⟩)
      clear hk22 hka hkb hfv d0 d1 d2
      go_upto_region 23 with fail
      generalize w22.alloc _ = w23 at *
      generalize w22.heap.size = eb at *
      obtain ⟨y0, y1, _, _⟩ := HF23.out.cells
      have HFT3 := Lib.hid (faulted_any (cc, aa) HFSS.out ev w23 ea (HE.out.quiet HK23.out) HFV.out)
      unfold faultV at HFT3
      dsimp only at HFT3
      go_wp2_with fail
      refine HFT3.out.mono ?_
      rintro e w24 ⟨rfl, hk24⟩
      have hka := (Keeps.refl (fun _ => False) w24).alloc (.cells #[.bool false, .int .i64 0, .bool false] 68)
      have hkb := hk24.trans hka (fun _ _ h => h)
      have HZ25 := Lib.hid (REndBox.new w24 false 0 false)
      have HF25 := Lib.hid (HF23.out.keep hkb (fun h => h))
      have HE25 := Lib.hid (HE23.out.keep hkb (fun h => h))
      have HK25 := Lib.hid (HK23.out.trans hkb (fun _ _ h => h))
      have HXS25 := Lib.hid (HXS23.out.keep hkb (fun h => h))
      have HYS25 := Lib.hid (HYS23.out.keep hkb (fun h => h))
      have HRA25 := Lib.hid (HRA23.out.keep hkb (fun h => h) (fun h => h))
      have HRF25 := Lib.hid (HRF23.out.keep hkb ⟨fun h => h, fun h => h, fun h => h, fun h => h⟩)
      simp only [rendC] at HZ25
      clear hk24 hka hkb y0 y1
      go_upto_region 26 with fail
      generalize w24.alloc _ = w25 at *
      generalize w24.heap.size = zb at *
      obtain ⟨y0, y1, _, _⟩ := HF25.out.cells
      go_upto_region 28 with fail
      have HSR := Lib.hid HSPR.out
      clear y0 y1 HE23 HF23 HXS23 HYS23 HRA23 HRF23 HXS21 HYS21
      have hr1 := HXS25.out.range
      have hr2 := HYS25.out.range
      have HI : Hid ((Tryz.prog.info? 26).map (·.size) = some (stL sp).length) := Lib.hid (by rw [stL_len]; exact size_st)
      have HU := Lib.hid Tryz.underlying26
      have HQ := Lib.hid (fun w => equal_st w sp HSR.out)
      have Z0 := Lib.hid HE25.out.cells.1
      have Z1 := Lib.hid HE25.out.cells.2.1
      have Z2 := Lib.hid HZ25.out.cells.1
      have Z3 := Lib.hid HZ25.out.cells.2.1
      have Z4 := Lib.hid (cell_at HRF25.out.raw.box 0)
      have HWR := Lib.hid HRF25.out.raw.words
      generalize stL sp = cs at hr1 hr2 HI HQ ⊢
      refine wp_region_held_drew (S := fun w' => Keeps (fun _ => False) w25 w') (by kernel_rfl) (Keeps.refl _ w25).drew (fun hH0 => ?_)
      refine wpAnyH_take (i := 0) (v := ?_) rfl (by kernel_rfl) (by kernel_rfl) (by kernel_rfl) (fun _ _ _ h => h) (Or.inl ⟨by rfl, ?_⟩) hH0 ?_
      rotate_left
      · intro w' hSw
        go_simp
        try with_reducible rfl
      simp only [Act.put, List.setIfInBounds_toArray, List.set_cons_zero, List.set_cons_succ]
      refine wpAnyH_take (i := 1) (v := ?_) rfl (by kernel_rfl) (by kernel_rfl) (by kernel_rfl) (fun _ _ _ h => h) (Or.inl ⟨by rfl, ?_⟩) hH0 ?_
      rotate_left
      · intro w' hSw
        have c := Keeps.cell' hSw Z0.out (fun f => f)
        go_simp
        try with_reducible rfl
      simp only [Act.put, List.setIfInBounds_toArray, List.set_cons_zero, List.set_cons_succ]
      refine wpAnyH_take (i := 2) (v := ?_) rfl (by kernel_rfl) (by kernel_rfl) (by kernel_rfl) (fun _ _ _ h => h) (Or.inl ⟨by rfl, ?_⟩) hH0 ?_
      rotate_left
      · intro w' hSw
        go_simp
        try with_reducible rfl
      simp only [Act.put, List.setIfInBounds_toArray, List.set_cons_zero, List.set_cons_succ]
      refine wpAnyH_take (i := 3) (v := ?_) rfl (by kernel_rfl) (by kernel_rfl) (by kernel_rfl) (fun _ _ _ h => h) (Or.inl ⟨by rfl, ?_⟩) hH0 ?_
      rotate_left
      · intro w' hSw
        have c := Keeps.cell' hSw Z2.out (fun f => f)
        go_simp
        try with_reducible rfl
      simp only [Act.put, List.setIfInBounds_toArray, List.set_cons_zero, List.set_cons_succ]
      refine wpAnyH_take (i := 4) (v := ?_) rfl (by kernel_rfl) (by kernel_rfl) (by kernel_rfl) (fun _ _ _ h => h) (Or.inl ⟨by rfl, ?_⟩) hH0 ?_
      rotate_left
      · intro w' hSw
        go_simp
        try with_reducible rfl
      simp only [Act.put, List.setIfInBounds_toArray, List.set_cons_zero, List.set_cons_succ]
      refine wpAnyH_take (i := 5) (v := ?_) rfl (by kernel_rfl) (by kernel_rfl) (by kernel_rfl) (fun _ _ _ h => h) (Or.inl ⟨by rfl, ?_⟩) hH0 ?_
      rotate_left
      · intro w' hSw
        go_simp
        try with_reducible rfl
      simp only [Act.put, List.setIfInBounds_toArray, List.set_cons_zero, List.set_cons_succ]
      refine wpAnyH_take (i := 6) (v := ?_) rfl (by kernel_rfl) (by kernel_rfl) (by kernel_rfl) (fun _ _ _ h => h) (Or.inl ⟨by go_simp, ?_⟩) hH0 ?_
      rotate_left
      · intro w' hSw
        go_simp
        try with_reducible rfl
      simp only [Act.put, List.setIfInBounds_toArray, List.set_cons_zero, List.set_cons_succ]
      refine wpAnyH_take (i := 7) (v := ?_) rfl (by kernel_rfl) (by kernel_rfl) (by kernel_rfl) (fun _ _ _ h => h) (Or.inl ⟨by go_simp, ?_⟩) hH0 ?_
      rotate_left
      · intro w' hSw
        have c := Keeps.cell' hSw Z1.out (fun f => f)
        go_simp
        try with_reducible rfl
      simp only [Act.put, List.setIfInBounds_toArray, List.set_cons_zero, List.set_cons_succ]
      refine wpAnyH_take (i := 8) (v := ?_) rfl (by kernel_rfl) (by kernel_rfl) (by kernel_rfl) (fun _ _ _ h => h) (Or.inl ⟨by go_simp, ?_⟩) hH0 ?_
      rotate_left
      · intro w' hSw
        go_simp
        try with_reducible rfl
      simp only [Act.put, List.setIfInBounds_toArray, List.set_cons_zero, List.set_cons_succ]
      refine wpAnyH_take (i := 9) (v := ?_) rfl (by kernel_rfl) (by kernel_rfl) (by kernel_rfl) (fun _ _ _ h => h) (Or.inl ⟨by go_simp, ?_⟩) hH0 ?_
      rotate_left
      · intro w' hSw
        have c := Keeps.cell' hSw Z3.out (fun f => f)
        go_simp
        try with_reducible rfl
      simp only [Act.put, List.setIfInBounds_toArray, List.set_cons_zero, List.set_cons_succ]
      refine wpAnyH_take (i := 10) (v := ?_) rfl (by kernel_rfl) (by kernel_rfl) (by kernel_rfl) (fun _ _ _ h => h) (Or.inl ⟨by go_simp, ?_⟩) hH0 ?_
      rotate_left
      · intro w' hSw
        go_simp
        try with_reducible rfl
      simp only [Act.put, List.setIfInBounds_toArray, List.set_cons_zero, List.set_cons_succ]
      refine wpAnyH_take (i := 11) (v := ?_) rfl (by kernel_rfl) (by kernel_rfl) (by kernel_rfl) (fun _ _ _ h => h) (Or.inl ⟨by rfl, ?_⟩) hH0 ?_
      rotate_left
      · intro w' hSw
        go_simp
        try with_reducible rfl
      simp only [Act.put, List.setIfInBounds_toArray, List.set_cons_zero, List.set_cons_succ]
      refine wpAnyH_take (i := 12) (v := ?_) rfl (by kernel_rfl) (by kernel_rfl) (by kernel_rfl) (fun _ _ _ h => h) (Or.inl ⟨by rfl, ?_⟩) hH0 ?_
      rotate_left
      · intro w' hSw
        go_simp
        try with_reducible rfl
      simp only [Act.put, List.setIfInBounds_toArray, List.set_cons_zero, List.set_cons_succ]
      refine wpAnyH_take (i := 13) (v := .agg cs.toArray) rfl (by kernel_rfl) (by kernel_rfl) (by kernel_rfl) (fun _ _ _ h => h) (yieldsIf_load_mid (by go_simp) 26 (.tmp 17) rfl xb 0 (by go_simp) cs _ (fun w' hSw => range_keep hr1 hSw) HU.out rfl HI.out) hH0 ?_
      simp only [Act.put, List.setIfInBounds_toArray, List.set_cons_zero, List.set_cons_succ]
      refine wpAnyH_take (i := 14) (v := .agg cs.toArray) rfl (by kernel_rfl) (by kernel_rfl) (by kernel_rfl) (fun _ _ _ h => h) (yieldsIf_load_mid (by go_simp) 26 (.tmp 18) rfl yb 0 (by go_simp) cs _ (fun w' hSw => range_keep hr2 hSw) HU.out rfl HI.out) hH0 ?_
      simp only [Act.put, List.setIfInBounds_toArray, List.set_cons_zero, List.set_cons_succ]
      refine wpAnyH_take (i := 15) (v := .bool true) rfl (by kernel_rfl) (by kernel_rfl) (by kernel_rfl) (fun _ _ _ h => h) (yieldsIf_eql_agg (by go_simp) 26 26 (.tmp 117) (.tmp 118) rfl cs.toArray eqg_st HQ.out (by go_simp) (by go_simp)) hH0 ?_
      simp only [Act.put, List.setIfInBounds_toArray, List.set_cons_zero, List.set_cons_succ]
      refine wpAnyH_take (i := 16) (v := ?_) rfl (by kernel_rfl) (by kernel_rfl) (by kernel_rfl) (fun _ _ _ h => h) (Or.inl ⟨by rfl, ?_⟩) hH0 ?_
      rotate_left
      · intro w' hSw
        go_simp
        try with_reducible rfl
      simp only [Act.put, List.setIfInBounds_toArray, List.set_cons_zero, List.set_cons_succ]
      refine wpAnyH_take (i := 17) (v := ?_) rfl (by kernel_rfl) (by kernel_rfl) (by kernel_rfl) (fun _ _ _ h => h) (Or.inl ⟨by rfl, ?_⟩) hH0 ?_
      rotate_left
      · intro w' hSw
        go_simp
        try with_reducible rfl
      simp only [Act.put, List.setIfInBounds_toArray, List.set_cons_zero, List.set_cons_succ]
      refine wpAnyH_take (i := 18) (v := ?_) rfl (by kernel_rfl) (by kernel_rfl) (by kernel_rfl) (fun _ _ _ h => h) (Or.inl ⟨by go_simp, ?_⟩) hH0 ?_
      rotate_left
      · intro w' hSw
        go_simp
        try with_reducible rfl
      simp only [Act.put, List.setIfInBounds_toArray, List.set_cons_zero, List.set_cons_succ]
      refine wpAnyH_take (i := 20) (v := ?_) rfl (by kernel_rfl) (by kernel_rfl) (by kernel_rfl) (fun _ _ _ h => h) (Or.inl ⟨by go_simp, ?_⟩) hH0 ?_
      rotate_left
      · intro w' hSw
        go_simp
        try with_reducible rfl
      simp only [Act.put, List.setIfInBounds_toArray, List.set_cons_zero, List.set_cons_succ]
      refine wpAnyH_take (i := 21) (v := ?_) rfl (by kernel_rfl) (by kernel_rfl) (by kernel_rfl) (fun _ _ _ h => h) (Or.inl ⟨by go_simp, ?_⟩) hH0 ?_
      rotate_left
      · intro w' hSw
        go_simp
        try with_reducible rfl
      simp only [Act.put, List.setIfInBounds_toArray, List.set_cons_zero, List.set_cons_succ]
      refine wpAnyH_take (i := 22) (v := ?_) rfl (by kernel_rfl) (by kernel_rfl) (by kernel_rfl) (fun _ _ _ h => h) (Or.inl ⟨by go_simp, ?_⟩) hH0 ?_
      rotate_left
      · intro w' hSw
        go_simp
        try with_reducible rfl
      simp only [Act.put, List.setIfInBounds_toArray, List.set_cons_zero, List.set_cons_succ]
      refine wpAnyH_take (i := 23) (v := ?_) rfl (by kernel_rfl) (by kernel_rfl) (by kernel_rfl) (fun _ _ _ h => h) (Or.inl ⟨by go_simp, ?_⟩) hH0 ?_
      rotate_left
      · intro w' hSw
        have c := Keeps.cell' hSw Z4.out (fun f => f)
        go_simp
        try with_reducible rfl
      simp only [Act.put, List.setIfInBounds_toArray, List.set_cons_zero, List.set_cons_succ]
      refine wpAnyH_ready (rs := [19]) (by kernel_rfl) (by simp) ?_
      refine AllReadyH.cons rfl (fun K hK => ?_) AllReadyH.nil
      go_simp
      refine (words_two r pb pw ph em _ (HRA25.out.keep hH0 (fun h => h) (fun h => h))).mono ?_
      rintro e wx1 ⟨gg, rfl, hra1, hkx1⟩
      go_wp2_with fail
      have hH1 := Keeps.trans hH0 hkx1 (fun _ _ h => h)
      refine hK.out _ _ hH1 (fun _ => ?_)
      clear hK K
      try simp only [Act.put, List.setIfInBounds_toArray, List.set_cons_zero, List.set_cons_succ]
      refine wpAnyH_ready (rs := [24]) (by kernel_rfl) (by simp) ?_
      refine AllReadyH.cons rfl (fun K hK => ?_) AllReadyH.nil
      go_simp
      refine (alike_same gg wb 4096 4096 4096 (fun k => be em (4 * k) 4) wx1 (by omega) (by omega) (by omega) (fun i hi => hra1.cell hi) (fun i hi => (Keeps.rowTo hH1 HWR.out (fun h => h)).cell hi)).mono ?_
      rintro e wx2 ⟨rfl, hkx2⟩
      go_wp2_with fail
      have hH2 := Keeps.trans hH1 hkx2 (fun _ _ h => h)
      refine hK.out _ _ hH2 (fun _ => ?_)
      clear hK K
      try simp only [Act.put, List.setIfInBounds_toArray, List.set_cons_zero, List.set_cons_succ]
      refine wpAnyH_ready (rs := [25]) (by kernel_rfl) (by simp) ?_
      refine AllReadyH.cons rfl (fun K hK => ?_) AllReadyH.nil
      go_simp
      refine hK.out _ _ hH2 (fun _ => ?_)
      clear hK K
      try simp only [Act.put, List.setIfInBounds_toArray, List.set_cons_zero, List.set_cons_succ]
      refine wpAnyH_ready (rs := [26]) (by kernel_rfl) (by simp) ?_
      refine AllReadyH.cons rfl (fun K hK => ?_) AllReadyH.nil
      go_simp
      refine hK.out _ _ hH2 (fun _ => ?_)
      clear hK K
      try simp only [Act.put, List.setIfInBounds_toArray, List.set_cons_zero, List.set_cons_succ]
      refine wpAnyH_ready (rs := [27]) (by kernel_rfl) (by simp) ?_
      refine AllReadyH.cons rfl (fun K hK => ?_) AllReadyH.nil
      go_simp
      refine hK.out _ _ hH2 (fun _ => ?_)
      clear hK K
      try simp only [Act.put, List.setIfInBounds_toArray, List.set_cons_zero, List.set_cons_succ]
      refine wpAnyH_done (by kernel_rfl) ?_ _
      go_wp2_with fail
      go_ret
      exact ⟨by go_simp, HK25.out.trans hH2 (fun _ _ h => h)⟩
end Go.Proofs.YtknhfobcejpmeaaGreatDoor

/- HostRunsD -/
/- The walk of the law HostRuns: one way of four. Printed by gen/hostruns.py. -/
namespace Go.Proofs.YtknhfobcejpmeaaGreatDoor
open Go.RowKit Go.Deep
set_option linter.unusedVariables false
set_option linter.unusedSimpArgs false

set_option maxHeartbeats 16000000 in
set_option maxRecDepth 100000 in
theorem hostRuns_d (pc many : Int) (A : Option Addr) (n cap : Nat) (rows : List (List Ir.Op)) (s : Cp.St) (PA : Option Addr) (pn pcap : Nat) (page : Int) (ws : Nat → Int) (w : World) (ea : Nat → Addr) (E : ErrsAll w ea) (V : RowsAt w A n cap rows) (hc : cap ≤ 9223372036854775807) (hok : ∀ l ∈ rows, ∀ o ∈ l, OpOk o)
    (hR : Reads w PA pn pcap (fun i => .int .u32 (ws i))) (hpc : pcap ≤ 9223372036854775807) (hr : ∀ i, i < pn → 0 ≤ ws i ∧ ws i < 4294967296) (hrng : 0 ≤ s.count → s.count < 4611686018427387904 → Cp.Rng s) (hp : 0 ≤ pc ∧ pc < 4294967296) (hfz : (Ir.planFault many rows).1 = 0) :
    Calls Tryz.prog 4 #[.int .u32 pc, .int .i64 many, .slice A n cap, .agg (placeL s PA pn pcap page).toArray, .bool false] w fun e w' => e = .returned (.bool true) ∧ Keeps (fun _ => False) w w' := by
  have HE := Lib.hid E
  have HV := Lib.hid V
  have HL := Lib.hid V.len
  have HOK := Lib.hid hok
  have HRD := Lib.hid hR
  have HRR := Lib.hid hr
  have HRNG := Lib.hid hrng
  have HP := Lib.hid hp
  have HFZ := Lib.hid hfz
  have hnc := V.le
  have HN := Lib.hid (PlaceAt.new w s PA pn pcap page)
  have HK := Lib.hid ((Keeps.refl (fun _ => False) w).alloc (.cells (placeL s PA pn pcap page).toArray 29))
  have HFS := Lib.hid (pfault_small many rows)
  have HCF := Lib.hid (fun w V => planFault_any many A n cap rows w V hc)
  obtain ⟨fa, hfa⟩ : ∃ f, Ir.planFault many rows = f := ⟨_, rfl⟩
  rw [hfa] at HFS HCF
  have HFA := Lib.hid hfa
  obtain ⟨fc, fat⟩ := fa
  have hfc0 : fc = 0 := by have := hfz; rw [hfa] at this; exact this
  have hft : ((fc : Int) == 0) = true := by simp; omega
  have HFC0 := Lib.hid hfc0
  clear E V hok hR hr hrng hp hfz hfa hfc0
  go_enter Tryz.func4, Tryz.ntmps4
  go_upto_region 1 with fail
  have HP1 := Lib.hid HN.out
  have HK1 := Lib.hid HK.out
  clear HN HK
  generalize w.alloc _ = w1 at *
  obtain ⟨x, hx⟩ : ∃ x, w.heap.size = x := ⟨_, rfl⟩
  rw [hx] at HP1 ⊢
  have HX := Lib.hid hx
  clear hx
  go_wp2_with fail
  refine (hosted_any w1 ea (HE.out.quiet HK1.out)).mono ?_
  rintro e w2 ⟨rfl, hk2⟩
  have HP2 := Lib.hid (HP1.out.keep hk2 (fun h => h))
  have HK2 := Lib.hid (HK1.out.trans hk2 (fun _ _ h => h))
  clear hk2
  by_cases hn20 : 20 < n
  · have ht20 : decide (20 < n) = true := decide_eq_true hn20
    go_wp2_with fail
    go_ret
    exact ⟨rfl, HK2.out⟩
  have ht20 : decide (20 < n) = false := decide_eq_false hn20
  go_wp2_with (refine wpList_load_place _ rfl x s PA pn pcap page HP2.out rfl (by first | rfl | (go_simp; omega)) ?_)
  refine (longPlace_any s PA pn pcap page w2).mono ?_
  rintro e w4 ⟨b, rfl, hb, hk4⟩
  have HP4 := Lib.hid (HP2.out.keep hk4 (fun h => h))
  have HK4 := Lib.hid (HK2.out.trans hk4 (fun _ _ h => h))
  clear hk4
  cases b
  case true =>
    go_wp2_with fail
    go_ret
    exact ⟨rfl, HK4.out⟩
  obtain ⟨hpn, hc0, hc1⟩ := hb rfl
  clear hb
  have HSPR := Lib.hid (placed_rngH (HRNG.out hc0 (by omega)) pc HP.out)
  have HSPC := Lib.hid (show (Ir.placed s pc).count ≤ 1099511627776 ∧ (Ir.placed s pc).R 0 = 0 from ⟨hc1, rfl⟩)
  have HRDY := Lib.hid (Ir.placed_ready s pc)
  clear ht20
  go_wp2_with fail
  go_loopw [10, 12] (fun s10 s12 wr => ∃ i : Nat, i ≤ n ∧ s12 = .int .i64 i ∧ s10 = .bool false ∧ (∀ j, j < i → (rows.getD j []).length ≤ 201) ∧ Keeps (fun _ => False) w4 wr) (fun _ s12 _ => n - (intOf s12).toNat)
  case atStart => exact ⟨0, by omega, rfl, rfl, fun j hj => absurd hj (by omega), Keeps.refl _ _⟩
  case round =>
    obtain ⟨i, hi, rfl, rfl, hZ, hkr⟩ := hrel
    have HZ := Lib.hid hZ
    have HKR := Lib.hid hkr
    clear hZ hkr
    by_cases hlt : i < n
    · obtain ⟨ob, oo, Ai, ci, rfl, e0, e1, e2⟩ := (HV.out.quiet (HK4.out.trans HKR.out (fun _ _ h => h))).get hlt
      have hi63 : (i : Int) < n := by omega
      obtain ⟨lr, hlr⟩ : ∃ l, rows.getD i [] = l := ⟨_, rfl⟩
      rw [hlr] at e0 e1
      have HLR := Lib.hid hlr
      clear hlr
      have HLO := Lib.hid (longOps8_any Ai lr.length ci lr wr e1 e2)
      obtain ⟨ll, hll⟩ : ∃ x, lr.length = x := ⟨_, rfl⟩
      rw [hll] at e0 HLO
      have HLL := Lib.hid hll
      clear hll e1
      go_wp2_with fail
      refine HLO.out.mono ?_
      rintro e w5 ⟨r, rfl, hr, hk5⟩
      have HK5 := Lib.hid (HKR.out.trans hk5 (fun _ _ h => h))
      clear hk5 e0
      rcases hr with rfl | ⟨rfl, hn⟩
      · go_wp2_with fail
        go_ret
        exact ⟨rfl, HK4.out.trans HK5.out (fun _ _ h => h)⟩
      · have HZ2 := Lib.hid (show ∀ j, j < i + 1 → (rows.getD j []).length ≤ 201 from fun j hj => by
          by_cases e : j = i
          · subst e; rw [HLR.out, HLL.out]; exact hn
          · exact HZ.out j (by omega))
        go_wp2_with fail
        go_roundw
        case rel => exact ⟨i + 1, by omega, by go_num, rfl, HZ2.out, HK5.out⟩
        case measure => simp [intOf]; omega
    · obtain rfl : i = n := by omega
      generalize i = n at *
      have HP5 := Lib.hid (HP4.out.keep HKR.out (fun h => h))
      have HK5 := Lib.hid (HK4.out.trans HKR.out (fun _ _ h => h))
      clear HKR HP4 HK4 HP1 HP2
      generalize wr = w5 at *
      have HOW := Lib.hid (ownRows_any A n cap rows w5 (HV.out.quiet HK5.out) hc (by omega) (fun j hj => by have := HZ.out j hj; omega))
      go_wp2_with fail
      refine HOW.out.mono ?_
      rintro e w6 ⟨v, rfl, hro, hk6⟩
      obtain ⟨A3, cap3, rfl, hcap3, _⟩ := hro.rows
      rw [HL.out] at hro ⊢
      have hka := (Keeps.refl (fun _ => False) w6).alloc (.cells #[.int .u32 pc, .int .i64 many, .slice A3 n cap3] 35)
      have HO3 := Lib.hid (hro.quiet hka)
      have HCAP := hcap3
      have HX3 := Lib.hid (PlanBox.new w6 pc many A3 n cap3)
      have HK7 := Lib.hid ((HK5.out.trans hk6 (fun _ _ h => h)).trans hka (fun _ _ h => h))
      have HP7 := Lib.hid ((HP5.out.keep hk6 (fun h => h)).keep hka (fun h => h))
      clear hk6 hka HOW HP5 hro hcap3 HZ
      go_upto_region 10 with fail
      generalize w6.alloc _ = w7 at *
      generalize w6.heap.size = cb at *
      go_wp2_with fail
      refine (HCF.out w7 (HV.out.quiet HK7.out)).mono ?_
      rintro e w8 ⟨rfl, hk8⟩
      unfold faultV
      dsimp only
      have hka := (Keeps.refl (fun _ => False) w8).alloc (.cells #[.int .i64 fc, .int .i64 fat] 44)
      have HF9 := Lib.hid (FaultBox.new w8 fc fat)
      have HK9 := Lib.hid ((HK7.out.trans hk8 (fun _ _ h => h)).trans hka (fun _ _ h => h))
      have HP9 := Lib.hid ((HP7.out.keep hk8 (fun h => h)).keep hka (fun h => h))
      have HX9 := Lib.hid ((HX3.out.keep hk8 (fun h => h)).keep hka (fun h => h))
      have HO9 := Lib.hid ((HO3.out.quiet hk8).quiet hka)
      have HFBW := Lib.hid (show w.heap.size ≤ w8.heap.size ∧ cb < w8.heap.size ∧ x < w8.heap.size from ⟨Nat.le_trans HK7.out.size hk8.size, Nat.lt_of_lt_of_le HX3.out.lt hk8.size, Nat.lt_of_lt_of_le HP7.out.lt hk8.size⟩)
      clear hk8 hka HO3 HX3 HP7
      go_upto_region 11 with fail
      generalize w8.alloc _ = w9 at *
      obtain ⟨fb, hfb⟩ : ∃ b, w8.heap.size = b := ⟨_, rfl⟩
      rw [hfb] at HF9 HFBW ⊢
      have HFBE := Lib.hid hfb
      clear hfb
      -- without a state
      obtain ⟨d0, d1, d2, _⟩ := HX9.out.cells
      go_wp2_with fail
      refine (hrun_nil pc many A3 n cap3 w9 ea (HE.out.quiet HK9.out)).mono ?_
      rintro e w13 ⟨rfl, hk13⟩
      unfold endC
      have hka := (Keeps.refl (fun _ => False) w13).alloc (.cells #[.bool false, .int .i64 0] 56)
      have hkb := hk13.trans hka (fun _ _ h => h)
      have HK14 := Lib.hid (HK9.out.trans hkb (fun _ _ h => h))
      have HX14 := Lib.hid (HX9.out.keep hkb (fun h => h))
      have HF14 := Lib.hid (HF9.out.keep hkb (fun h => h))
      have HO14 := Lib.hid (HO9.out.quiet hkb)
      have HP14 := Lib.hid (HP9.out.keep hkb (fun h => h))
      clear hk13 hka hkb d0 d1 d2
      go_upto_region 12 with fail
      generalize w13.alloc _ = w14 at *
      go_wp2_with fail
      refine (coded_any 3 (by omega) (by omega) w14 ea (HE.out.quiet HK14.out)).mono ?_
      rintro e w15 ⟨rfl, hk15⟩
      have HK15 := Lib.hid (HK14.out.trans hk15 (fun _ _ h => h))
      have HX15 := Lib.hid (HX14.out.keep hk15 (fun h => h))
      have HF15 := Lib.hid (HF14.out.keep hk15 (fun h => h))
      have HO15 := Lib.hid (HO14.out.quiet hk15)
      have HP15 := Lib.hid (HP14.out.keep hk15 (fun h => h))
      clear hk15 HX14 HF14 HO14 HP14 HX9 HF9 HO9 HP9
      obtain ⟨y0, y1, g0, g1⟩ := HF15.out.cells
      have HPLC := Lib.hid (fun w => placed_any s PA pn pcap page pc w HP.out)
      obtain ⟨sq, hsq⟩ : ∃ sp, Ir.placed s pc = sp := ⟨_, rfl⟩
      rw [hsq] at HPLC
      have HSPE := Lib.hid (show Ir.placed s pc = sq from by rw [← hsq])
      obtain ⟨sp, hsp⟩ : ∃ sp, Ir.placed s pc = sp := ⟨_, rfl⟩
      rw [hsp] at HSPR HSPC HSPE HRDY
      clear hsq hsp
      go_upto_region 16 with fail
      clear y0 y1 g0 g1
      have HK17 := Lib.hid HK15.out
      have HX17 := Lib.hid HX15.out
      have HO17 := Lib.hid HO15.out
      have HP17 := Lib.hid HP15.out
      have HF17 := Lib.hid HF15.out
      generalize w15 = w17 at *
      obtain ⟨cc, hcc⟩ : ∃ c, fc = c := ⟨_, rfl⟩
      obtain ⟨aa, haa⟩ : ∃ c, fat = c := ⟨_, rfl⟩
      have hft2 : ((cc : Int) == 0) = true := by rw [← hcc]; exact hft
      rw [hcc, haa] at HF17
      have HFSS := Lib.hid (show (cc, aa).1 = 0 ∨ (1 ≤ (cc, aa).1 ∧ (cc, aa).1 ≤ 10) from by rw [← hcc, ← haa]; exact HFS.out)
      have HCC0 := Lib.hid (show cc = 0 by rw [← hcc]; exact HFC0.out)
      clear hcc haa
      have HFBL := Lib.hid HF17.out.lt
      go_wp2_with (refine wpList_load_place _ rfl x s PA pn pcap page HP17.out rfl (by first | rfl | decide) ?_)
      refine (HPLC.out _).mono ?_
      rintro e w18 ⟨rfl, hk18⟩
      have HK18 := Lib.hid hk18
      clear hk18
      go_wp2_with (with_reducible refine wpList_store_st rfl _ _ rfl _ _ sq (blk_alloc_new _ _) (by simp) rfl rfl ?_)
      intro w19 hS19 hk19
      have hk19' := ((Keeps.refl (fun _ => False) w18).alloc _).trans hk19 (fun j hj e => absurd (show j = w18.heap.size from e) (Nat.ne_of_lt hj))
      have HS19 := Lib.hid hS19
      have HK19 := Lib.hid (HK18.out.trans hk19' (fun _ _ h => h))
      have hxs : w17.heap.size ≤ w18.heap.size := HK18.out.size
      obtain ⟨xb, hxb⟩ : ∃ b, w18.heap.size = b := ⟨_, rfl⟩
      rw [hxb] at HS19 hxs ⊢
      have HXB := Lib.hid hxs
      clear hS19 hk19 hk19' hxb hxs HK18
      have HS20 := Lib.hid (show StAt w19 xb sp from by rw [HSPE.out]; exact HS19.out)
      have HK20 := Lib.hid (show Keeps (fun b => b = xb) w17 w19 from HK19.out.mono (T := fun b => b = xb) (fun _ _ h => h.elim))
      go_upto_region 19 with fail
      generalize w19 = w20 at *
      clear HS19 HK19
      have HX20 := Lib.hid (HX17.out.keep HK20.out (fun e => by have e : cb = xb := e; have := HX17.out.lt; have := HXB.out; omega))
      have HF20 := Lib.hid (HF17.out.keep HK20.out (fun e => by have e : fb = xb := e; have := HFBL.out; have := HXB.out; omega))
      have HP20 := Lib.hid (HP17.out.keep HK20.out (fun e => by have e : x = xb := e; have := HP17.out.lt; have := HXB.out; omega))
      have HO20 := Lib.hid (HO17.out.keepT HK20.out (fun g c t fz hg ht e => by
        have e : g = xb := e
        have h1 := (Array.getElem?_eq_some_iff.1 hg).1
        have := HXB.out
        omega))
      have HKF20 := Lib.hid (show Keeps (fun _ => False) w w20 from HK17.out.trans HK20.out (fun b hb e => by have e : b = xb := e; have := HXB.out; have := HK17.out.size; omega))
      clear HX17 HF17 HP17 HO17 HX15 HF15 HP15 HO15
      -- the second state
      go_wp2_with (first
        | (with_reducible refine wpList_load_st rfl _ rfl xb sp HS20.out rfl ?_)
        | (with_reducible refine wpList_store_st rfl _ _ rfl _ _ sp (blk_alloc_new _ _) (by simp) rfl rfl ?_))
      intro w22 hS22 hk22
      have hk22' := ((Keeps.refl (fun _ => False) w20).alloc _).trans hk22 (fun j hj e => absurd (show j = w20.heap.size from e) (Nat.ne_of_lt hj))
      have HYS22 := Lib.hid hS22
      have HXS22 := Lib.hid (HS20.out.keep hk22' (fun h => h))
      have HK22 := Lib.hid hk22'
      have HXYL := Lib.hid HS20.out.lt
      obtain ⟨yb, hyb⟩ : ∃ b, w20.heap.size = b := ⟨_, rfl⟩
      rw [hyb] at HYS22 HXYL ⊢
      clear hS22 hk22 hk22' hyb HS20
      have HP22 := Lib.hid (HP20.out.keep HK22.out (fun h => h))
      have HKF22 := Lib.hid (HKF20.out.trans HK22.out (fun _ _ h => h))
      -- memory, model
      obtain ⟨em, hem⟩ : ∃ m, ramOf (min pn 4096) ws = m := ⟨_, rfl⟩
      have HEMR := Lib.hid (show ∀ j, j < 16384 → 0 ≤ em j ∧ em j < 256 by rw [← hem]; exact ramOf_rng _ _)
      have HMEM := Lib.hid (memory_any s PA pn pcap page ws w22 ea (HE.out.quiet HKF22.out).toC (HRD.out.keep HKF22.out (fun _ _ _ h => h)) hpc HRR.out)
      have HMOD := Lib.hid (fun w' (k : Keeps (fun _ => False) w22 w') => model_any s PA pn pcap page ws w' (HRD.out.keep (HKF22.out.trans k (fun _ _ h => h)) (fun _ _ _ h => h)) hpc HRR.out)
      unfold MemIs at HMEM
      unfold ModelIs at HMOD
      rw [hem] at HMEM HMOD
      clear hem
      go_wp2_with (refine wpList_load_place _ rfl x s PA pn pcap page HP22.out rfl (by first | rfl | decide) ?_)
      refine HMEM.out.mono ?_
      rintro e w23 ⟨r, pb, pw, ph, rfl, hRA, hWA, _, hnew, hk23⟩
      have HP23 := Lib.hid (HP22.out.keep hk23 (fun h => h))
      have HRA23 := Lib.hid hRA
      have HWA23 := Lib.hid hWA
      have HNEWR := Lib.hid hnew
      have HK23 := Lib.hid hk23
      have HPBL := Lib.hid (show pb < w23.heap.size ∧ r < w23.heap.size ∧ pw < w23.heap.size from ⟨hRA.bytes.lt, (Array.getElem?_eq_some_iff.1 hRA.box).1, hWA.lt⟩)
      clear hRA hWA hnew hk23
      go_wp2_with (refine wpList_load_place _ rfl x s PA pn pcap page HP23.out rfl (by first | rfl | decide) ?_)
      refine (HMOD.out w23 HK23.out).mono ?_
      rintro e w21 ⟨q, wb, tb, hb, rfl, hRF, hnewq, hk21⟩
      have HRF21 := Lib.hid hRF
      have HNEWQ := Lib.hid hnewq
      have HK2221 := Lib.hid (HK23.out.trans hk21 (fun _ _ h => h))
      have HK2021 := Lib.hid (HK22.out.trans HK2221.out (fun _ _ h => h))
      have HK21 := Lib.hid (HKF20.out.trans HK2021.out (fun _ _ h => h))
      have HRA21 := Lib.hid (HRA23.out.keep hk21 (fun h => h) (fun h => h))
      have HWA21 := Lib.hid (HWA23.out.keep hk21 (fun h => h))
      have HX21 := Lib.hid (HX20.out.keep HK2021.out (fun h => h))
      have HF21 := Lib.hid (HF20.out.keep HK2021.out (fun h => h))
      have HO21 := Lib.hid ((HO20.out.quiet HK2021.out).at_ HL.out).1
      have HXS21 := Lib.hid (HXS22.out.keep HK2221.out (fun h => h))
      have HYS21 := Lib.hid (HYS22.out.keep HK2221.out (fun h => h))
      have HORD := Lib.hid (show (fb ≠ xb ∧ fb ≠ pb) ∧ (yb ≠ xb ∧ yb ≠ pb) ∧ ((q ≠ xb ∧ q ≠ pb) ∧ (wb ≠ xb ∧ wb ≠ pb) ∧ (tb ≠ xb ∧ tb ≠ pb) ∧ (hb ≠ xb ∧ hb ≠ pb)) ∧ (xb ≠ r ∧ xb ≠ pb ∧ xb ≠ pw) ∧ (w.heap.size ≤ xb ∧ w.heap.size ≤ pb) ∧ (fb ≠ yb ∧ fb ≠ q) ∧ (pb ≠ yb ∧ pb ≠ q ∧ r ≠ yb ∧ r ≠ q ∧ xb ≠ q ∧ w.heap.size ≤ q) from by
        have h1 := HPBL.out
        have h2 := HNEWR.out
        have h3 := HNEWQ.out
        have h4 := HFBL.out
        have h5 := HXB.out
        have h6 := HXYL.out
        have h7 := HYS22.out.lt
        have h8 := HK23.out.size
        have h9 := HK17.out.size
        omega)
      have HXYL := Lib.hid (show xb < yb from HXYL.out)
      clear HP20 HP22 HP23 HXS22 HYS22 HRA23 HWA23 HX20 HF20 HO20 hk21 hRF hnewq
      obtain ⟨d0, d1, d2, _⟩ := HX21.out.cells
      have HG := Lib.hid (Ir.pgood_of HFZ.out)
      have HIN := Lib.hid (show ∀ l ∈ rows, ∀ o ∈ l, Ir.OpIn o from fun l hl o ho => Ir.opIn_of ((HG.out.row l hl).2 o ho) ⟨(HOK.out l hl o ho).imm.1, Int.lt_of_le_sub_one (HOK.out l hl o ho).imm.2⟩)
      have HSR0 := Lib.hid (Ir.host_rng (W := watchF page) (many := many) HSPR.out HSPC.out.1 HEMR.out (by have := HG.out.range; omega) HIN.out)
      obtain ⟨eo, heo⟩ : ∃ eo, Ir.eoOf sp em many (Ir.runRows (watchF page) (Ir.mc0 sp).X em rows) = eo := ⟨_, rfl⟩
      rw [heo] at HSR0
      have HSR := Lib.hid HSR0.out
      have HEV := Lib.hid (hrun_out pc many A3 n cap3 rows xb r pb pw ph sp em (watchF page) w21 ea (HE.out.quiet HK21.out) HO21.out HCAP HFZ.out HOK.out HXS21.out HSPR.out HRA21.out HWA21.out HP.out HRDY.out HORD.out.2.2.2.1 eo heo)
      have HEO := Lib.hid heo
      clear heo HSR0
      obtain ⟨et, eat, es, m2⟩ := eo
      dsimp only at HSR HEV
      have hne : (Value.pointer (some ⟨r, 0, none⟩)) ≠ .pointer none := by intro h; cases h
      go_wp2_with fail
      refine HEV.out.mono ?_
      rintro e w22 ⟨rfl, hS22, hR22, hk22⟩
      unfold endC
      have hka := (Keeps.refl (fun _ => False) w22).alloc (.cells #[.bool et, .int .i64 eat] 56)
      have hkb := hk22.trans (hka.mono (T := fun b => b = xb ∨ b = pb) (fun _ _ h => h.elim)) (fun _ _ h => h)
      have HE23 := Lib.hid (EndBox.new w22 et eat)
      have HK23 := Lib.hid (HK21.out.trans hkb (fun b hb h => by have h2 := HORD.out.2.2.2.2.1; rcases h with h | h <;> omega))
      have HF23 := Lib.hid (HF21.out.keep hkb (fun h => h.elim HORD.out.1.1 HORD.out.1.2))
      have HXS23 := Lib.hid (StAt.keep hS22 hka (fun h => h))
      have HYS23 := Lib.hid (HYS21.out.keep hkb (fun h => h.elim HORD.out.2.1.1 HORD.out.2.1.2))
      have HRA23 := Lib.hid (hR22.keep hka (fun h => h) (fun h => h))
      have HRF23 := Lib.hid (HRF21.out.keep hkb ⟨fun h => h.elim HORD.out.2.2.1.1.1 HORD.out.2.2.1.1.2, fun h => h.elim HORD.out.2.2.1.2.1.1 HORD.out.2.2.1.2.1.2, fun h => h.elim HORD.out.2.2.1.2.2.1.1 HORD.out.2.2.1.2.2.1.2, fun h => h.elim HORD.out.2.2.1.2.2.2.1 HORD.out.2.2.1.2.2.2.2⟩)
      have HEBN := Lib.hid (show eb0 w22 ≠ yb ∧ eb0 w22 ≠ q from by
        have h1 := HYS21.out.lt
        have h2 := (Array.getElem?_eq_some_iff.1 HRF21.out.raw.box).1
        have h3 := hk22.size
        unfold eb0
        omega)
      unfold eb0 at HEBN
      clear hk22 hka hkb hS22 hR22 d0 d1 d2
      go_upto_region 23 with fail
      generalize w22.alloc _ = w23 at *
      generalize w22.heap.size = eb at *
      obtain ⟨y0, y1, _, _⟩ := HF23.out.cells
      have HFT3 := Lib.hid (faulted_any (cc, aa) HFSS.out .nilIface w23 ea (HE.out.quiet HK23.out) (.inl ⟨HCC0.out, rfl⟩))
      unfold faultV at HFT3
      dsimp only at HFT3
      go_wp2_with fail
      refine HFT3.out.mono ?_
      rintro e w24 ⟨rfl, hk24⟩
      have hka := (Keeps.refl (fun _ => False) w24).alloc (.cells #[.bool false, .int .i64 0, .bool false] 68)
      have hkb := hk24.trans hka (fun _ _ h => h)
      have HZ24 := Lib.hid (REndBox.new w24 false 0 false)
      have HF24 := Lib.hid (HF23.out.keep hkb (fun h => h))
      have HE24 := Lib.hid (HE23.out.keep hkb (fun h => h))
      have HK24 := Lib.hid (HK23.out.trans hkb (fun _ _ h => h))
      have HXS24 := Lib.hid (HXS23.out.keep hkb (fun h => h))
      have HYS24 := Lib.hid (HYS23.out.keep hkb (fun h => h))
      have HRA24 := Lib.hid (HRA23.out.keep hkb (fun h => h) (fun h => h))
      have HRF24 := Lib.hid (HRF23.out.keep hkb ⟨fun h => h, fun h => h, fun h => h, fun h => h⟩)
      have HEBL := Lib.hid (show eb < w24.heap.size ∧ xb < w24.heap.size ∧ yb < w24.heap.size ∧ r < w24.heap.size ∧ pb < w24.heap.size ∧ q < w24.heap.size from by
        have := hk24.size
        have h1 := HE23.out.lt
        have h2 := HXS23.out.lt
        have h3 := HYS23.out.lt
        have h4 := (Array.getElem?_eq_some_iff.1 HRA23.out.box).1
        have h5 := HRA23.out.bytes.lt
        have h6 := (Array.getElem?_eq_some_iff.1 HRF23.out.raw.box).1
        omega)
      have HWZ := Lib.hid (show w.heap.size ≤ w24.heap.size from Nat.le_trans HK23.out.size hk24.size)
      simp only [rendC] at HZ24
      clear hk24 hka hkb y0 y1
      go_upto_region 26 with fail
      generalize w24.alloc _ = w25 at *
      obtain ⟨zb, hzb⟩ : ∃ z, w24.heap.size = z := ⟨_, rfl⟩
      rw [hzb] at HZ24 HEBL HWZ ⊢
      clear hzb
      obtain ⟨y0, y1, _, _⟩ := HF24.out.cells
      have HEF := Lib.hid (runOf_any rows many A n cap yb q wb tb hb em (fun p => watchF page p) (fun _ => false) (watchF page) sp w25 (HV.out.quiet HK24.out) hc (fun l hl => ⟨HIN.out l hl, by have := (HG.out.row l hl).1; omega⟩) HYS24.out HSPR.out HRF24.out (fun p _ => rfl) HSPC.out.2 (by have := HG.out.range; omega))
      go_wp2_with fail
      refine HEF.out.mono ?_
      intro e w26 h26
      obtain ⟨f6, wb2, rfl, hS26, hR26, hk26⟩ := h26.out HYS24.out HRF24.out
      rw [HEO.out] at hS26 hR26 ⊢
      dsimp only at hS26 hR26 ⊢
      have HZ26 := Lib.hid (HZ24.out.keep hk26 (fun e => by have := HEBL.out; rcases e with e | e <;> omega))
      obtain ⟨f0, f1, f2⟩ := HZ26.out.frozen
      obtain ⟨g0, g1, g2⟩ := HZ26.out.cells
      obtain ⟨hq1, hq2⟩ := HZ26.out.put (t' := et) (a' := eat) (f' := f6)
      have hkc := Keeps.trans (hk26.mono (T := fun b => b = yb ∨ b = q ∨ b = zb) (fun b _ h => by rcases h with h | h; exact .inl h; exact .inr (.inl h))) (hq2.mono (T := fun b => b = yb ∨ b = q ∨ b = zb) (fun b _ e => .inr (.inr e))) (fun _ _ h => h)
      have HZ25 := Lib.hid hq1
      have HK25 := Lib.hid (HK24.out.trans hkc (fun b hb h => by have h1 := HORD.out.2.2.2.2.1.1; have h2 := HORD.out.2.2.2.2.2.2.2.2.2.2.2; have := HWZ.out; have := HXYL.out; rcases h with h | h | h <;> omega))
      have HE25 := Lib.hid (HE24.out.keep hkc (fun h => h.elim HEBN.out.1 (fun h => h.elim HEBN.out.2 (Nat.ne_of_lt HEBL.out.1))))
      have HXS25 := Lib.hid (HXS24.out.keep hkc (fun h => h.elim (Ne.symm HORD.out.2.1.1) (fun h => h.elim HORD.out.2.2.2.2.2.2.2.2.2.2.1 (Nat.ne_of_lt HEBL.out.2.1))))
      have HYS25 := Lib.hid (StAt.keep hS26 hq2 (fun e => by have e : yb = zb := e; have := HEBL.out; omega))
      have HRA25 := Lib.hid (HRA24.out.keep hkc (fun h => h.elim HORD.out.2.2.2.2.2.2.2.2.1 (fun h => h.elim HORD.out.2.2.2.2.2.2.2.2.2.1 (Nat.ne_of_lt HEBL.out.2.2.2.1))) (fun h => h.elim HORD.out.2.2.2.2.2.2.1 (fun h => h.elim HORD.out.2.2.2.2.2.2.2.1 (Nat.ne_of_lt HEBL.out.2.2.2.2.1))))
      have HRF25 := Lib.hid (show RefAt (((w26.setCell ⟨zb, 0, none⟩ (.bool et)).setCell ⟨zb, 1, none⟩ (.int .i64 eat)).setCell ⟨zb, 2, none⟩ (.bool f6)) q wb2 tb hb m2 (fun p => watchF page p) (fun _ => false) from by
        have ht : ∀ (b n : Nat) (T : TypeId) (f : Nat → Value), T ≠ 68 → RowTo w26 b T n f → ¬ b = zb := fun b n T f hT hr e => by
          obtain ⟨c, hb, _⟩ := hr
          rw [e, HZ26.out.blk] at hb
          injection hb with hb
          injection hb with _ h2
          exact hT h2.symm
        refine hR26.keep hq2 ⟨fun e => by have e : q = zb := e; have := HEBL.out; omega, ht _ _ _ _ (by decide) hR26.raw.words, ht _ _ _ _ (by decide) hR26.raw.watch, ht _ _ _ _ (by decide) hR26.raw.hit⟩)
      clear hq1 hq2 hkc hk26 hS26 hR26 h26 y0 y1
      unfold rendC
      go_upto_region 28 with fail
      clear f0 f1 f2 g0 g1 g2
      generalize World.setCell (World.setCell (World.setCell w26 _ _) _ _) _ _ = w27 at *
      have hr1 := HXS25.out.range
      have hr2 := HYS25.out.range
      have HI : Hid ((Tryz.prog.info? 26).map (·.size) = some (stL es).length) := Lib.hid (by rw [stL_len]; exact size_st)
      have HU := Lib.hid Tryz.underlying26
      have HQ := Lib.hid (fun w => equal_st w es HSR.out)
      have Z0 := Lib.hid HE25.out.cells.1
      have Z1 := Lib.hid HE25.out.cells.2.1
      have Z2 := Lib.hid HZ25.out.cells.1
      have Z3 := Lib.hid HZ25.out.cells.2.1
      have Z4 := Lib.hid (cell_at HRF25.out.raw.box 0)
      have HWR := Lib.hid HRF25.out.raw.words
      generalize stL es = cs at hr1 hr2 HI HQ ⊢
      refine wp_region_held_drew (S := fun w' => Keeps (fun _ => False) w27 w') (by kernel_rfl) (Keeps.refl _ w27).drew (fun hH0 => ?_)
      refine wpAnyH_take (i := 0) (v := ?_) rfl (by kernel_rfl) (by kernel_rfl) (by kernel_rfl) (fun _ _ _ h => h) (Or.inl ⟨by rfl, ?_⟩) hH0 ?_
      rotate_left
      · intro w' hSw
        go_simp
        try with_reducible rfl
      simp only [Act.put, List.setIfInBounds_toArray, List.set_cons_zero, List.set_cons_succ]
      refine wpAnyH_take (i := 1) (v := ?_) rfl (by kernel_rfl) (by kernel_rfl) (by kernel_rfl) (fun _ _ _ h => h) (Or.inl ⟨by rfl, ?_⟩) hH0 ?_
      rotate_left
      · intro w' hSw
        have c := Keeps.cell' hSw Z0.out (fun f => f)
        go_simp
        try with_reducible rfl
      simp only [Act.put, List.setIfInBounds_toArray, List.set_cons_zero, List.set_cons_succ]
      refine wpAnyH_take (i := 2) (v := ?_) rfl (by kernel_rfl) (by kernel_rfl) (by kernel_rfl) (fun _ _ _ h => h) (Or.inl ⟨by rfl, ?_⟩) hH0 ?_
      rotate_left
      · intro w' hSw
        go_simp
        try with_reducible rfl
      simp only [Act.put, List.setIfInBounds_toArray, List.set_cons_zero, List.set_cons_succ]
      refine wpAnyH_take (i := 3) (v := ?_) rfl (by kernel_rfl) (by kernel_rfl) (by kernel_rfl) (fun _ _ _ h => h) (Or.inl ⟨by rfl, ?_⟩) hH0 ?_
      rotate_left
      · intro w' hSw
        have c := Keeps.cell' hSw Z2.out (fun f => f)
        go_simp
        try with_reducible rfl
      simp only [Act.put, List.setIfInBounds_toArray, List.set_cons_zero, List.set_cons_succ]
      refine wpAnyH_take (i := 4) (v := ?_) rfl (by kernel_rfl) (by kernel_rfl) (by kernel_rfl) (fun _ _ _ h => h) (Or.inl ⟨by rfl, ?_⟩) hH0 ?_
      rotate_left
      · intro w' hSw
        go_simp
        try with_reducible rfl
      simp only [Act.put, List.setIfInBounds_toArray, List.set_cons_zero, List.set_cons_succ]
      refine wpAnyH_take (i := 5) (v := ?_) rfl (by kernel_rfl) (by kernel_rfl) (by kernel_rfl) (fun _ _ _ h => h) (Or.inl ⟨by rfl, ?_⟩) hH0 ?_
      rotate_left
      · intro w' hSw
        go_simp
        try with_reducible rfl
      simp only [Act.put, List.setIfInBounds_toArray, List.set_cons_zero, List.set_cons_succ]
      refine wpAnyH_take (i := 6) (v := ?_) rfl (by kernel_rfl) (by kernel_rfl) (by kernel_rfl) (fun _ _ _ h => h) (Or.inl ⟨by go_simp, ?_⟩) hH0 ?_
      rotate_left
      · intro w' hSw
        go_simp
        try with_reducible rfl
      simp only [Act.put, List.setIfInBounds_toArray, List.set_cons_zero, List.set_cons_succ]
      refine wpAnyH_take (i := 7) (v := ?_) rfl (by kernel_rfl) (by kernel_rfl) (by kernel_rfl) (fun _ _ _ h => h) (Or.inl ⟨by go_simp, ?_⟩) hH0 ?_
      rotate_left
      · intro w' hSw
        have c := Keeps.cell' hSw Z1.out (fun f => f)
        go_simp
        try with_reducible rfl
      simp only [Act.put, List.setIfInBounds_toArray, List.set_cons_zero, List.set_cons_succ]
      refine wpAnyH_take (i := 8) (v := ?_) rfl (by kernel_rfl) (by kernel_rfl) (by kernel_rfl) (fun _ _ _ h => h) (Or.inl ⟨by go_simp, ?_⟩) hH0 ?_
      rotate_left
      · intro w' hSw
        go_simp
        try with_reducible rfl
      simp only [Act.put, List.setIfInBounds_toArray, List.set_cons_zero, List.set_cons_succ]
      refine wpAnyH_take (i := 9) (v := ?_) rfl (by kernel_rfl) (by kernel_rfl) (by kernel_rfl) (fun _ _ _ h => h) (Or.inl ⟨by go_simp, ?_⟩) hH0 ?_
      rotate_left
      · intro w' hSw
        have c := Keeps.cell' hSw Z3.out (fun f => f)
        go_simp
        try with_reducible rfl
      simp only [Act.put, List.setIfInBounds_toArray, List.set_cons_zero, List.set_cons_succ]
      refine wpAnyH_take (i := 10) (v := ?_) rfl (by kernel_rfl) (by kernel_rfl) (by kernel_rfl) (fun _ _ _ h => h) (Or.inl ⟨by go_simp, ?_⟩) hH0 ?_
      rotate_left
      · intro w' hSw
        go_simp
        try with_reducible rfl
      simp only [Act.put, List.setIfInBounds_toArray, List.set_cons_zero, List.set_cons_succ]
      refine wpAnyH_take (i := 11) (v := ?_) rfl (by kernel_rfl) (by kernel_rfl) (by kernel_rfl) (fun _ _ _ h => h) (Or.inl ⟨by rfl, ?_⟩) hH0 ?_
      rotate_left
      · intro w' hSw
        go_simp
        try with_reducible rfl
      simp only [Act.put, List.setIfInBounds_toArray, List.set_cons_zero, List.set_cons_succ]
      refine wpAnyH_take (i := 12) (v := ?_) rfl (by kernel_rfl) (by kernel_rfl) (by kernel_rfl) (fun _ _ _ h => h) (Or.inl ⟨by rfl, ?_⟩) hH0 ?_
      rotate_left
      · intro w' hSw
        go_simp
        try with_reducible rfl
      simp only [Act.put, List.setIfInBounds_toArray, List.set_cons_zero, List.set_cons_succ]
      refine wpAnyH_take (i := 13) (v := .agg cs.toArray) rfl (by kernel_rfl) (by kernel_rfl) (by kernel_rfl) (fun _ _ _ h => h) (yieldsIf_load_mid (by go_simp) 26 (.tmp 17) rfl xb 0 (by go_simp) cs _ (fun w' hSw => range_keep hr1 hSw) HU.out rfl HI.out) hH0 ?_
      simp only [Act.put, List.setIfInBounds_toArray, List.set_cons_zero, List.set_cons_succ]
      refine wpAnyH_take (i := 14) (v := .agg cs.toArray) rfl (by kernel_rfl) (by kernel_rfl) (by kernel_rfl) (fun _ _ _ h => h) (yieldsIf_load_mid (by go_simp) 26 (.tmp 18) rfl yb 0 (by go_simp) cs _ (fun w' hSw => range_keep hr2 hSw) HU.out rfl HI.out) hH0 ?_
      simp only [Act.put, List.setIfInBounds_toArray, List.set_cons_zero, List.set_cons_succ]
      refine wpAnyH_take (i := 15) (v := .bool true) rfl (by kernel_rfl) (by kernel_rfl) (by kernel_rfl) (fun _ _ _ h => h) (yieldsIf_eql_agg (by go_simp) 26 26 (.tmp 117) (.tmp 118) rfl cs.toArray eqg_st HQ.out (by go_simp) (by go_simp)) hH0 ?_
      simp only [Act.put, List.setIfInBounds_toArray, List.set_cons_zero, List.set_cons_succ]
      refine wpAnyH_take (i := 16) (v := ?_) rfl (by kernel_rfl) (by kernel_rfl) (by kernel_rfl) (fun _ _ _ h => h) (Or.inl ⟨by rfl, ?_⟩) hH0 ?_
      rotate_left
      · intro w' hSw
        go_simp
        try with_reducible rfl
      simp only [Act.put, List.setIfInBounds_toArray, List.set_cons_zero, List.set_cons_succ]
      refine wpAnyH_take (i := 17) (v := ?_) rfl (by kernel_rfl) (by kernel_rfl) (by kernel_rfl) (fun _ _ _ h => h) (Or.inl ⟨by rfl, ?_⟩) hH0 ?_
      rotate_left
      · intro w' hSw
        go_simp
        try with_reducible rfl
      simp only [Act.put, List.setIfInBounds_toArray, List.set_cons_zero, List.set_cons_succ]
      refine wpAnyH_take (i := 18) (v := ?_) rfl (by kernel_rfl) (by kernel_rfl) (by kernel_rfl) (fun _ _ _ h => h) (Or.inl ⟨by go_simp, ?_⟩) hH0 ?_
      rotate_left
      · intro w' hSw
        go_simp
        try with_reducible rfl
      simp only [Act.put, List.setIfInBounds_toArray, List.set_cons_zero, List.set_cons_succ]
      refine wpAnyH_take (i := 20) (v := ?_) rfl (by kernel_rfl) (by kernel_rfl) (by kernel_rfl) (fun _ _ _ h => h) (Or.inl ⟨by go_simp, ?_⟩) hH0 ?_
      rotate_left
      · intro w' hSw
        go_simp
        try with_reducible rfl
      simp only [Act.put, List.setIfInBounds_toArray, List.set_cons_zero, List.set_cons_succ]
      refine wpAnyH_take (i := 21) (v := ?_) rfl (by kernel_rfl) (by kernel_rfl) (by kernel_rfl) (fun _ _ _ h => h) (Or.inl ⟨by go_simp, ?_⟩) hH0 ?_
      rotate_left
      · intro w' hSw
        go_simp
        try with_reducible rfl
      simp only [Act.put, List.setIfInBounds_toArray, List.set_cons_zero, List.set_cons_succ]
      refine wpAnyH_take (i := 22) (v := ?_) rfl (by kernel_rfl) (by kernel_rfl) (by kernel_rfl) (fun _ _ _ h => h) (Or.inl ⟨by go_simp, ?_⟩) hH0 ?_
      rotate_left
      · intro w' hSw
        go_simp
        try with_reducible rfl
      simp only [Act.put, List.setIfInBounds_toArray, List.set_cons_zero, List.set_cons_succ]
      refine wpAnyH_take (i := 23) (v := ?_) rfl (by kernel_rfl) (by kernel_rfl) (by kernel_rfl) (fun _ _ _ h => h) (Or.inl ⟨by go_simp, ?_⟩) hH0 ?_
      rotate_left
      · intro w' hSw
        have c := Keeps.cell' hSw Z4.out (fun f => f)
        go_simp
        try with_reducible rfl
      simp only [Act.put, List.setIfInBounds_toArray, List.set_cons_zero, List.set_cons_succ]
      refine wpAnyH_ready (rs := [19]) (by kernel_rfl) (by simp) ?_
      refine AllReadyH.cons rfl (fun K hK => ?_) AllReadyH.nil
      go_simp
      refine (words_two r pb pw ph m2 _ (HRA25.out.keep hH0 (fun h => h) (fun h => h))).mono ?_
      rintro e wx1 ⟨gg, rfl, hra1, hkx1⟩
      go_wp2_with fail
      have hH1 := Keeps.trans hH0 hkx1 (fun _ _ h => h)
      refine hK.out _ _ hH1 (fun _ => ?_)
      clear hK K
      try simp only [Act.put, List.setIfInBounds_toArray, List.set_cons_zero, List.set_cons_succ]
      refine wpAnyH_ready (rs := [24]) (by kernel_rfl) (by simp) ?_
      refine AllReadyH.cons rfl (fun K hK => ?_) AllReadyH.nil
      go_simp
      refine (alike_same gg wb2 4096 4096 4096 (fun k => be m2 (4 * k) 4) wx1 (by omega) (by omega) (by omega) (fun i hi => hra1.cell hi) (fun i hi => (Keeps.rowTo hH1 HWR.out (fun h => h)).cell hi)).mono ?_
      rintro e wx2 ⟨rfl, hkx2⟩
      go_wp2_with fail
      have hH2 := Keeps.trans hH1 hkx2 (fun _ _ h => h)
      refine hK.out _ _ hH2 (fun _ => ?_)
      clear hK K
      try simp only [Act.put, List.setIfInBounds_toArray, List.set_cons_zero, List.set_cons_succ]
      refine wpAnyH_ready (rs := [25]) (by kernel_rfl) (by simp) ?_
      refine AllReadyH.cons rfl (fun K hK => ?_) AllReadyH.nil
      go_simp
      refine hK.out _ _ hH2 (fun _ => ?_)
      clear hK K
      try simp only [Act.put, List.setIfInBounds_toArray, List.set_cons_zero, List.set_cons_succ]
      refine wpAnyH_ready (rs := [26]) (by kernel_rfl) (by simp) ?_
      refine AllReadyH.cons rfl (fun K hK => ?_) AllReadyH.nil
      go_simp
      refine hK.out _ _ hH2 (fun _ => ?_)
      clear hK K
      try simp only [Act.put, List.setIfInBounds_toArray, List.set_cons_zero, List.set_cons_succ]
      refine wpAnyH_ready (rs := [27]) (by kernel_rfl) (by simp) ?_
      refine AllReadyH.cons rfl (fun K hK => ?_) AllReadyH.nil
      go_simp
      refine hK.out _ _ hH2 (fun _ => ?_)
      clear hK K
      try simp only [Act.put, List.setIfInBounds_toArray, List.set_cons_zero, List.set_cons_succ]
      refine wpAnyH_done (by kernel_rfl) ?_ _
      go_wp2_with fail
      go_ret
      exact ⟨by go_simp, HK25.out.trans hH2 (fun _ _ h => h)⟩
end Go.Proofs.YtknhfobcejpmeaaGreatDoor
