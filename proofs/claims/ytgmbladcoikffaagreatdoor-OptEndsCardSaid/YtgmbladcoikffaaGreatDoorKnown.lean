
/- The walks of opt.Dead, opt.Known. -/
import Derived.Test.YtgmbladcoikffaaGreatDoorDead
import Derived.Test.YtgmbladcoikffaaGreatDoorIrCheck
namespace Go.Proofs.YtgmbladcoikffaaGreatDoor
open Go.RowKit Go.Deep
set_option linter.unusedVariables false
set_option linter.unusedSimpArgs false

theorem range_step (p : Nat → Bool) (i : Nat) : (List.range (i + 1)).countP p = (List.range i).countP p + (if p i = true then 1 else 0) := by
  rw [List.range_succ, List.countP_append, List.countP_singleton]
theorem range_le (p : Nat → Bool) (i : Nat) : (List.range i).countP p ≤ i := by
  have := List.countP_le_length (p := p) (l := List.range i)
  simpa using this
/-- an error that is none, or one -/
theorem FaultIs.parts {w : World} {ea : Nat → Addr} {f : Nat × Int} {v : Value} (h : FaultIs w ea f v) : (f.1 = 0 ∧ v = .nilIface) ∨ (f.1 ≠ 0 ∧ ∃ t u, v = .iface t (.pointer (some u))) := by
  rcases h with ⟨h1, h2⟩ | ⟨h1, h2, h3⟩ | ⟨h1, h2, b, h3, _⟩
  · exact .inl ⟨h1, h2⟩
  · exact .inr ⟨h1, _, _, h3⟩
  · exact .inr ⟨h1, _, _, h3⟩
set_option maxHeartbeats 2000000 in
set_option maxRecDepth 100000 in
theorem Dead_any (pc many : Int) (A : Option Addr) (n cap : Nat) (l : List Ir.Op) (w : World) (ea : Nat → Addr) (E : ErrsC w ea) (V : OpsAt w A n cap l) (hc : cap ≤ 9223372036854775807) :
    Calls Tryz.prog 58 #[.agg #[.int .u32 pc, .int .i64 many, .slice A n cap]] w fun e w' => e = .returned (.int .i64 ((if (Ir.fault many l).1 = 0 then Ir.deads l else 0 : Nat) : Int)) ∧ Keeps (fun _ => False) w w' := by
  have HE := Lib.hid E
  have HV := Lib.hid V
  have hn := V.le
  have HL := Lib.hid V.len
  have HN := Lib.hid (code_new w pc many A n cap 35)
  have HCK := Lib.hid (fun w E V => Check_any pc many A n cap l w ea E V hc)
  obtain ⟨f, hf⟩ : ∃ f, Ir.fault many l = f := ⟨_, rfl⟩
  rw [hf] at HCK
  obtain ⟨r, hr⟩ : ∃ r : Nat, (if (Ir.fault many l).1 = 0 then Ir.deads l else 0) = r := ⟨_, rfl⟩
  rw [hr]
  rw [hf] at hr
  have HR := Lib.hid hr
  clear hr hf E V
  go_enter Tryz.func58, Tryz.ntmps58
  go_upto_region 1 with fail
  obtain ⟨hV, hK⟩ := HN.out
  generalize w.alloc _ = w1 at *
  generalize w.heap.size = x at *
  have HC1 := Lib.hid hV
  have HK1 := Lib.hid hK
  obtain ⟨c0, c1, c2⟩ := hV
  clear hK HN
  go_wp2_with fail
  refine (HCK.out w1 (HE.out.quiet HK1.out) (HV.out.quiet HK1.out)).mono ?_
  rintro e w2 ⟨⟨v, rfl, hv⟩, hk2⟩
  have HC2 := Lib.hid (HC1.out.keep hk2 (fun h => h))
  have HK2 := Lib.hid (HK1.out.trans hk2 (fun _ _ h => h))
  have hp := hv.parts
  clear c0 c1 c2 hk2 hv
  obtain ⟨d0, d1, d2⟩ := HC2.out
  rcases hp with ⟨h0, rfl⟩ | ⟨h0, t, u, rfl⟩
  · have HR2 := Lib.hid (show r = Ir.deads l by rw [← HR.out, if_pos h0])
    clear h0
    go_wp2_with fail
    go_loopw [11, 3] (fun s11 s3 wr => ∃ i : Nat, i ≤ n ∧ s11 = .int .i64 i ∧ s3 = .int .i64 ((List.range i).countP (Ir.dead l) : Nat) ∧ Keeps (fun _ => False) w2 wr) (fun s11 _ _ => n - (intOf s11).toNat)
    case atStart => exact ⟨0, by omega, rfl, rfl, Keeps.refl _ _⟩
    case round =>
      obtain ⟨i, hi, rfl, rfl, hKi⟩ := hrel
      have HKI := Lib.hid hKi
      have HST := Lib.hid (range_step (Ir.dead l) i)
      have hle := range_le (Ir.dead l) i
      obtain ⟨q, hq⟩ : ∃ q, (List.range i).countP (Ir.dead l) = q := ⟨_, rfl⟩
      rw [hq] at HST hle
      rw [hq]
      have HQ := Lib.hid hq
      clear hq
      obtain ⟨g0, g1, g2⟩ := HC2.out.keep hKi (fun h => h)
      by_cases hlt : i < n
      · have HDD := Lib.hid (dead_any A n cap l i wr (HV.out.quiet (HK2.out.trans hKi (fun _ _ h => h))) hlt hc)
        obtain ⟨dd, hdd⟩ : ∃ b, Ir.dead l i = b := ⟨_, rfl⟩
        rw [hdd] at HDD HST
        clear hdd hKi d0 d1 d2
        go_wp2_with fail
        refine HDD.out.mono ?_
        rintro e w3 ⟨rfl, hk3⟩
        have HK3 := Lib.hid (HKI.out.trans hk3 (fun _ _ h => h))
        clear g0 g1 g2 hk3
        cases dd
        · go_wp2_with fail
          go_roundw
          case rel => exact ⟨i + 1, by omega, by go_num, by rw [HST.out]; simp, HK3.out⟩
          case measure => simp [intOf]; omega
        · go_wp2_with fail
          go_roundw
          case rel => exact ⟨i + 1, by omega, by go_num, by rw [HST.out]; simp, HK3.out⟩
          case measure => simp [intOf]; omega
      · obtain rfl : i = n := by omega
        have HRE := Lib.hid (show r = q by rw [HR2.out, ← HQ.out]; unfold Ir.deads; rw [HL.out])
        clear hKi d0 d1 d2
        go_wp2_with fail
        go_ret
        exact ⟨by rw [HRE.out]; rfl, HK2.out.trans HKI.out (fun _ _ h => h)⟩
  · have HR2 := Lib.hid (show r = 0 by rw [← HR.out, if_neg h0])
    clear h0
    go_wp2_with fail
    go_ret
    exact ⟨by rw [HR2.out]; rfl, HK2.out⟩
set_option maxHeartbeats 2000000 in
set_option maxRecDepth 100000 in
theorem Known_any (pc many : Int) (A : Option Addr) (n cap : Nat) (l : List Ir.Op) (w : World) (ea : Nat → Addr) (E : ErrsC w ea) (V : OpsAt w A n cap l) (hc : cap ≤ 9223372036854775807) (hok : ∀ i, i < n → OpOk (l.getD i Ir.nop)) :
    Calls Tryz.prog 57 #[.agg #[.int .u32 pc, .int .i64 many, .slice A n cap]] w fun e w' => e = .returned (.int .i64 ((if (Ir.fault many l).1 = 0 then Ir.known l else 0 : Nat) : Int)) ∧ Keeps (fun _ => False) w w' := by
  have HE := Lib.hid E
  have HV := Lib.hid V
  have HOK := Lib.hid hok
  have hn := V.le
  have HL := Lib.hid V.len
  have HN := Lib.hid (code_new w pc many A n cap 35)
  have HCK := Lib.hid (fun w E V => Check_any pc many A n cap l w ea E V hc)
  obtain ⟨f, hf⟩ : ∃ f, Ir.fault many l = f := ⟨_, rfl⟩
  have HG := Lib.hid (fun (h : f.1 = 0) => (show n ≤ 200 by
    have := (Ir.good_of_fault (many := many) (l := l) (by rw [hf]; exact h)).len
    rw [HL.out] at this
    exact this))
  rw [hf] at HCK
  obtain ⟨r, hr⟩ : ∃ r : Nat, (if (Ir.fault many l).1 = 0 then Ir.known l else 0) = r := ⟨_, rfl⟩
  rw [hr]
  rw [hf] at hr
  have HR := Lib.hid hr
  clear hr hf E V hok
  go_enter Tryz.func57, Tryz.ntmps57
  go_upto_region 1 with fail
  obtain ⟨hV, hK⟩ := HN.out
  generalize w.alloc _ = w1 at *
  generalize w.heap.size = x at *
  have HC1 := Lib.hid hV
  have HK1 := Lib.hid hK
  obtain ⟨c0, c1, c2⟩ := hV
  clear hK HN
  go_wp2_with fail
  refine (HCK.out w1 (HE.out.quiet HK1.out) (HV.out.quiet HK1.out)).mono ?_
  rintro e w2 ⟨⟨v, rfl, hv⟩, hk2⟩
  have HC2 := Lib.hid (HC1.out.keep hk2 (fun h => h))
  have HK2 := Lib.hid (HK1.out.trans hk2 (fun _ _ h => h))
  have hp := hv.parts
  clear c0 c1 c2 hk2 hv
  obtain ⟨d0, d1, d2⟩ := HC2.out
  rcases hp with ⟨h0, rfl⟩ | ⟨h0, t, u, rfl⟩
  · have HR2 := Lib.hid (show r = Ir.known l by rw [← HR.out, if_pos h0])
    have hn200 := HG.out h0
    clear h0
    have HFM := Lib.hid (facts_made w2)
    have HAL := Lib.hid ((Keeps.refl (fun _ => False) w2).alloc (.map #[] 0))
    have hmm := @run_makeMap Tryz.prog
    go_upto_region 4 with fail
    clear hmm
    have hfm := HFM.out
    have hal := HAL.out
    obtain ⟨mb, hmb⟩ : ∃ b, w2.heap.size = b := ⟨_, rfl⟩
    clear HFM HAL
    have HMB := Lib.hid hmb
    rw [hmb] at hfm ⊢
    clear hmb
    generalize w2.alloc _ = wm at *
    have HFM := Lib.hid hfm
    have HAL := Lib.hid hal
    have HCM := Lib.hid (HC2.out.keep hal (fun h => h))
    clear hfm hal d0 d1 d2
    obtain ⟨g0, g1, g2⟩ := HCM.out
    go_wp2_with fail
    clear g0 g1 g2
    go_loopw [14, 4] (fun s14 s4 wr => ∃ i : Nat, i ≤ n ∧ s14 = .int .i64 i ∧ s4 = .int .i64 ((List.range i).countP (fun i => Ir.foldable (Ir.factsOf (l.take i)) (l.getD i Ir.nop)) : Nat) ∧ FactsAt wr mb i (Ir.factsOf (l.take i)) ∧ Keeps (fun k => k = mb) wm wr) (fun s14 _ _ => n - (intOf s14).toNat)
    case atStart => exact ⟨0, by omega, rfl, rfl, HFM.out, Keeps.refl _ _⟩
    case round =>
      obtain ⟨i, hi, rfl, rfl, hFi, hKi⟩ := hrel
      have HFI := Lib.hid hFi
      have HKI := Lib.hid hKi
      have HKW := Lib.hid (show Keeps (fun _ => False) w wr from (HK2.out.trans HAL.out (fun _ _ h => h)).trans hKi (fun j hj e => by have := HMB.out; have := HK2.out.size; omega))
      have HST := Lib.hid (range_step (fun i => Ir.foldable (Ir.factsOf (l.take i)) (l.getD i Ir.nop)) i)
      have hle := range_le (fun i => Ir.foldable (Ir.factsOf (l.take i)) (l.getD i Ir.nop)) i
      obtain ⟨q, hq⟩ : ∃ q, (List.range i).countP (fun i => Ir.foldable (Ir.factsOf (l.take i)) (l.getD i Ir.nop)) = q := ⟨_, rfl⟩
      rw [hq] at HST hle
      rw [hq]
      have HQ := Lib.hid hq
      clear hq hFi hKi
      by_cases hlt : i < n
      · obtain ⟨bb, oo, rfl, e0, e1, e2, e3, e4, e5⟩ := (HV.out.quiet HKW.out).get hlt
        have HFS := Lib.hid (show Ir.factsOf (l.take (i + 1)) = Ir.learn (Ir.factsOf (l.take i)) (l.getD i Ir.nop) from by
          have hil : i < l.length := by rw [HL.out]; exact hlt
          unfold Ir.factsOf
          rw [List.take_succ_eq_append_getElem hil, List.foldl_append, show l.getD i Ir.nop = l[i] by simp [List.getD, hil]]
          rfl)
        have HOP := Lib.hid (HOK.out i hlt)
        have HST2 := Lib.hid (show (List.range (i + 1)).countP (fun i => Ir.foldable (Ir.factsOf (l.take i)) (l.getD i Ir.nop)) = q + (if Ir.foldable (Ir.factsOf (l.take i)) (l.getD i Ir.nop) = true then 1 else 0) from HST.out)
        obtain ⟨ff, hff⟩ : ∃ ff, Ir.factsOf (l.take i) = ff := ⟨_, rfl⟩
        rw [hff] at HFI HFS HST2
        clear hff HST
        obtain ⟨op, hop⟩ : ∃ op, l.getD i Ir.nop = op := ⟨_, rfl⟩
        rw [hop] at e0 e1 e2 e3 e4 e5 HFS HST2 HOP
        clear hop
        obtain ⟨fo, hfo⟩ : ∃ b, Ir.foldable ff op = b := ⟨_, rfl⟩
        have HFO := Lib.hid (fun w F => foldable_any mb i ff op w F HOP.out)
        rw [hfo] at HST2 HFO
        clear hfo
        have HLN := Lib.hid (fun w F => learn_any mb i ff op w F (by omega) HOP.out)
        have HALR := Lib.hid ((Keeps.refl (fun _ => False) wr).alloc (.cells (opC op) 85))
        have HOAR := Lib.hid (OpAt.new wr op 85)
        have HZM := Lib.hid (show wr.heap.size ≠ mb from fun e => by have := HFI.out.lt; omega)
        go_upto_region 7 with fail
        have hal := HALR.out
        have hoa := HOAR.out
        simp only [opC] at hal hoa
        clear HALR HOAR
        generalize wr.alloc _ = wx at *
        generalize wr.heap.size = z at *
        have HKX := Lib.hid hal
        have HZX := Lib.hid hoa
        obtain ⟨x0, x1, x2, x3, x4, x5⟩ := hoa
        clear hal e0 e1 e2 e3 e4 e5
        go_wp2_with fail
        refine (HFO.out wx (HFI.out.keep HKX.out (fun h => h))).mono ?_
        rintro e w3 ⟨rfl, hk3⟩
        have HK3 := Lib.hid (HKX.out.trans hk3 (fun _ _ h => h))
        have HZ3 := Lib.hid (HZX.out.keep hk3 (fun h => h))
        clear x0 x1 x2 x3 x4 x5 hk3
        obtain ⟨x0, x1, x2, x3, x4, x5⟩ := HZ3.out
        cases fo
        all_goals
          go_wp2_with fail
          refine (HLN.out w3 (HFI.out.keep HK3.out (fun h => h))).mono ?_
          rintro e w4 ⟨rfl, hF4, hk4⟩
          have HF4 := Lib.hid hF4
          have HK4 := Lib.hid (HKI.out.trans ((HK3.out.mono (T := fun k => k = mb) (fun _ _ h => h.elim)).trans hk4 (fun _ _ h => h)) (fun _ _ h => h))
          clear x0 x1 x2 x3 x4 x5 hF4 hk4
          go_wp2_with fail
          go_roundw
          case rel => exact ⟨i + 1, by omega, by go_num, by rw [HST2.out]; simp, by rw [HFS.out]; exact HF4.out, HK4.out⟩
          case measure => simp [intOf]; omega
      · obtain rfl : i = n := by omega
        have HRE := Lib.hid (show r = q by rw [HR2.out, ← HQ.out]; unfold Ir.known; rw [HL.out])
        go_wp2_with fail
        go_ret
        exact ⟨by rw [HRE.out]; rfl, HKW.out⟩
  · have HR2 := Lib.hid (show r = 0 by rw [← HR.out, if_neg h0])
    clear h0
    go_wp2_with fail
    go_ret
    exact ⟨by rw [HR2.out]; rfl, HK2.out⟩
end Go.Proofs.YtgmbladcoikffaaGreatDoor
