import Derived.Test.YtlbdkcnbgdmpaaaGreatDoorOnez20
import Derived.Test.YtlbdkcnbgdmpaaaGreatDoorOnez14
import Derived.Test.YtlbdkcnbgdmpaaaGreatDoorOnez7
import Derived.Test.YtlbdkcnbgdmpaaaGreatDoorOnez17

/- RinsW -/
/- The reference's processor: the walk of OneIns. -/
namespace Go.Proofs.YtlbdkcnbgdmpaaaGreatDoor
open Go.RowKit Go.Deep
set_option linter.unusedVariables false

theorem RInv.brng {b : Nat} {O : Nat → Prop} {w : World} {B : Sb} (h : RInv b O w B) : Cp.BRng B := by
  obtain ⟨q, wb, tb, hb, tv, h⟩ := h
  exact ⟨h.ram.rng, h.bus.rng⟩

theorem wb_off (v : Int) (h : 0 ≤ v ∧ v < 4294967296) (h2 : ¬ v / 2 % 2 = 0) : wb v 1 false = v - 2 := by
  unfold wb
  rw [show (2 : Int) ^ 1 = 2 from rfl]
  simp only [Bool.false_eq_true, if_false]
  omega
set_option maxRecDepth 100000 in
set_option maxHeartbeats 3000000 in
theorem rins_45 (sb b : Nat) (O : Nat → Prop) (S T D imm : Int) (s : Cp.St) (B : Sb) (w : World) (hS : StAt w sb s) (hB : RInv b O w B) (hs : Cp.Rng s) (hOs : ¬ O sb) (r : Int × Cp.St × Sb) (hr : Hid (r = if s.status / 2 % 2 = 0 ∨ s.slot = true then (10, s, B) else (-1, { s with pc := s.epc, next := Cp.u (s.epc + 4), status := s.status - 2 }, B))) :
    Calls Tryz.prog 40 #[.pointer (some ⟨sb, 0, none⟩), .pointer (some ⟨b, 0, none⟩), .agg (insC ⟨45, S, T, D, imm⟩)] w fun e w' => RsOk w w' sb b O r e := by
  have HO := Lib.hid (ref_open hS ⟨45, S, T, D, imm⟩)
  have HB := Lib.hid hB
  have hst := hs.status
  have hep := hs.epc
  have HBT := Lib.hid (fun w => bitOf_any s.status 1 w hst (by omega))
  rw [show s.status / 2 ^ 1 = s.status / 2 by simp] at HBT
  have HPL := Lib.hid (fun w => plus_any s.epc 4 w hep (by omega))
  have HWB := Lib.hid (fun w => withBit_any s.status 1 false w hst (by omega))
  clear hS hB hs hep
  have HST := Lib.hid hst
  clear hst
  unfold insC
  by_cases hd : s.status / 2 % 2 = 0
  · have hd1 : decide (s.status / 2 % 2 = 1) = false := decide_eq_false (by omega)
    rw [hd1] at HBT
    have HR := Lib.hid (show r = (10, s, B) by rw [hr.out, if_pos (.inl hd)])
    clear hd hd1 hr
    go_enter Tryz.func40, Tryz.ntmps40
    go_upto_region 1 with fail
    obtain ⟨hS1, hI1, hk1⟩ := HO.out
    simp only at hS1 hI1 hk1
    generalize w.alloc _ = w1 at *
    generalize w.heap.size = x at *
    have HS1 := Lib.hid hS1
    have HK1 := Lib.hid hk1
    obtain ⟨i0, i1, i2, i3, i4⟩ := hI1.cells
    simp only at i0 i1 i2 i3 i4
    have s37 := hS1.cells.2.2.2.2.2.1
    clear hS1 hI1 hk1 HO
    go_wp2_with fail
    refine (HBT.out _).mono ?_
    rintro e w' ⟨rfl, rfl⟩
    go_wp2_with fail
    go_ret
    rw [HR.out]
    exact ⟨rfl, HS1.out, O, HB.out.keep HK1.out (fun k hk e => hOs (e ▸ hk)), Grew.refl _ _, HK1.out.mono (fun _ _ h => .inl h)⟩
  · have hd1 : decide (s.status / 2 % 2 = 1) = true := decide_eq_true (by omega)
    rw [hd1] at HBT
    have HD := Lib.hid hd
    clear hd hd1
    cases hsl : s.slot
    · have HR := Lib.hid (show r = (-1, { s with pc := s.epc, next := Cp.u (s.epc + 4), status := wb s.status 1 false }, B) by rw [hr.out, if_neg (by rw [hsl]; have := HD.out; simp; omega), wb_off _ HST.out HD.out])
      have HSL := Lib.hid hsl
      clear hr hsl
      go_enter Tryz.func40, Tryz.ntmps40
      go_upto_region 1 with fail
      obtain ⟨hS1, hI1, hk1⟩ := HO.out
      simp only at hS1 hI1 hk1
      generalize w.alloc _ = w1 at *
      generalize w.heap.size = x at *
      have HS1 := Lib.hid hS1
      have HK1 := Lib.hid hk1
      obtain ⟨i0, i1, i2, i3, i4⟩ := hI1.cells
      simp only at i0 i1 i2 i3 i4
      obtain ⟨_, _, s34, s35, s36, s37, _, s39, _, _, _⟩ := hS1.cells
      rw [HSL.out] at s36
      have f34 := hS1.frozen 34
      have f35 := hS1.frozen 35
      have f37 := hS1.frozen 37
      have HP := Lib.hid (((hS1.set 2 (.int .u32 s.epc) (s' := { s with pc := s.epc }) rfl rfl).set 3 (.int .u32 (Cp.u (s.epc + 4))) (s' := { s with pc := s.epc, next := Cp.u (s.epc + 4) }) rfl rfl).set 5 (.int .u32 (wb s.status 1 false)) (s' := { s with pc := s.epc, next := Cp.u (s.epc + 4), status := wb s.status 1 false }) rfl rfl)
      generalize Cp.u (s.epc + 4) = v4 at *
      generalize wb s.status 1 false = vw at *
      have HKP := Lib.hid (((HK1.out.trans (Keeps.one _ sb 34 (.int .u32 s.epc)) (fun _ _ h => h)).trans (Keeps.one _ sb 35 (.int .u32 v4)) (fun _ _ h => h)).trans (Keeps.one _ sb 37 (.int .u32 vw)) (fun _ _ h => h))
      clear hS1 hI1 hk1 HO
      go_wp2_with fail
      refine (HBT.out _).mono ?_
      rintro e w' ⟨rfl, rfl⟩
      go_wp2_with fail
      refine (HPL.out _).mono ?_
      rintro e w' ⟨rfl, rfl⟩
      go_wp2_with fail
      refine (HWB.out _).mono ?_
      rintro e w' ⟨rfl, rfl⟩
      go_wp2_with fail
      go_ret
      rw [HR.out]
      have hK := HKP.out
      exact ⟨rfl, HP.out, O, HB.out.keep hK (fun k hk e => hOs (e ▸ hk)), Grew.refl _ _, hK.mono (fun _ _ h => .inl h)⟩
    · have HR := Lib.hid (show r = (10, s, B) by rw [hr.out, if_pos (.inr hsl)])
      have HSL := Lib.hid hsl
      clear hr hsl
      go_enter Tryz.func40, Tryz.ntmps40
      go_upto_region 1 with fail
      obtain ⟨hS1, hI1, hk1⟩ := HO.out
      simp only at hS1 hI1 hk1
      generalize w.alloc _ = w1 at *
      generalize w.heap.size = x at *
      have HS1 := Lib.hid hS1
      have HK1 := Lib.hid hk1
      obtain ⟨i0, i1, i2, i3, i4⟩ := hI1.cells
      simp only at i0 i1 i2 i3 i4
      obtain ⟨_, _, s34, s35, s36, s37, _, s39, _, _, _⟩ := hS1.cells
      rw [HSL.out] at s36
      clear hS1 hI1 hk1 HO
      go_wp2_with fail
      refine (HBT.out _).mono ?_
      rintro e w' ⟨rfl, rfl⟩
      go_wp2_with fail
      go_ret
      rw [HR.out]
      exact ⟨rfl, HS1.out, O, HB.out.keep HK1.out (fun k hk e => hOs (e ▸ hk)), Grew.refl _ _, HK1.out.mono (fun _ _ h => .inl h)⟩
set_option maxRecDepth 100000 in
set_option maxHeartbeats 3000000 in
theorem rins_do (sb b : Nat) (O : Nat → Prop) (i : Cd.Ins) (s : Cp.St) (B : Sb) (w : World) (hS : StAt w sb s) (hB : RInv b O w B) (hs : Cp.Rng s) (hi : Cd.Ok i) (hl : B.l.length < 1000000) (hn : B.tn < 1000000) (hOs : ¬ O sb) (h0 : s.R 0 = 0) (hne : i.op ≠ 45)
    (r : Int × Cp.St × Sb) (hr : Hid (r = Cp.ins i s B)) :
    Calls Tryz.prog 40 #[.pointer (some ⟨sb, 0, none⟩), .pointer (some ⟨b, 0, none⟩), .agg (insC i)] w fun e w' => RsOk w w' sb b O r e := by
  have hop : i.op < 54 := hi.op
  have hne2 : ((i.op : Int) == 45) = false := by simpa using (show ¬ (i.op : Int) = 45 by omega)
  have HO := Lib.hid (ref_open hS i)
  have HB := Lib.hid hB
  have HIN := Lib.hid (Cp.ins_not45 i s B hne hs hi)
  have HRD := Lib.hid (fun w1 (hS1 : StAt w1 sb s) (hB1 : RInv b O w1 B) => rdo_any sb b O i s B w1 hS1 hB1 hs hi hl hn hOs h0 hne (Cp.u (s.next + 4)) _ (Lib.hid rfl) _ (Lib.hid rfl))
  have HNX := Lib.hid (Cp.next_do i s B (Cp.u (s.next + 4)) hne)
  have HW := Lib.hid (Cp.goTo_W i s hs hi)
  have HEO := Lib.hid (Cp.nxt_do i s B (Cp.u (s.next + 4)) false hs hi hB.brng (Cp.W_u _)).2.1
  have hnx := hs.next
  have HKO := Lib.hid (fun w => kindOf_any i.op hop w)
  have HTS := Lib.hid (kd_test2 (Cd.kd i.op) (kd_lt6' i.op hop)).1
  have HPL := Lib.hid (fun w => plus_still s.next 4 w hnx (by omega))
  have HLT := Lib.hid hS.lt
  have HBL := Lib.hid hB.lt
  clear hS hB hs hi hl hn h0 hne hnx
  generalize Cp.doIt i s B (Cp.u (s.next + 4)) false = o at *
  generalize goTo i s = t at *
  generalize decide (Cd.kd i.op = 1) = kb at *
  generalize (⟨(Cd.kindS (Cd.kd i.op)).toArray⟩ : ByteArray) = ks at *
  unfold insC at HRD ⊢
  go_enter Tryz.func40, Tryz.ntmps40
  go_upto_region 1 with fail
  obtain ⟨hS1, hI1, hk1⟩ := HO.out
  have hxs : ¬ w.heap.size = sb := fun h => by have := HLT.out; omega
  have hsx : ¬ sb = w.heap.size := fun h => by have := HLT.out; omega
  have hOx : ¬ O w.heap.size := fun h => Nat.lt_irrefl _ (HBL.out _ h)
  generalize w.alloc _ = w1 at *
  generalize w.heap.size = x at *
  have HS1 := Lib.hid hS1
  have HK1 := Lib.hid hk1
  have HI1 := Lib.hid hI1
  obtain ⟨i0, i1, i2, i3, i4⟩ := hI1.cells
  clear hS1 hI1 hk1 HO
  go_wp2_with fail
  refine (HRD.out w1 HS1.out (HB.out.keep HK1.out (fun k hk e => hOs (e ▸ hk)))).mono ?_
  intro e w3 h
  obtain ⟨s1, hS3, hE3⟩ := h.st
  obtain ⟨O', hB3, hG3, hK3⟩ := h.k
  obtain rfl := h.e
  have hI3 := HI1.out.keep hK3 (fun e => e.elim hxs hOx)
  have hO' : ¬ O' sb := fun h => by
    rcases hG3 sb h with h | h
    · exact hOs h
    · have := HS1.out.lt; omega
  have HO' := Lib.hid hO'
  have HB3 := Lib.hid hB3
  have HG3 := Lib.hid (hG3.low (w := w) HK1.out.size)
  have HK3 := Lib.hid ((HK1.out.mono (T := fun k => k = sb ∨ O k) (fun _ _ h => .inl h)).trans hK3 (fun _ _ h => h))
  have HS3 := Lib.hid hS3
  clear i0 i1 i2 i3 i4 HS1 HK1 HI1 hG3 hB3 hK3 h hO'
  obtain ⟨i0, i1, i2, i3, i4⟩ := hI3.cells
  clear hI3
  have hdst : o.e = -1 ∨ (0 ≤ o.e ∧ o.e < 32) := HEO.out
  have HR : Hid (r = (o.e, if o.e = -1 then { o.s with pc := s.next, next := if t < 0 then Cp.u (s.next + 4) else t, slot := kb } else o.s, o.b)) := Lib.hid (hr.out.trans HIN.out)
  clear hr HIN HRD HEO
  unfold Cp.Ends at hE3
  simp only at hE3
  rcases hdst with he | he
  · rw [if_pos he] at hE3
    have hn1 : s1.next = s.next := by
      have := congrArg Cp.St.next hE3
      rw [HNX.out] at this
      exact this
    have HR2 := Lib.hid (show r = (-1, { o.s with pc := s.next, next := if t < 0 then Cp.u (s.next + 4) else t, slot := kb }, o.b) by rw [HR.out, he, if_pos rfl])
    obtain ⟨_, _, s34, s35, s36, _, _, _, _, _, _⟩ := hS3.cells
    rw [hn1] at s35
    have f0 := hS3.frozen 0
    have f34 := hS3.frozen 34
    have f35 := hS3.frozen 35
    have r0 := hS3.reg 0 (by omega)
    have hz := hS3.put 0 ⟨by decide, by decide⟩ 0
    rw [show Cp.putR s1 0 0 = o.s from hE3] at hz
    have HP := Lib.hid ((hz.set 2 (.int .u32 s.next) (s' := { o.s with pc := s.next }) rfl rfl).set 3 (.int .u32 (Cp.u (s.next + 4))) (s' := { o.s with pc := s.next, next := Cp.u (s.next + 4) }) rfl rfl)
    have HE1 := Lib.hid he
    clear hz hE3 hn1 he hS3 HR HNX
    rw [HE1.out]
    generalize Cp.u (s.next + 4) = v4 at *
    have HKN := Lib.hid (((Keeps.one w3 sb 0 (.int .u32 0)).trans (Keeps.one _ sb 34 (.int .u32 s.next)) (fun _ _ h => h)).trans (Keeps.one _ sb 35 (.int .u32 v4)) (fun _ _ h => h))
    go_wp2_with fail
    refine (HPL.out _).mono ?_
    rintro e w' ⟨rfl, rfl⟩
    go_wp2_with fail
    refine (HKO.out _).mono ?_
    rintro e w4 ⟨rfl, hk4⟩
    have hS4 := HP.out.keep hk4 (fun h => h)
    have hK4 := HKN.out.trans hk4 (fun _ _ h => h.elim)
    have HB4 := Lib.hid (HB3.out.keep hK4 (fun k hk e => HO'.out (e ▸ hk)))
    have HK4 := Lib.hid (HK3.out.trans hK4 (fun _ _ h => .inl h))
    clear s34 s35 s36 f0 f34 f35 r0 i0 i1 i2 i3 i4 HP HKN hk4 hK4 HB3 HK3 HS3
    obtain ⟨_, _, _, s35, s36, _, _, _, _, _, _⟩ := hS4.cells
    simp only at s35 s36
    have f35 := hS4.frozen 35
    have f36 := hS4.frozen 36
    have HS4 := Lib.hid hS4
    have HP1 := Lib.hid (hS4.set 4 (.bool kb) (s' := { o.s with pc := s.next, next := v4, slot := kb }) rfl rfl)
    have HP2 := Lib.hid (HP1.out.set 3 (.int .u32 t) (s' := { o.s with pc := s.next, next := t, slot := kb }) rfl rfl)
    have HKA := Lib.hid (Keeps.one w4 sb 36 (.bool kb))
    have HKB := Lib.hid (HKA.out.trans (Keeps.one _ sb 35 (.int .u32 t)) (fun _ _ h => h))
    clear hS4
    have hks := HTS.out
    rcases HW.out with ht | ht
    · subst ht
      have HR3 := Lib.hid (show r = (-1, { o.s with pc := s.next, next := v4, slot := kb }, o.b) from HR2.out)
      clear HR2
      go_wp2_with fail
      go_ret
      rw [HR3.out]
      exact ⟨rfl, HP1.out, O', HB4.out.keep HKA.out (fun k hk e => HO'.out (e ▸ hk)), HG3.out, HK4.out.trans HKA.out (fun _ _ h => .inl h)⟩
    · unfold Cp.W at ht
      have HR3 := Lib.hid (show r = (-1, { o.s with pc := s.next, next := t, slot := kb }, o.b) by rw [HR2.out, if_neg (show ¬ t < 0 by omega)])
      have ht2 : decide (0 ≤ t) = true := decide_eq_true ht.1
      have ht3 : t % 4294967296 = t := by omega
      have ht4 : IntKind.u32.wrap t = t := by rw [IntKind.wrap_u32]; exact ht3
      clear HR2
      go_wp2_with fail
      go_ret
      rw [HR3.out]
      exact ⟨rfl, HP2.out, O', HB4.out.keep HKB.out (fun k hk e => HO'.out (e ▸ hk)), HG3.out, HK4.out.trans HKB.out (fun _ _ h => .inl h)⟩
  · rw [if_neg (by omega)] at hE3
    subst hE3
    have HR2 := Lib.hid (show r = (o.e, o.s, o.b) by rw [HR.out, if_neg (by omega)])
    have he2 : decide (0 ≤ o.e) = true := decide_eq_true he.1
    clear HR HNX hS3
    generalize o.e = ev at *
    go_wp2_with fail
    go_ret
    rw [HR2.out]
    exact ⟨rfl, HS3.out, O', HB3.out, HG3.out, HK3.out⟩
theorem rins_any (sb b : Nat) (O : Nat → Prop) (i : Cd.Ins) (s : Cp.St) (B : Sb) (w : World) (hS : StAt w sb s) (hB : RInv b O w B) (hs : Cp.Rng s) (hi : Cd.Ok i) (hl : B.l.length < 1000000) (hn : B.tn < 1000000) (hOs : ¬ O sb) (h0 : s.R 0 = 0)
    (r : Int × Cp.St × Sb) (hr : Hid (r = Cp.ins i s B)) :
    Calls Tryz.prog 40 #[.pointer (some ⟨sb, 0, none⟩), .pointer (some ⟨b, 0, none⟩), .agg (insC i)] w fun e w' => RsOk w w' sb b O r e := by
  by_cases h : i.op = 45
  · have h2 := Lib.hid (hr.out.trans (Cp.ins_45 i s B h))
    obtain ⟨op, S, T, D, imm⟩ := i
    simp only at h
    subst h
    exact rins_45 sb b O S T D imm s B w hS hB hs hOs r h2
  · exact rins_do sb b O i s B w hS hB hs hi hl hn hOs h0 h r hr
end Go.Proofs.YtlbdkcnbgdmpaaaGreatDoor

/- Renter -/
/- The reference's processor: the walk of enter. -/
namespace Go.Proofs.YtlbdkcnbgdmpaaaGreatDoor
open Go.RowKit Go.Deep
set_option linter.unusedVariables false

theorem wb_on (v : Int) (h : 0 ≤ v ∧ v < 4294967296) : wb v 1 true = if v / 2 % 2 = 0 then v + 2 else v := by
  unfold wb
  rw [show (2 : Int) ^ 1 = 2 from rfl]
  simp only [if_true]
  split <;> omega
theorem wb_31 (c : Int) (h : 0 ≤ c ∧ c < 32) : wb (4 * c) 31 true = 4 * c + 2147483648 := by
  unfold wb
  rw [show (2 : Int) ^ 31 = 2147483648 from rfl]
  simp only [if_true]
  omega
theorem part_still (v u b p : Int) (w : World) (hv : 0 ≤ v ∧ v < 4294967296) (hu : 0 ≤ u ∧ u < 32) (hb : 0 ≤ b ∧ b < 32) (hp : v / 2 ^ u.toNat % 2 ^ b.toNat = p) :
    Calls Tryz.prog 20 #[.int .u32 v, .int .i64 u, .int .i64 b] w fun e w' => e = .returned (.int .i64 p) ∧ w' = w := by
  subst hp
  exact (part_any v u b w hv hu hb).mono fun e w' ⟨he, hw⟩ => ⟨he, hw.symm⟩
theorem word_still2 (n m : Int) (w : World) (h : -9223372036854775808 ≤ n ∧ n ≤ 9223372036854775807) (hm : n % 4294967296 = m) :
    Calls Tryz.prog 42 #[.int .i64 n] w fun e w' => e = .returned (.int .u32 m) ∧ w' = w := by
  subst hm
  exact (word_any n w (by omega)).mono fun e w' ⟨he, hw⟩ => ⟨he, hw.symm⟩
theorem plus_still2 (a b c : Int) (w : World) (ha : 0 ≤ a ∧ a < 4294967296) (hb : 0 ≤ b ∧ b < 4294967296) (hc : Cp.u (a + b) = c) :
    Calls Tryz.prog 43 #[.int .u32 a, .int .u32 b] w fun e w' => e = .returned (.int .u32 c) ∧ w' = w := by
  subst hc
  exact (plus_any a b w ha hb).mono fun e w' ⟨he, hw⟩ => ⟨he, hw.symm⟩
set_option maxRecDepth 100000 in
set_option maxHeartbeats 3000000 in
theorem renter_0 (sb : Nat) (s : Cp.St) (c : Int) (w : World) (hS : StAt w sb s) (hs : Cp.Rng s) (hc : 0 ≤ c ∧ c < 32) (h1 : s.status / 2 % 2 = 0) (hsl : s.slot = false) (r : Cp.St) (hr : Hid (r = Cp.enter s c)) :
    Calls Tryz.prog 25 #[.pointer (some ⟨sb, 0, none⟩), .int .i64 c] w fun e w' => e = .returned (.tuple #[]) ∧ StAt w' sb r ∧ Keeps (· = sb) w w' := by
  have hst := hs.status
  have HBT := Lib.hid (fun w => bitOf_any s.status 1 w hst (by omega))
  rw [show s.status / 2 ^ 1 = s.status / 2 by simp, show decide (s.status / 2 % 2 = 1) = false from decide_eq_false (by omega)] at HBT
  have HWB := Lib.hid (fun w => withBit_any s.status 1 true w hst (by omega))
  have hcw : IntKind.u32.wrap (c * 4) = 4 * c := by rw [IntKind.wrap_u32]; omega
  have hcw2 : (c * 4) % 4294967296 = 4 * c := by omega
  have HR := Lib.hid (show r = { s with epc := s.pc, cause := 4 * c, status := wb s.status 1 true, pc := 384, next := 388, slot := false } by
    rw [hr.out, Cp.enter, if_pos h1, hsl, wb_on _ hst, if_pos h1]; rfl)
  generalize wb s.status 1 true = vw at *
  have HSL := Lib.hid hsl
  have HS := Lib.hid hS
  obtain ⟨_, _, s34, s35, s36, s37, s38, s39, _, _, _⟩ := hS.cells
  rw [hsl] at s36
  have f34 := hS.frozen 34
  have f35 := hS.frozen 35
  have f36 := hS.frozen 36
  have f37 := hS.frozen 37
  have f38 := hS.frozen 38
  have f39 := hS.frozen 39
  have HP := Lib.hid ((((((hS.set 7 (.int .u32 s.pc) (s' := { s with epc := s.pc }) rfl rfl).set 6 (.int .u32 (4 * c)) (s' := { s with epc := s.pc, cause := 4 * c }) rfl rfl).set 5 (.int .u32 vw) (s' := { s with epc := s.pc, cause := 4 * c, status := vw }) rfl rfl).set 2 (.int .u32 384) (s' := { s with epc := s.pc, cause := 4 * c, status := vw, pc := 384 }) rfl rfl).set 3 (.int .u32 388) (s' := { s with epc := s.pc, cause := 4 * c, status := vw, pc := 384, next := 388 }) rfl rfl).set 4 (.bool false) (s' := { s with epc := s.pc, cause := 4 * c, status := vw, pc := 384, next := 388, slot := false }) rfl rfl)
  have HKP := Lib.hid (Keeps.trans (Keeps.trans (Keeps.trans (Keeps.trans (Keeps.trans (Keeps.one w sb 39 (.int .u32 s.pc)) (Keeps.one _ sb 38 (.int .u32 (4 * c))) (fun _ _ h => h)) (Keeps.one _ sb 37 (.int .u32 vw)) (fun _ _ h => h)) (Keeps.one _ sb 34 (.int .u32 384)) (fun _ _ h => h)) (Keeps.one _ sb 35 (.int .u32 388)) (fun _ _ h => h)) (Keeps.one _ sb 36 (.bool false)) (fun _ _ h => h))
  clear hS hs hst h1 hsl hr
  go_enter Tryz.func25, Tryz.ntmps25
  go_wp2_with fail
  refine (HBT.out _).mono ?_
  rintro e w' ⟨rfl, rfl⟩
  go_wp2_with fail
  refine (HWB.out _).mono ?_
  rintro e w' ⟨rfl, rfl⟩
  go_wp2_with fail
  refine bodyPost_end (results_none rfl _ _ _) rfl ⟨rfl, ?_, HKP.out⟩
  rw [HR.out]
  exact HP.out
set_option maxRecDepth 100000 in
set_option maxHeartbeats 3000000 in
theorem renter_1 (sb : Nat) (s : Cp.St) (c : Int) (w : World) (hS : StAt w sb s) (hs : Cp.Rng s) (hc : 0 ≤ c ∧ c < 32) (h1 : s.status / 2 % 2 = 0) (hsl : s.slot = true) (r : Cp.St) (hr : Hid (r = Cp.enter s c)) :
    Calls Tryz.prog 25 #[.pointer (some ⟨sb, 0, none⟩), .int .i64 c] w fun e w' => e = .returned (.tuple #[]) ∧ StAt w' sb r ∧ Keeps (· = sb) w w' := by
  have hst := hs.status
  have hpc := hs.pc
  have hcr : 0 ≤ 4 * c ∧ 4 * c < 4294967296 := by omega
  have HBT := Lib.hid (fun w => bitOf_any s.status 1 w hst (by omega))
  rw [show s.status / 2 ^ 1 = s.status / 2 by simp, show decide (s.status / 2 % 2 = 1) = false from decide_eq_false (by omega)] at HBT
  have HWB := Lib.hid (fun w => withBit_any s.status 1 true w hst (by omega))
  have HWC := Lib.hid (fun w => withBit_any (4 * c) 31 true w hcr (by omega))
  have HW4 := Lib.hid (fun w => word_still2 (-4) 4294967292 w (by omega) (by omega))
  have HPL := Lib.hid (fun w => plus_still2 s.pc 4294967292 (Cp.u (s.pc - 4)) w hpc (by omega) (by unfold Cp.u; omega))
  have hcw : IntKind.u32.wrap (c * 4) = 4 * c := by rw [IntKind.wrap_u32]; omega
  have hcw2 : (c * 4) % 4294967296 = 4 * c := by omega
  have HR := Lib.hid (show r = { s with epc := Cp.u (s.pc - 4), cause := wb (4 * c) 31 true, status := wb s.status 1 true, pc := 384, next := 388, slot := false } by
    rw [hr.out, Cp.enter, if_pos h1, hsl, wb_on _ hst, if_pos h1, wb_31 c hc]; rfl)
  generalize wb s.status 1 true = vw at *
  generalize wb (4 * c) 31 true = vc at *
  generalize Cp.u (s.pc - 4) = vp at *
  have HSL := Lib.hid hsl
  obtain ⟨_, _, s34, s35, s36, s37, s38, s39, _, _, _⟩ := hS.cells
  rw [hsl] at s36
  have f38 := hS.frozen 38
  have f39 := hS.frozen 39
  have HP0 := Lib.hid ((hS.set 7 (.int .u32 s.pc) (s' := { s with epc := s.pc }) rfl rfl).set 6 (.int .u32 (4 * c)) (s' := { s with epc := s.pc, cause := 4 * c }) rfl rfl)
  have HK0 := Lib.hid (Keeps.trans (Keeps.one w sb 39 (.int .u32 s.pc)) (Keeps.one _ sb 38 (.int .u32 (4 * c))) (fun _ _ h => h))
  clear hS hs hst h1 hsl hr
  go_enter Tryz.func25, Tryz.ntmps25
  go_wp2_with fail
  refine (HBT.out _).mono ?_
  rintro e w' ⟨rfl, rfl⟩
  go_upto_region 6 with fail
  have hS1 := HP0.out
  have hk1 := HK0.out
  simp only [Nat.reduceAdd] at hS1
  clear s34 s35 s36 s37 s38 s39 f38 f39 HP0 HK0
  generalize ((w.setCell _ _).setCell _ _) = w1 at *
  obtain ⟨_, _, s34, s35, s36, s37, s38, s39, _, _, _⟩ := hS1.cells
  simp only at s34 s35 s36 s37 s38 s39
  have f34 := hS1.frozen 34
  have f35 := hS1.frozen 35
  have f36 := hS1.frozen 36
  have f37 := hS1.frozen 37
  have f38 := hS1.frozen 38
  have f39 := hS1.frozen 39
  have HP := Lib.hid ((((((hS1.set 7 (.int .u32 vp) (s' := { s with epc := vp, cause := 4 * c }) rfl rfl).set 6 (.int .u32 vc) (s' := { s with epc := vp, cause := vc }) rfl rfl).set 5 (.int .u32 vw) (s' := { s with epc := vp, cause := vc, status := vw }) rfl rfl).set 2 (.int .u32 384) (s' := { s with epc := vp, cause := vc, status := vw, pc := 384 }) rfl rfl).set 3 (.int .u32 388) (s' := { s with epc := vp, cause := vc, status := vw, pc := 384, next := 388 }) rfl rfl).set 4 (.bool false) (s' := { s with epc := vp, cause := vc, status := vw, pc := 384, next := 388, slot := false }) rfl rfl)
  have HK := Lib.hid (Keeps.trans hk1 (Keeps.trans (Keeps.trans (Keeps.trans (Keeps.trans (Keeps.trans (Keeps.one w1 sb 39 (.int .u32 vp)) (Keeps.one _ sb 38 (.int .u32 vc)) (fun _ _ h => h)) (Keeps.one _ sb 37 (.int .u32 vw)) (fun _ _ h => h)) (Keeps.one _ sb 34 (.int .u32 384)) (fun _ _ h => h)) (Keeps.one _ sb 35 (.int .u32 388)) (fun _ _ h => h)) (Keeps.one _ sb 36 (.bool false)) (fun _ _ h => h)) (fun _ _ h => h))
  clear hS1 hk1
  refine wp_region_still_tail 9 (by kernel_rfl) (by kernel_rfl) ?_
  simp only [List.take_succ_cons, List.take_zero, List.drop_succ_cons, List.drop_zero]
  repeat still_step
  still_call (HW4.out _)
  repeat still_step
  still_call (HPL.out _)
  repeat still_step
  refine wpStill_nil ?_
  change wpList _ _ _ _ _ (World.drew _)
  go_wp2_with fail
  refine (HWC.out _).mono ?_
  rintro e w' ⟨rfl, rfl⟩
  go_wp2_with fail
  refine (HWB.out _).mono ?_
  rintro e w' ⟨rfl, rfl⟩
  go_wp2_with fail
  refine bodyPost_end (results_none rfl _ _ _) rfl ⟨rfl, ?_, HK.out.drew⟩
  rw [HR.out]
  exact StAt.drew2 HP.out
set_option maxRecDepth 100000 in
set_option maxHeartbeats 3000000 in
theorem renter_2 (sb : Nat) (s : Cp.St) (c : Int) (w : World) (hS : StAt w sb s) (hs : Cp.Rng s) (hc : 0 ≤ c ∧ c < 32) (h1 : ¬ s.status / 2 % 2 = 0) (r : Cp.St) (hr : Hid (r = Cp.enter s c)) :
    Calls Tryz.prog 25 #[.pointer (some ⟨sb, 0, none⟩), .int .i64 c] w fun e w' => e = .returned (.tuple #[]) ∧ StAt w' sb r ∧ Keeps (· = sb) w w' := by
  have hst := hs.status
  have hca := hs.cause
  unfold Cp.W at hca
  have HBT := Lib.hid (fun w => bitOf_any s.status 1 w hst (by omega))
  rw [show s.status / 2 ^ 1 = s.status / 2 by simp, show decide (s.status / 2 % 2 = 1) = true from decide_eq_true (by omega)] at HBT
  have HWB := Lib.hid (fun w => withBit_any s.status 1 true w hst (by omega))
  rw [wb_on _ hst, if_neg h1] at HWB
  have HPT := Lib.hid (fun w => part_still s.cause 2 5 (s.cause / 4 % 32) w hca (by omega) (by omega) (by simp))
  have hpb : 0 ≤ s.cause / 4 % 32 ∧ s.cause / 4 % 32 < 32 := by omega
  have hpb2 : 0 ≤ s.cause - s.cause / 4 % 32 * 4 + c * 4 ∧ s.cause - s.cause / 4 % 32 * 4 + c * 4 < 4294967296 := by omega
  have HR := Lib.hid (show r = { s with cause := s.cause - s.cause / 4 % 32 * 4 + c * 4, pc := 384, next := 388, slot := false } by
    rw [hr.out, Cp.enter, if_neg h1, Int.mul_comm c 4])
  generalize s.cause / 4 % 32 = p at *
  have HWD := Lib.hid (fun w => word_still2 (s.cause - p * 4 + c * 4) (s.cause - p * 4 + c * 4) w (by omega) (by omega))
  obtain ⟨_, _, s34, s35, s36, s37, s38, s39, _, _, _⟩ := hS.cells
  have f34 := hS.frozen 34
  have f35 := hS.frozen 35
  have f36 := hS.frozen 36
  have f37 := hS.frozen 37
  have f38 := hS.frozen 38
  have HP := Lib.hid (((((hS.set 6 (.int .u32 (s.cause - p * 4 + c * 4)) (s' := { s with cause := s.cause - p * 4 + c * 4 }) rfl rfl).set 5 (.int .u32 s.status) (s' := { s with cause := s.cause - p * 4 + c * 4 }) rfl rfl).set 2 (.int .u32 384) (s' := { s with cause := s.cause - p * 4 + c * 4, pc := 384 }) rfl rfl).set 3 (.int .u32 388) (s' := { s with cause := s.cause - p * 4 + c * 4, pc := 384, next := 388 }) rfl rfl).set 4 (.bool false) (s' := { s with cause := s.cause - p * 4 + c * 4, pc := 384, next := 388, slot := false }) rfl rfl)
  have HK := Lib.hid (Keeps.trans (Keeps.refl (· = sb) w) (Keeps.trans (Keeps.trans (Keeps.trans (Keeps.trans (Keeps.one w sb 38 (.int .u32 (s.cause - p * 4 + c * 4))) (Keeps.one _ sb 37 (.int .u32 s.status)) (fun _ _ h => h)) (Keeps.one _ sb 34 (.int .u32 384)) (fun _ _ h => h)) (Keeps.one _ sb 35 (.int .u32 388)) (fun _ _ h => h)) (Keeps.one _ sb 36 (.bool false)) (fun _ _ h => h)) (fun _ _ h => h))
  have w1 : wrap64 (p * 4) = p * 4 := by unfold wrap64; omega
  have w2 : wrap64 (s.cause - p * 4) = s.cause - p * 4 := by unfold wrap64; omega
  have w3 : wrap64 (c * 4) = c * 4 := by unfold wrap64; omega
  have w4 : wrap64 (s.cause - p * 4 + c * 4) = s.cause - p * 4 + c * 4 := by unfold wrap64; omega
  have w5 : IntKind.i64.wrap (p * 4) = p * 4 := by rw [IntKind.wrap_i64]; omega
  have w6 : IntKind.i64.wrap (s.cause - p * 4) = s.cause - p * 4 := by rw [IntKind.wrap_i64]; omega
  have w7 : IntKind.i64.wrap (c * 4) = c * 4 := by rw [IntKind.wrap_i64]; omega
  have w8 : IntKind.i64.wrap (s.cause - p * 4 + c * 4) = s.cause - p * 4 + c * 4 := by rw [IntKind.wrap_i64]; omega
  have w9 : IntKind.i64.wrap s.cause = s.cause := by rw [IntKind.wrap_i64]; omega
  clear hS hs hst h1 hr hpb hpb2
  go_enter Tryz.func25, Tryz.ntmps25
  go_wp2_with fail
  refine (HBT.out _).mono ?_
  rintro e w' ⟨rfl, rfl⟩
  go_upto_region 2 with fail
  refine wp_region_still_tail 19 (by kernel_rfl) (by kernel_rfl) ?_
  simp only [List.take_succ_cons, List.take_zero, List.drop_succ_cons, List.drop_zero]
  repeat still_step
  still_call (HPT.out _)
  repeat still_step
  still_call (HWD.out _)
  repeat still_step
  refine wpStill_nil ?_
  change wpList _ _ _ _ _ (World.drew _)
  go_wp2_with fail
  refine (HWB.out _).mono ?_
  rintro e w' ⟨rfl, rfl⟩
  go_wp2_with fail
  refine bodyPost_end (results_none rfl _ _ _) rfl ⟨rfl, ?_, HK.out.drew⟩
  rw [HR.out]
  exact StAt.drew2 HP.out
theorem renter_any (sb : Nat) (s : Cp.St) (c : Int) (w : World) (hS : StAt w sb s) (hs : Cp.Rng s) (hc : 0 ≤ c ∧ c < 32) (r : Cp.St) (hr : Hid (r = Cp.enter s c)) :
    Calls Tryz.prog 25 #[.pointer (some ⟨sb, 0, none⟩), .int .i64 c] w fun e w' => e = .returned (.tuple #[]) ∧ StAt w' sb r ∧ Keeps (· = sb) w w' := by
  by_cases h1 : s.status / 2 % 2 = 0
  · cases hsl : s.slot
    · exact renter_0 sb s c w hS hs hc h1 hsl r hr
    · exact renter_1 sb s c w hS hs hc h1 hsl r hr
  · exact renter_2 sb s c w hS hs hc h1 r hr
end Go.Proofs.YtlbdkcnbgdmpaaaGreatDoor

/- Rcpu1 -/
/- The reference's processor: the walk of IsDue. -/
namespace Go.Proofs.YtlbdkcnbgdmpaaaGreatDoor
open Go.RowKit Go.Deep
set_option linter.unusedVariables false

theorem due_bits (c n st : Int) (hs : 0 ≤ st ∧ st < 4294967296) : decide (c ≠ 0 ∧ c ≤ n ∧ st % 4 = 1) = (decide (c ≠ 0) && decide (c ≤ n) && decide (st % 2 = 1) && !decide (st / 2 % 2 = 1)) := by
  rw [Bool.eq_iff_iff]
  simp only [decide_eq_true_iff, Bool.and_eq_true, Bool.not_eq_true', decide_eq_false_iff_not]
  omega
set_option maxRecDepth 100000 in
set_option maxHeartbeats 2000000 in
theorem isDue_any (sb : Nat) (s : Cp.St) (w : World) (hS : StAt w sb s) (hs : Cp.Rng s) :
    Calls Tryz.prog 23 #[.pointer (some ⟨sb, 0, none⟩)] w fun e w' => e = .returned (.bool (Cp.due s)) ∧ Keeps (fun _ => False) w w' := by
  have HD : Hid (Cp.due s = (decide (s.compare ≠ 0) && decide (s.compare ≤ s.count) && decide (s.status % 2 = 1) && !decide (s.status / 2 % 2 = 1))) := Lib.hid (due_bits _ _ _ hs.status)
  have HB0 := Lib.hid (fun w => bitOf_any s.status 0 w hs.status (by omega))
  have HB1 := Lib.hid (fun w => bitOf_any s.status 1 w hs.status (by omega))
  rw [show s.status / 2 ^ 0 = s.status by simp] at HB0
  rw [show s.status / 2 ^ 1 = s.status / 2 by simp] at HB1
  obtain ⟨_, _, _, _, _, c37, _, _, _, c41, c42⟩ := hS.cells
  clear hS
  generalize decide (s.status % 2 = 1) = A at *
  generalize decide (s.status / 2 % 2 = 1) = B at *
  have hc1 := hs.compare
  have hc2 := hs.count
  unfold Cp.W at hc1
  clear hs
  generalize Cp.due s = r at *
  generalize s.status = st at *
  generalize s.compare = c at *
  generalize s.count = n at *
  by_cases h1 : c = 0
  · have t1 : (c != 0) = false := by simpa using h1
    have hr := HD.out
    rw [show decide (c ≠ 0) = false by simpa using h1] at hr
    simp only [Bool.false_and] at hr
    have HR := Lib.hid hr
    clear h1 hr
    go_enter Tryz.func23, Tryz.ntmps23
    go_wp2_with fail
    refine (HB0.out _).mono ?_
    rintro e w' ⟨rfl, rfl⟩
    go_wp2_with fail
    refine (HB1.out _).mono ?_
    rintro e w' ⟨rfl, rfl⟩
    go_wp2_with fail
    go_quiet (fail)
    go_wp2_with fail
    go_ret
    exact ⟨by rw [HR.out]; rfl, (Keeps.refl _ _).drewN _⟩
  · have t1 : (c != 0) = true := by simpa using h1
    have hr := HD.out
    rw [show decide (c ≠ 0) = true by simpa using h1] at hr
    simp only [Bool.true_and] at hr
    by_cases h2 : c ≤ n
    · have t2 : decide (c ≤ n) = true := decide_eq_true h2
      rw [t2] at hr
      simp only [Bool.true_and] at hr
      have HR := Lib.hid hr
      clear h1 h2 hr
      cases A
      · go_enter Tryz.func23, Tryz.ntmps23
        go_wp2_with fail
        refine (HB0.out _).mono ?_
        rintro e w' ⟨rfl, rfl⟩
        go_wp2_with fail
        refine (HB1.out _).mono ?_
        rintro e w' ⟨rfl, rfl⟩
        go_wp2_with fail
        go_quiet (fail)
        go_wp2_with fail
        go_ret
        exact ⟨by rw [HR.out]; rfl, (Keeps.refl _ _).drewN _⟩
      · go_enter Tryz.func23, Tryz.ntmps23
        go_wp2_with fail
        refine (HB0.out _).mono ?_
        rintro e w' ⟨rfl, rfl⟩
        go_wp2_with fail
        refine (HB1.out _).mono ?_
        rintro e w' ⟨rfl, rfl⟩
        go_wp2_with fail
        go_quiet (fail)
        go_wp2_with fail
        go_ret
        exact ⟨by rw [HR.out]; rfl, (Keeps.refl _ _).drewN _⟩
    · have t2 : decide (c ≤ n) = false := decide_eq_false h2
      rw [t2] at hr
      simp only [Bool.false_and] at hr
      have HR := Lib.hid hr
      clear h1 h2 hr
      go_enter Tryz.func23, Tryz.ntmps23
      go_wp2_with fail
      refine (HB0.out _).mono ?_
      rintro e w' ⟨rfl, rfl⟩
      go_wp2_with fail
      refine (HB1.out _).mono ?_
      rintro e w' ⟨rfl, rfl⟩
      go_wp2_with fail
      go_quiet (fail)
      go_wp2_with fail
      go_ret
      exact ⟨by rw [HR.out]; rfl, (Keeps.refl _ _).drewN _⟩
end Go.Proofs.YtlbdkcnbgdmpaaaGreatDoor

/- Rstep -/
/- The reference's processor: the walks of one, Step. -/
namespace Go.Proofs.YtlbdkcnbgdmpaaaGreatDoor
open Go.RowKit Go.Deep
set_option linter.unusedVariables false

theorem rload4_q (q wb tb hb : Nat) (m : Nat → Int) (wt ht : Nat → Bool) (a v : Int) (w : World) (d : Nat) (R : RefAt w q wb tb hb m wt ht) (h0 : 0 ≤ a) (h : rightC a 4 = 0) (hv : be m a.toNat 4 = v) :
    Calls Tryz.prog 39 #[.pointer (some ⟨q, 0, none⟩), .int .u32 a, .int .i64 4, .bool false] (w.drewN d) fun e w'' => e = .returned (.tuple #[.int .u32 v, .int .i64 0]) ∧ ∃ m, w'' = w.drewN m := by
  have h16 := (rightC_ok h).2.2
  have hw := wide_be (m := m) (a := a.toNat) (n := 4) (by omega) (fun i hi => R.rng _ (by have := (rightC_ok h).2.1; omega))
  have h2 := rload_ok q wb tb hb m wt ht a.toNat 4 false (w.drewN d) (R.keep ((Keeps.refl (fun _ => False) w).drewN d) ⟨fun h => h, fun h => h, fun h => h, fun h => h⟩) (by rw [Int.toNat_of_nonneg h0]; exact h)
  rw [Int.toNat_of_nonneg h0, show Wd.wide (be m a.toNat 4) (8 * ((4 : Nat) : Int)) false = v by rw [← hv]; exact hw] at h2
  exact quiet_eq h2
theorem rloadbad_q (q : Nat) (a : Int) (k : Nat) (w : World) (d : Nat) (ha : 0 ≤ a ∧ a < 4294967296) (h : rightC a 4 ≠ 0) (hk : rightC a 4 = k) :
    Calls Tryz.prog 39 #[.pointer (some ⟨q, 0, none⟩), .int .u32 a, .int .i64 4, .bool false] (w.drewN d) fun e w'' => e = .returned (.tuple #[.int .u32 0, .int .i64 k]) ∧ ∃ m, w'' = w.drewN m := by
  subst hk
  exact quiet_eq (rload_bad ⟨q, 0, none⟩ a 4 false (w.drewN d) ha (by decide) h)
set_option maxRecDepth 100000 in
set_option maxHeartbeats 3000000 in
theorem rone_bad (sb b : Nat) (O : Nat → Prop) (s : Cp.St) (B : Sb) (w : World) (hS : StAt w sb s) (hB : RInv b O w B) (hs : Cp.Rng s) (hOs : ¬ O sb) (hp : rightC s.pc 4 ≠ 0) :
    Calls Tryz.prog 24 #[.pointer (some ⟨sb, 0, none⟩), .pointer (some ⟨b, 0, none⟩)] w fun e w' => RsOk w w' sb b O (4, { s with bad := s.pc }, B) e := by
  have HS := Lib.hid hS
  have HB := Lib.hid hB
  obtain ⟨q, wb, tb, hb, tv, hR⟩ := hB
  have hb0 : w.cell? ⟨b, 0, none⟩ = some (.pointer (some ⟨q, 0, none⟩)) := by simp [World.cell?, hR.bus.box]
  obtain ⟨_, _, s34, _, _, _, _, _, s40, _, _⟩ := hS.cells
  have f40 := hS.frozen 40
  have hpc := hs.pc
  have HSET := Lib.hid (hS.set 8 (.int .u32 s.pc) (s' := { s with bad := s.pc }) rfl rfl)
  obtain ⟨k, hk⟩ : ∃ k, rightC s.pc 4 = k := ⟨_, rfl⟩
  have HLQ := Lib.hid (fun d => rloadbad_q q s.pc k w d hpc hp hk)
  have hk2 : decide ((0 : Int) < (k : Int)) = true := decide_eq_true (by omega)
  have hk3 : 0 < k := by omega
  have hk4 : decide (0 < k) = true := decide_eq_true hk3
  clear hS hs hR hp hk
  go_enter Tryz.func24, Tryz.ntmps24
  go_upto_region 1 with fail
  go_quiet (first | (go_at_call 39; exact HLQ.out _))
  go_wp2_with fail
  go_ret
  exact ⟨rfl, HSET.out, O, HB.out.keep (Keeps.trans ((Keeps.refl (· = sb) w).drewN nq) (Keeps.one _ _ _ _) (fun _ _ h => h)) (fun k hk e => hOs (e ▸ hk)), Grew.refl _ _, Keeps.trans ((Keeps.refl (fun k => k = sb ∨ O k) w).drewN nq) (Keeps.one _ _ _ _) (fun k _ h => .inl h)⟩
set_option maxRecDepth 100000 in
set_option maxHeartbeats 3000000 in
theorem rone_ok (sb b : Nat) (O : Nat → Prop) (s : Cp.St) (B : Sb) (w : World) (hS : StAt w sb s) (hB : RInv b O w B) (hs : Cp.Rng s) (hl : B.l.length < 1000000) (hn : B.tn < 1000000) (hOs : ¬ O sb) (h0 : s.R 0 = 0) (hp : rightC s.pc 4 = 0) (r : Int × Cp.St × Sb) (hr : Hid (r = Cp.ins (Cd.decOf (be B.m s.pc.toNat 4)) s B)) :
    Calls Tryz.prog 24 #[.pointer (some ⟨sb, 0, none⟩), .pointer (some ⟨b, 0, none⟩)] w fun e w' => RsOk w w' sb b O r e := by
  have HS := Lib.hid hS
  have HB := Lib.hid hB
  have HG := Lib.hid hs
  have HZ := Lib.hid h0
  have hrg := hB.brng.m
  obtain ⟨q, wb, tb, hb, tv, hR⟩ := hB
  have hb0 : w.cell? ⟨b, 0, none⟩ = some (.pointer (some ⟨q, 0, none⟩)) := by simp [World.cell?, hR.bus.box]
  have s34 := hS.cells.2.2.1
  have hpc := hs.pc
  have hp16 := rightC_ok hp
  have hv := be_rng B.m s.pc.toNat 4 (fun i hi => hrg _ (by have := hpc.1; omega))
  have hv2 : 0 ≤ be B.m s.pc.toNat 4 ∧ be B.m s.pc.toNat 4 < 4294967296 := ⟨hv.1, by have := hv.2; simpa using this⟩
  have HLQ := Lib.hid (fun d => rload4_q q wb tb hb B.m _ _ s.pc (be B.m s.pc.toNat 4) w d hR.ram hpc.1 hp rfl)
  clear hv hp16 hrg hS hs hR hp h0
  generalize be B.m s.pc.toNat 4 = v at *
  go_enter Tryz.func24, Tryz.ntmps24
  go_upto_region 1 with fail
  go_quiet (first | (go_at_call 39; exact HLQ.out _))
  have hS1 := HS.out.drewN nq
  have hk1 := (Keeps.refl (fun _ => False) w).drewN nq
  have HB1 := Lib.hid (HB.out.keep hk1 (fun _ _ h => h))
  clear hb0 s34
  generalize w.drewN nq = w1 at *
  have HS1 := Lib.hid hS1
  have HK1 := Lib.hid hk1
  clear hS1 hk1
  go_wp2_with fail
  refine (decodeOf_any v hv2 _).mono ?_
  rintro e w2 ⟨rfl, hk2⟩
  have HS2 := Lib.hid (HS1.out.keep hk2 (fun h => h))
  have HB2 := Lib.hid (HB1.out.keep hk2 (fun _ _ h => h))
  have HK2 := Lib.hid (HK1.out.trans hk2 (fun _ _ h => h))
  clear hk2
  go_wp2_with fail
  refine (rins_any sb b O (Cd.decOf v) s B w2 HS2.out HB2.out HG.out (Cd.ok_dec _) hl hn hOs HZ.out r hr).mono ?_
  intro e w3 h
  have H := Lib.hid h
  obtain rfl := h.e
  clear h
  go_wp2_with fail
  go_ret
  obtain ⟨O', h1, h2, h3⟩ := H.out.k
  exact ⟨rfl, H.out.st, O', h1, h2.low HK2.out.size, (HK2.out.mono (T := fun k => k = sb ∨ O k) (fun _ _ h => h.elim)).trans h3 (fun _ _ h => h)⟩
theorem rone_any (sb b : Nat) (O : Nat → Prop) (s : Cp.St) (B : Sb) (w : World) (hS : StAt w sb s) (hB : RInv b O w B) (hs : Cp.Rng s) (hl : B.l.length < 1000000) (hn : B.tn < 1000000) (hOs : ¬ O sb) (h0 : s.R 0 = 0) (hd : Cp.due s = false) :
    Calls Tryz.prog 24 #[.pointer (some ⟨sb, 0, none⟩), .pointer (some ⟨b, 0, none⟩)] w fun e w' => RsOk w w' sb b O (Cp.one s B) e := by
  by_cases hp : rightC s.pc 4 = 0
  · rw [show Cp.one s B = Cp.ins (Cd.decOf (be B.m s.pc.toNat 4)) s B by unfold Cp.one; rw [hd, if_neg (by decide), if_neg (by simpa using hp)]]
    exact rone_ok sb b O s B w hS hB hs hl hn hOs h0 hp _ (Lib.hid rfl)
  · rw [show Cp.one s B = (4, { s with bad := s.pc }, B) by unfold Cp.one; rw [hd, if_neg (by decide), if_pos hp]]
    exact rone_bad sb b O s B w hS hB hs hOs hp
set_option maxRecDepth 100000 in
set_option maxHeartbeats 3000000 in
theorem rstep_of (sb b : Nat) (O : Nat → Prop) (s : Cp.St) (B : Sb) (w : World) (hS : StAt w sb s) (hB : RInv b O w B) (hs : Cp.Rng s) (hl : B.l.length < 1000000) (hn : B.tn < 1000000) (hOs : ¬ O sb) (h0 : s.R 0 = 0) (e0 : Int) (s0 : Cp.St) (B0 : Sb) (ho : Hid (Cp.one s B = (e0, s0, B0))) (hc : Cp.Rng s0) (he : e0 = -1 ∨ (0 ≤ e0 ∧ e0 < 32))
    (r : Int × Cp.St × Sb) (hr : Hid (r = (e0, { (if e0 = -1 then s0 else Cp.enter s0 e0) with count := (if e0 = -1 then s0 else Cp.enter s0 e0).count + 1 }, B0))) :
    Calls Tryz.prog 12 #[.pointer (some ⟨sb, 0, none⟩), .pointer (some ⟨b, 0, none⟩)] w fun e w' => RsOk w w' sb b O r e := by
  have HS := Lib.hid hS
  have HB := Lib.hid hB
  have HG := Lib.hid hs
  have HLT := Lib.hid hS.lt
  have HC := Lib.hid hc
  have hct := hc.count
  have HD := Lib.hid (fun w hS => isDue_any sb s w hS hs)
  cases hd : Cp.due s
  · have HON := Lib.hid (fun w (hS : StAt w sb s) (hB : RInv b O w B) => by have := rone_any sb b O s B w hS hB hs hl hn hOs h0 hd; rw [ho.out] at this; exact this)
    rw [hd] at HD
    clear hS hB hs hl hn h0 hc hd
    go_enter Tryz.func12, Tryz.ntmps12
    go_wp2_with fail
    refine (HD.out _ HS.out).mono ?_
    rintro e w0 ⟨rfl, hk0⟩
    have HS0 := Lib.hid (HS.out.keep hk0 (fun h => h))
    have HB0 := Lib.hid (HB.out.keep hk0 (fun _ _ h => h))
    have HK0 := Lib.hid hk0
    clear hk0
    go_wp2_with fail
    refine (HON.out w0 HS0.out HB0.out).mono ?_
    intro e w1 h
    have H := Lib.hid h
    obtain rfl := h.e
    obtain ⟨O', hB1, hG1, hK1⟩ := h.k
    have HB1 := Lib.hid hB1
    have HG1 := Lib.hid (hG1.low HK0.out.size)
    have HK1 := Lib.hid ((HK0.out.mono (T := fun k => k = sb ∨ O k) (fun _ _ h => h.elim)).trans hK1 (fun _ _ h => h))
    have hO' : ¬ O' sb := fun h2 => by
      rcases HG1.out sb h2 with h3 | h3
      · exact hOs h3
      · have := HLT.out; omega
    clear h hB1 hG1 hK1 HON
    by_cases h1 : e0 = -1
    · subst h1
      have HR := Lib.hid (show r = (-1, { s0 with count := s0.count + 1 }, B0) from hr.out)
      have hst := H.out.st
      simp only at hst
      have s42 := hst.cells.2.2.2.2.2.2.2.2.2.2
      have f42 := hst.frozen 42
      have HSET := Lib.hid (hst.set 10 (.int .i64 (s0.count + 1)) (s' := { s0 with count := s0.count + 1 }) rfl rfl)
      clear hst
      go_wp2_with fail
      go_ret
      refine ⟨by rw [HR.out]; rfl, by rw [HR.out]; exact HSET.out, O', ?_, HG1.out, HK1.out.trans (Keeps.one _ _ _ _) (fun k _ h => .inl h)⟩
      rw [HR.out]
      exact HB1.out.keep (Keeps.one _ _ _ _) (fun k hk e => hO' (e ▸ hk))
    · have HR := Lib.hid (show r = (e0, { (Cp.enter s0 e0) with count := (Cp.enter s0 e0).count + 1 }, B0) by rw [hr.out, if_neg h1])
      have hst := H.out.st
      simp only at hst
      have he2 : 0 ≤ e0 ∧ e0 < 32 := by omega
      have t1 : decide (0 ≤ e0) = true := decide_eq_true he2.1
      have hcn : (Cp.enter s0 e0).count = s0.count := by unfold Cp.enter; split <;> rfl
      have HST := Lib.hid hst
      clear h1 hst
      go_wp2_with fail
      refine (renter_any sb s0 e0 w1 HST.out HC.out he2 _ (Lib.hid rfl)).mono ?_
      rintro e w2 ⟨rfl, hS2, hk2⟩
      have hs42 := hS2.cells.2.2.2.2.2.2.2.2.2.2
      rw [hcn] at hs42
      have f42 := hS2.frozen 42
      have HSET := Lib.hid (hS2.set 10 (.int .i64 (s0.count + 1)) (s' := { (Cp.enter s0 e0) with count := s0.count + 1 }) rfl rfl)
      rw [hcn] at HR
      have HK2 := Lib.hid hk2
      clear hS2 hk2 hcn
      generalize Cp.enter s0 e0 = s1 at *
      go_wp2_with fail
      go_ret
      refine ⟨by rw [HR.out]; rfl, by rw [HR.out]; exact HSET.out, O', ?_, HG1.out, (HK1.out.trans HK2.out (fun k _ h => .inl h)).trans (Keeps.one _ _ _ _) (fun k _ h => .inl h)⟩
      rw [HR.out]
      exact (HB1.out.keep HK2.out (fun k hk e => hO' (e ▸ hk))).keep (Keeps.one _ _ _ _) (fun k hk e => hO' (e ▸ hk))
  · have ho2 : (e0, s0, B0) = ((0 : Int), s, B) := by rw [← ho.out]; unfold Cp.one; rw [if_pos hd]
    simp only [Prod.mk.injEq] at ho2
    obtain ⟨rfl, rfl, rfl⟩ := ho2
    have HR := Lib.hid (show r = (0, { (Cp.enter s0 0) with count := (Cp.enter s0 0).count + 1 }, B0) by rw [hr.out, if_neg (by decide)])
    have hcn : (Cp.enter s0 0).count = s0.count := by unfold Cp.enter; split <;> rfl
    rw [hd] at HD
    clear hS hB hs hl hn h0 hc hd
    go_enter Tryz.func12, Tryz.ntmps12
    go_wp2_with fail
    refine (HD.out _ HS.out).mono ?_
    rintro e w0 ⟨rfl, hk0⟩
    have HS0 := Lib.hid (HS.out.keep hk0 (fun h => h))
    have HB0 := Lib.hid (HB.out.keep hk0 (fun _ _ h => h))
    have HK0 := Lib.hid (hk0.mono (T := (· = sb)) (fun _ _ h => h.elim))
    clear hk0
    go_wp2_with fail
    refine (renter_any sb s0 0 w0 HS0.out HC.out (by omega) _ (Lib.hid rfl)).mono ?_
    rintro e w2 ⟨rfl, hS2, hk2⟩
    have hs42 := hS2.cells.2.2.2.2.2.2.2.2.2.2
    rw [hcn] at hs42
    have f42 := hS2.frozen 42
    have HSET := Lib.hid (hS2.set 10 (.int .i64 (s0.count + 1)) (s' := { (Cp.enter s0 0) with count := s0.count + 1 }) rfl rfl)
    rw [hcn] at HR
    have HK2 := Lib.hid (HK0.out.trans hk2 (fun _ _ h => h))
    have HB2 := Lib.hid (HB0.out.keep hk2 (fun k hk e => hOs (e ▸ hk)))
    clear hS2 hk2 hcn
    generalize Cp.enter s0 0 = s1 at *
    go_wp2_with fail
    go_ret
    refine ⟨by rw [HR.out]; rfl, by rw [HR.out]; exact HSET.out, O, ?_, Grew.refl _ _, (HK2.out.trans (Keeps.one _ _ _ _) (fun k _ h => h)).mono (fun _ _ h => .inl h)⟩
    rw [HR.out]
    exact HB2.out.keep (Keeps.one _ _ _ _) (fun k hk e => hOs (e ▸ hk))
/-- THE REFERENCE's STEP -/
theorem rstep_all (sb b : Nat) (O : Nat → Prop) (s : Cp.St) (B : Sb) (w : World) (hS : StAt w sb s) (hB : RInv b O w B) (hs : Cp.Rng s) (hl : B.l.length < 1000000) (hn : B.tn < 1000000) (hOs : ¬ O sb) (h0 : s.R 0 = 0) :
    Calls Tryz.prog 12 #[.pointer (some ⟨sb, 0, none⟩), .pointer (some ⟨b, 0, none⟩)] w fun e w' => RsOk w w' sb b O (Cp.step s B) e := by
  obtain ⟨h1, h2, _⟩ := Cp.nxt_one s B hs hB.brng
  exact rstep_of sb b O s B w hS hB hs hl hn hOs h0 (Cp.one s B).1 (Cp.one s B).2.1 (Cp.one s B).2.2 (Lib.hid rfl) h1.rng h2 (Cp.step s B) (Lib.hid rfl)
end Go.Proofs.YtlbdkcnbgdmpaaaGreatDoor

/- CpuEnter1 -/
/- The walk of cpu.enter in a slot. -/
namespace Go.Proofs.YtlbdkcnbgdmpaaaGreatDoor
open Go.RowKit Go.Deep
set_option linter.unusedVariables false

theorem StAt.drew0 {w : World} {sb : Nat} {s : Cp.St} (h : StAt w sb s) : StAt w.drew sb s := h
set_option maxRecDepth 100000 in
set_option maxHeartbeats 3000000 in
theorem enter_1 (sb : Nat) (s : Cp.St) (c : Int) (w : World) (hS : StAt w sb s) (hs : Cp.Rng s) (hc : 0 ≤ c ∧ c < 32) (h1 : s.status / 2 % 2 = 0) (hsl : s.slot = true) (r : Cp.St) (hr : Hid (r = Cp.enter s c)) :
    Calls Tryz.prog 22 #[.pointer (some ⟨sb, 0, none⟩), .int .i64 c] w fun e w' => e = .returned (.tuple #[]) ∧ StAt w' sb r ∧ Keeps (· = sb) w w' := by
  have HS := Lib.hid hS
  have HC := Lib.hid hs.cause
  have hst := hs.status
  have ht := test2' s.status hst
  have hw1 : IntKind.u32.wrap c = c := by rw [IntKind.wrap_u32']; omega
  have HO0 := Lib.hid (Cp.or2 s.status hst)
  have hpcr := hs.pc
  clear hs
  obtain ⟨_, _, s34, s35, s36, s37, s38, s39, _, _, _⟩ := hS.cells
  have f34 := hS.frozen 34
  have f35 := hS.frozen 35
  have f36 := hS.frozen 36
  have f37 := hS.frozen 37
  have f38 := hS.frozen 38
  have f39 := hS.frozen 39
  have hpc := hpcr
  clear hpcr
  rw [decide_eq_true h1] at ht
  have HR := Lib.hid (show r = { s with epc := Cp.u (s.pc - 4), cause := bits .or .u32 (c * 4) 2147483648, status := bits .or .u32 s.status 2, pc := 384, next := 388, slot := false } by
    rw [hr.out, Cp.enter, if_pos h1, hsl, HO0.out, if_pos h1, Int.mul_comm c 4, Cp.cause31 c hc]; rfl)
  rw [hsl] at s36
  have HS2 := Lib.hid ((((((((HS.out.set 7 (.int .u32 s.pc) (s' := { s with epc := s.pc }) rfl rfl).set 6 (.int .u32 (c * 4)) (s' := { s with epc := s.pc, cause := c * 4 }) rfl rfl).set 7 (.int .u32 (Cp.u (s.pc - 4))) (s' := { s with epc := Cp.u (s.pc - 4), cause := c * 4 }) rfl rfl).set 6 (.int .u32 (bits .or .u32 (c * 4) 2147483648)) (s' := { s with epc := Cp.u (s.pc - 4), cause := bits .or .u32 (c * 4) 2147483648 }) rfl rfl).set 5 (.int .u32 (bits .or .u32 s.status 2)) (s' := { s with epc := Cp.u (s.pc - 4), cause := bits .or .u32 (c * 4) 2147483648, status := bits .or .u32 s.status 2 }) rfl rfl).set 2 (.int .u32 384) (s' := { s with epc := Cp.u (s.pc - 4), cause := bits .or .u32 (c * 4) 2147483648, status := bits .or .u32 s.status 2, pc := 384 }) rfl rfl).set 3 (.int .u32 388) (s' := { s with epc := Cp.u (s.pc - 4), cause := bits .or .u32 (c * 4) 2147483648, status := bits .or .u32 s.status 2, pc := 384, next := 388 }) rfl rfl).set 4 (.bool false) (s' := { s with epc := Cp.u (s.pc - 4), cause := bits .or .u32 (c * 4) 2147483648, status := bits .or .u32 s.status 2, pc := 384, next := 388, slot := false }) rfl rfl)
  clear hS h1 hsl hst hr
  go_enter Tryz.func22, Tryz.ntmps22
  go_wp2_with fail
  go_region
  all_goals (
    go_wp2_with fail
    refine bodyPost_end (results_none rfl _ _ _) rfl ⟨rfl, ?_, (Keeps.trans (Keeps.trans (Keeps.trans (Keeps.trans (Keeps.trans (Keeps.trans (Keeps.trans (Keeps.one _ _ _ _) (Keeps.one _ _ _ _) (fun _ _ h => h)) (Keeps.one _ _ _ _) (fun _ _ h => h)) (Keeps.one _ _ _ _) (fun _ _ h => h)) (Keeps.one _ _ _ _) (fun _ _ h => h)) (Keeps.one _ _ _ _) (fun _ _ h => h)) (Keeps.one _ _ _ _) (fun _ _ h => h)) (Keeps.one _ _ _ _) (fun _ _ h => h)).drew⟩
    rw [HR.out]
    exact StAt.drew0 HS2.out)
theorem enter_any (sb : Nat) (s : Cp.St) (c : Int) (w : World) (hS : StAt w sb s) (hs : Cp.Rng s) (hc : 0 ≤ c ∧ c < 32) (r : Cp.St) (hr : Hid (r = Cp.enter s c)) :
    Calls Tryz.prog 22 #[.pointer (some ⟨sb, 0, none⟩), .int .i64 c] w fun e w' => e = .returned (.tuple #[]) ∧ StAt w' sb r ∧ Keeps (· = sb) w w' := by
  by_cases h1 : s.status / 2 % 2 = 0
  · cases hsl : s.slot
    · exact enter_0 sb s c w hS hs hc h1 hsl r hr
    · exact enter_1 sb s c w hS hs hc h1 hsl r hr
  · exact enter_2 sb s c w hS hs hc h1 r hr
end Go.Proofs.YtlbdkcnbgdmpaaaGreatDoor

/- CpuWaitStep -/
/- cpu.Step where nothing is done: the shift of register 0; an interrupt. -/
namespace Go.Proofs.YtlbdkcnbgdmpaaaGreatDoor
open Go.RowKit Go.Deep
set_option linter.unusedVariables false

/-- the instruction of a word of zeros -/
def sll0 : Cd.Ins := ⟨1, 0, 0, 0, 0⟩
theorem dec0 : Cd.decOf 0 = sll0 := by kernel_rfl
theorem do_sll0 (s : Cp.St) (B : Sb) (nx : Int) : Cp.doIt sll0 s B nx false = ⟨-1, s, B, nx, false⟩ := rfl
set_option maxRecDepth 100000 in
set_option maxHeartbeats 2000000 in
theorem do_goes0 (sb b : Nat) (O : Nat → Prop) (s : Cp.St) (B : Sb) (ea : Nat → Addr) (hs : Cp.Rng s) (hOs : ¬ O sb) : DoGoes sb b O s B ea sll0 := by
  intro x w E X hS hB hxs hOx
  have HS := Lib.hid hS
  have HX := Lib.hid X
  have HB := Lib.hid hB
  have h0 : 0 ≤ s.R 0 ∧ s.R 0 < 4294967296 := hs.R 0 (by omega)
  obtain ⟨_, _, c2, _, _, _, _, _, _⟩ := X.cells
  have HT := Lib.hid (show ((⟨(Cd.kindS (Cd.kd 1)).toArray⟩ : ByteArray).toList == [98, 114, 97, 110, 99, 104]) = false ∧ ((⟨(Cd.kindS (Cd.kd 1)).toArray⟩ : ByteArray).toList == [108, 111, 97, 100]) = false ∧ ((⟨(Cd.kindS (Cd.kd 1)).toArray⟩ : ByteArray).toList == [115, 116, 111, 114, 101]) = false ∧ ((⟨(Cd.kindS (Cd.kd 1)).toArray⟩ : ByteArray).toList == [116, 114, 97, 112]) = false by decide +kernel)
  have HF := Lib.hid (show ((⟨(Cd.row 1).fields.toArray⟩ : ByteArray).toList == [83, 84, 105]) = false by decide +kernel)
  clear X hS hB E hs
  go_enter Tryz.func37, Tryz.ntmps37
  go_wp2_with fail
  refine (Kind_any 1 (by omega) _).mono ?_
  rintro e w1 ⟨rfl, hk1⟩
  have HS1 := Lib.hid (HS.out.keep hk1 (fun h => h))
  have HX1 := Lib.hid (HX.out.keep hk1 (fun h => h))
  have HB1 := Lib.hid (HB.out.keep hk1 (fun _ _ h => h))
  have HK1 := Lib.hid hk1
  clear c2 hk1
  have c2 := HX1.out.cells.2.2.1
  obtain ⟨t1, t2, t3, t4⟩ := HT.out
  generalize (⟨(Cd.kindS (Cd.kd 1)).toArray⟩ : ByteArray) = ks at *
  go_wp2_with fail
  refine (Fields_any 1 (by omega) _).mono ?_
  rintro e w2 ⟨rfl, hk2⟩
  have HS2 := Lib.hid (HS1.out.keep hk2 (fun h => h))
  have HX2 := Lib.hid (HX1.out.keep hk2 (fun h => h))
  have HB2 := Lib.hid (HB1.out.keep hk2 (fun _ _ h => h))
  have HK2 := Lib.hid (HK1.out.trans hk2 (fun _ _ h => h))
  clear c2 hk2 t1 t2 t3 t4
  have c2 := HX2.out.cells.2.2.1
  have t5 := HF.out
  generalize (⟨(Cd.row 1).fields.toArray⟩ : ByteArray) = fs at *
  go_wp2_with fail
  refine (sum_1 x sb b 0 0 0 0 _ _ s w2 HX2.out HS2.out (by omega) (by omega) (by omega) (by omega) _ _ h0 h0 rfl rfl hxs (-1, s) (Lib.hid rfl)).mono ?_
  intro e w3 h
  have H := Lib.hid h
  obtain rfl := h.e
  clear h c2
  go_wp2_with fail
  go_ret
  rw [do_sll0]
  exact ⟨rfl, H.out.st, HX2.out.keep H.out.k hxs, O, HB2.out.keep H.out.k (fun k hk e => hOs (e ▸ hk)), Grew.refl _ _, Keeps.trans (HK2.out.mono (fun _ _ h => h.elim)) H.out.k (fun k _ h => .inl h)⟩

/-- Step, whatever one leaves -/
theorem step_none (sb : Option Addr) (b : Option Addr) (w : World) (h : sb = none ∨ b = none) :
    Calls Tryz.prog 11 #[.pointer sb, .pointer b] w fun e w' => e = .returned (.int .i64 (-1)) ∧ w = w' := by
  rcases h with rfl | rfl
  · go_enter Tryz.func11, Tryz.ntmps11
    go_wp2_with fail
    go_ret
    exact ⟨rfl, rfl⟩
  · cases sb
    all_goals
      go_enter Tryz.func11, Tryz.ntmps11
      go_wp2_with fail
      go_ret
      exact ⟨rfl, rfl⟩
set_option maxRecDepth 100000 in
set_option maxHeartbeats 2000000 in
theorem step_any (sb b : Nat) (O : Nat → Prop) (s : Cp.St) (B : Sb) (w : World) (o : Int × Cp.St × Sb) (hc : Cp.Rng o.2.1) (he : o.1 = -1 ∨ (0 ≤ o.1 ∧ o.1 < 32)) (hOs : ¬ O sb) (hlt : sb < w.heap.size)
    (hone : Calls Tryz.prog 21 #[.pointer (some ⟨sb, 0, none⟩), .pointer (some ⟨b, 0, none⟩)] w fun e w' => StepOk w w' sb b O o e)
    (r : Int × Cp.St × Sb) (hr : Hid (r = (o.1, { (if o.1 = -1 then o.2.1 else Cp.enter o.2.1 o.1) with count := (if o.1 = -1 then o.2.1 else Cp.enter o.2.1 o.1).count + 1 }, o.2.2))) :
    Calls Tryz.prog 11 #[.pointer (some ⟨sb, 0, none⟩), .pointer (some ⟨b, 0, none⟩)] w fun e w' => StepOk w w' sb b O r e := by
  have HO := Lib.hid hone
  have HC := Lib.hid hc
  have hct := hc.count
  clear hone hc
  obtain ⟨e0, s0, B0⟩ := o
  simp only at he hct
  go_enter Tryz.func11, Tryz.ntmps11
  go_wp2_with fail
  refine HO.out.mono ?_
  intro e w1 h
  have H := Lib.hid h
  obtain rfl := h.e
  obtain ⟨O', hB1, hG1, hK1⟩ := h.k
  have HB1 := Lib.hid hB1
  have HG1 := Lib.hid hG1
  have HK1 := Lib.hid hK1
  have hO' : ¬ O' sb := fun h2 => by
    rcases hG1 sb h2 with h3 | h3
    · exact hOs h3
    · omega
  clear h hB1 hG1 hK1
  by_cases h1 : e0 = -1
  · subst h1
    have HR := Lib.hid (show r = (-1, { s0 with count := s0.count + 1 }, B0) from hr.out)
    have hst := H.out.st
    simp only at hst
    have s42 := hst.cells.2.2.2.2.2.2.2.2.2.2
    have f42 := hst.frozen 42
    have HSET := Lib.hid (hst.set 10 (.int .i64 (s0.count + 1)) (s' := { s0 with count := s0.count + 1 }) rfl rfl)
    clear hst
    go_wp2_with fail
    go_ret
    refine ⟨by rw [HR.out]; rfl, by rw [HR.out]; exact HSET.out, O', ?_, HG1.out, HK1.out.trans (Keeps.one _ _ _ _) (fun k _ h => .inl h)⟩
    rw [HR.out]
    exact HB1.out.keep (Keeps.one _ _ _ _) (fun k hk e => hO' (e ▸ hk))
  · have t1 : (e0 != -1) = true := by simpa using h1
    have HR := Lib.hid (show r = (e0, { (Cp.enter s0 e0) with count := (Cp.enter s0 e0).count + 1 }, B0) by rw [hr.out, if_neg h1])
    have hst := H.out.st
    simp only at hst
    have he2 : 0 ≤ e0 ∧ e0 < 32 := by omega
    have hcn : (Cp.enter s0 e0).count = s0.count := by unfold Cp.enter; split <;> rfl
    have HST := Lib.hid hst
    clear h1 hst
    go_wp2_with fail
    refine (enter_any sb s0 e0 w1 HST.out HC.out he2 _ (Lib.hid rfl)).mono ?_
    rintro e w2 ⟨rfl, hS2, hk2⟩
    have hs42 := hS2.cells.2.2.2.2.2.2.2.2.2.2
    rw [hcn] at hs42
    have f42 := hS2.frozen 42
    have HSET := Lib.hid (hS2.set 10 (.int .i64 (s0.count + 1)) (s' := { (Cp.enter s0 e0) with count := s0.count + 1 }) rfl rfl)
    rw [hcn] at HR
    have HK2 := Lib.hid hk2
    clear hS2 hk2 hcn
    generalize Cp.enter s0 e0 = s1 at *
    go_wp2_with fail
    go_ret
    refine ⟨by rw [HR.out]; rfl, by rw [HR.out]; exact HSET.out, O', ?_, HG1.out, (HK1.out.trans HK2.out (fun k _ h => .inl h)).trans (Keeps.one _ _ _ _) (fun k _ h => .inl h)⟩
    rw [HR.out]
    exact (HB1.out.keep HK2.out (fun k hk e => hO' (e ▸ hk))).keep (Keeps.one _ _ _ _) (fun k hk e => hO' (e ▸ hk))
theorem cpuNew_any (pc : Int) (w : World) (hpc : 0 ≤ pc ∧ pc < 4294967296) :
    Calls Tryz.prog 14 #[.int .u32 pc] w fun e w' => e = .returned (.pointer (some ⟨w.heap.size, 0, none⟩)) ∧ StAt w' w.heap.size ⟨fun _ => 0, 0, 0, pc, Cp.u (pc + 4), false, 0, 0, 0, 0, 0, 0⟩ ∧ Keeps (fun _ => False) w w' := by
  go_enter Tryz.func14, Tryz.ntmps14
  go_wp2_with fail
  go_ret
  exact ⟨rfl, blk_alloc_new w _, (Keeps.refl _ w).alloc _⟩
end Go.Proofs.YtlbdkcnbgdmpaaaGreatDoor
