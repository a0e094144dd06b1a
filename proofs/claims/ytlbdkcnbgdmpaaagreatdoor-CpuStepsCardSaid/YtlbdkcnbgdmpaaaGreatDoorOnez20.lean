import Derived.Test.YtlbdkcnbgdmpaaaGreatDoorOnez9
import Derived.Test.YtlbdkcnbgdmpaaaGreatDoorOnez7
import Derived.Test.YtlbdkcnbgdmpaaaGreatDoorOnez19
import Derived.Test.YtlbdkcnbgdmpaaaGreatDoorOnez18
import Derived.Test.YtlbdkcnbgdmpaaaGreatDoorOnez2
import Derived.Test.YtlbdkcnbgdmpaaaGreatDoorOnez3
import Derived.Test.YtlbdkcnbgdmpaaaGreatDoorOnez12
import Derived.Test.YtlbdkcnbgdmpaaaGreatDoorOnez14
import Derived.Test.YtlbdkcnbgdmpaaaGreatDoorOnez16

/- CpuEnter -/
/- The walks of cpu.enter, Due. -/
namespace Go.Proofs.YtlbdkcnbgdmpaaaGreatDoor
open Go.RowKit Go.Deep
set_option linter.unusedVariables false

set_option maxHeartbeats 1000000 in
theorem due_any (sb : Nat) (s : Cp.St) (w : World) (hS : StAt w sb s) (hs : Cp.Rng s) (d : Bool) (hd : Hid (d = Cp.due s)) :
    Calls Tryz.prog 34 #[.pointer (some ⟨sb, 0, none⟩), .int .i64 s.count] w fun e w' => e = .returned (.bool d) ∧ w = w' := by
  obtain ⟨_, _, _, _, _, s37, _, _, _, s41, s42⟩ := hS.cells
  have h3 := Cp.and3 s.status hs.status
  have hc := hs.compare
  have hdd : d = decide (s.compare ≠ 0 ∧ s.compare ≤ s.count ∧ s.status % 4 = 1) := hd.out
  have HD := Lib.hid hdd
  clear hS hs hdd hd
  unfold Cp.W at hc
  have h4 : (bits .and .u32 s.status 3 == 1) = decide (s.status % 4 = 1) := by rw [h3, Bool.eq_iff_iff, beq_iff_eq, decide_eq_true_iff]
  clear h3
  generalize s.compare = c at *
  generalize s.count = n at *
  generalize s.status = st at *
  by_cases h0 : c = 0
  · have t1 : (c != 0) = false := by simp [h0]
    have HF := Lib.hid (show d = false by rw [HD.out, decide_eq_false]; omega)
    clear h0
    go_enter Tryz.func34, Tryz.ntmps34
    go_wp2_with fail
    go_ret
    exact ⟨by rw [HF.out]; rfl, rfl⟩
  · have t1 : (c != 0) = true := by simpa using h0
    by_cases h1 : c ≤ n
    · by_cases h2 : st % 4 = 1
      · rw [decide_eq_true h2] at h4
        have HF := Lib.hid (show d = true by rw [HD.out, decide_eq_true]; exact ⟨h0, h1, h2⟩)
        clear h0 h2
        go_enter Tryz.func34, Tryz.ntmps34
        go_wp2_with fail
        go_ret
        exact ⟨by rw [HF.out]; first | rfl | (show Ending.returned (.bool (bits .and .u32 st 3 == 1)) = _; rw [H4.out]), rfl⟩
      · rw [decide_eq_false h2] at h4
        have HF := Lib.hid (show d = false by rw [HD.out, decide_eq_false]; exact fun h => h2 h.2.2)
        clear h0 h2
        go_enter Tryz.func34, Tryz.ntmps34
        go_wp2_with fail
        go_ret
        exact ⟨by rw [HF.out]; first | rfl | (show Ending.returned (.bool (bits .and .u32 st 3 == 1)) = _; rw [H4.out]), rfl⟩
    · have HF := Lib.hid (show d = false by rw [HD.out, decide_eq_false]; exact fun h => h1 h.2.1)
      clear h0
      go_enter Tryz.func34, Tryz.ntmps34
      go_wp2_with fail
      go_ret
      exact ⟨by rw [HF.out]; rfl, rfl⟩

theorem test2' (v : Int) (h : 0 ≤ v ∧ v < 4294967296) : (bits .and .u32 v 2 == 0) = decide (v / 2 % 2 = 0) := by
  rw [Cp.and2 v h, Bool.eq_iff_iff, beq_iff_eq, decide_eq_true_iff]
  omega
set_option maxRecDepth 100000 in
set_option maxHeartbeats 3000000 in
theorem enter_0 (sb : Nat) (s : Cp.St) (c : Int) (w : World) (hS : StAt w sb s) (hs : Cp.Rng s) (hc : 0 ≤ c ∧ c < 32) (h1 : s.status / 2 % 2 = 0) (hsl : s.slot = false) (r : Cp.St) (hr : Hid (r = Cp.enter s c)) :
    Calls Tryz.prog 22 #[.pointer (some ⟨sb, 0, none⟩), .int .i64 c] w fun e w' => e = .returned (.tuple #[]) ∧ StAt w' sb r ∧ Keeps (· = sb) w w' := by
  have HS := Lib.hid hS
  have HC := Lib.hid hs.cause
  have hst := hs.status
  have ht := test2' s.status hst
  have hw1 : IntKind.u32.wrap c = c := by rw [IntKind.wrap_u32']; omega
  have HO0 := Lib.hid (Cp.or2 s.status hst)
  have hpcr := hs.pc
  clear hs
  obtain ⟨_, _, s34, s35, s36, s37, s38, s39, _, _, _⟩ := hS.cells
  have f34 := hS.frozen 34
  have f35 := hS.frozen 35
  have f36 := hS.frozen 36
  have f37 := hS.frozen 37
  have f38 := hS.frozen 38
  have f39 := hS.frozen 39
  have hpc := hpcr
  clear hpcr
  rw [decide_eq_true h1] at ht
  have HR := Lib.hid (show r = { s with epc := s.pc, cause := c * 4, status := bits .or .u32 s.status 2, pc := 384, next := 388, slot := false } by
    rw [hr.out, Cp.enter, if_pos h1, hsl, HO0.out, if_pos h1, Int.mul_comm c 4]; rfl)
  rw [hsl] at s36
  have HS2 := Lib.hid ((((((HS.out.set 7 (.int .u32 s.pc) (s' := { s with epc := s.pc }) rfl rfl).set 6 (.int .u32 (c * 4)) (s' := { s with epc := s.pc, cause := c * 4 }) rfl rfl).set 5 (.int .u32 (bits .or .u32 s.status 2)) (s' := { s with epc := s.pc, cause := c * 4, status := bits .or .u32 s.status 2 }) rfl rfl).set 2 (.int .u32 384) (s' := { s with epc := s.pc, cause := c * 4, status := bits .or .u32 s.status 2, pc := 384 }) rfl rfl).set 3 (.int .u32 388) (s' := { s with epc := s.pc, cause := c * 4, status := bits .or .u32 s.status 2, pc := 384, next := 388 }) rfl rfl).set 4 (.bool false) (s' := { s with epc := s.pc, cause := c * 4, status := bits .or .u32 s.status 2, pc := 384, next := 388, slot := false }) rfl rfl)
  clear hS h1 hsl hst hr
  go_enter Tryz.func22, Tryz.ntmps22
  go_wp2_with fail
  refine bodyPost_end (results_none rfl _ _ _) rfl ⟨rfl, ?_, (Keeps.trans (Keeps.trans (Keeps.trans (Keeps.trans (Keeps.trans (Keeps.one _ _ _ _) (Keeps.one _ _ _ _) (fun _ _ h => h)) (Keeps.one _ _ _ _) (fun _ _ h => h)) (Keeps.one _ _ _ _) (fun _ _ h => h)) (Keeps.one _ _ _ _) (fun _ _ h => h)) (Keeps.one _ _ _ _) (fun _ _ h => h))⟩
  rw [HR.out]
  exact HS2.out
set_option maxRecDepth 100000 in
set_option maxHeartbeats 3000000 in
theorem enter_2 (sb : Nat) (s : Cp.St) (c : Int) (w : World) (hS : StAt w sb s) (hs : Cp.Rng s) (hc : 0 ≤ c ∧ c < 32) (h1 : ¬ s.status / 2 % 2 = 0) (r : Cp.St) (hr : Hid (r = Cp.enter s c)) :
    Calls Tryz.prog 22 #[.pointer (some ⟨sb, 0, none⟩), .int .i64 c] w fun e w' => e = .returned (.tuple #[]) ∧ StAt w' sb r ∧ Keeps (· = sb) w w' := by
  have HS := Lib.hid hS
  have HC := Lib.hid hs.cause
  have hst := hs.status
  have ht := test2' s.status hst
  have hw1 : IntKind.u32.wrap c = c := by rw [IntKind.wrap_u32']; omega
  have HO0 := Lib.hid (Cp.or2 s.status hst)
  have hpcr := hs.pc
  clear hs
  obtain ⟨_, _, s34, s35, s36, s37, s38, s39, _, _, _⟩ := hS.cells
  have f34 := hS.frozen 34
  have f35 := hS.frozen 35
  have f36 := hS.frozen 36
  have f37 := hS.frozen 37
  have f38 := hS.frozen 38
  have f39 := hS.frozen 39
  have hpc := hpcr
  clear hpcr
  rw [decide_eq_false h1] at ht
  have HR := Lib.hid (show r = { s with cause := bits .or .u32 (bits .andNot .u32 s.cause 124) (c * 4), status := bits .or .u32 s.status 2, pc := 384, next := 388, slot := false } by
    rw [hr.out, Cp.enter, if_neg h1, HO0.out, if_neg h1, Int.mul_comm c 4, Cp.causeB s.cause c HC.out hc])
  have HS2 := Lib.hid (((((HS.out.set 6 (.int .u32 (bits .or .u32 (bits .andNot .u32 s.cause 124) (c * 4))) (s' := { s with cause := bits .or .u32 (bits .andNot .u32 s.cause 124) (c * 4) }) rfl rfl).set 5 (.int .u32 (bits .or .u32 s.status 2)) (s' := { s with cause := bits .or .u32 (bits .andNot .u32 s.cause 124) (c * 4), status := bits .or .u32 s.status 2 }) rfl rfl).set 2 (.int .u32 384) (s' := { s with cause := bits .or .u32 (bits .andNot .u32 s.cause 124) (c * 4), status := bits .or .u32 s.status 2, pc := 384 }) rfl rfl).set 3 (.int .u32 388) (s' := { s with cause := bits .or .u32 (bits .andNot .u32 s.cause 124) (c * 4), status := bits .or .u32 s.status 2, pc := 384, next := 388 }) rfl rfl).set 4 (.bool false) (s' := { s with cause := bits .or .u32 (bits .andNot .u32 s.cause 124) (c * 4), status := bits .or .u32 s.status 2, pc := 384, next := 388, slot := false }) rfl rfl)
  clear hS h1 hst hr
  go_enter Tryz.func22, Tryz.ntmps22
  go_wp2_with fail
  refine bodyPost_end (results_none rfl _ _ _) rfl ⟨rfl, ?_, (Keeps.trans (Keeps.trans (Keeps.trans (Keeps.trans (Keeps.one _ _ _ _) (Keeps.one _ _ _ _) (fun _ _ h => h)) (Keeps.one _ _ _ _) (fun _ _ h => h)) (Keeps.one _ _ _ _) (fun _ _ h => h)) (Keeps.one _ _ _ _) (fun _ _ h => h))⟩
  rw [HR.out]
  exact HS2.out
end Go.Proofs.YtlbdkcnbgdmpaaaGreatDoor

/- CpuOne -/
/- The walk of cpu.one, over what do leaves. -/
namespace Go.Proofs.YtlbdkcnbgdmpaaaGreatDoor
open Go.RowKit Go.Deep
set_option linter.unusedVariables false

/-- what an instruction leaves -/
structure DoOk (w w' : World) (x sb b : Nat) (O : Nat → Prop) (i : Cd.Ins) (r : Cp.Out) (e : Ending) : Prop where
  e : e = .returned (.int .i64 r.e)
  st : StAt w' sb r.s
  xa : XAt w' x sb b i r.nx r.br
  k : ∃ O', BInv b O' w' r.b ∧ Grew O O' w ∧ Keeps (fun k => k = sb ∨ k = x ∨ O k) w w'
/-- what a step leaves -/
structure StepOk (w w' : World) (sb b : Nat) (O : Nat → Prop) (r : Int × Cp.St × Sb) (e : Ending) : Prop where
  e : e = .returned (.int .i64 r.1)
  st : StAt w' sb r.2.1
  k : ∃ O', BInv b O' w' r.2.2 ∧ Grew O O' w ∧ Keeps (fun k => k = sb ∨ O k) w w'
theorem ramLoad_at {w : World} {b : Nat} {O : Nat → Prop} {B : Sb} (h : BInv b O w B) : ∃ r pb pw ph cp, w.cell? ⟨b, 0, none⟩ = some (.pointer (some ⟨r, 0, none⟩)) ∧ RamAt w r pb pw ph cp B.m := by
  obtain ⟨r, pb, pw, ph, cp, ov, tv, h⟩ := h
  exact ⟨r, pb, pw, ph, _, by simp [World.cell?, h.bus.box], h.ram⟩
theorem ram_q (b r : Nat) (w : World) (d : Nat) (hb : w.cell? ⟨b, 0, none⟩ = some (.pointer (some ⟨r, 0, none⟩))) :
    Calls Tryz.prog 8 #[.pointer (some ⟨b, 0, none⟩)] (w.drewN d) fun e w'' => e = .returned (.pointer (some ⟨r, 0, none⟩)) ∧ ∃ m, w'' = w.drewN m := quiet_eq (ramOf_any b r (w.drewN d) hb)
theorem load4_q (r pb pw ph cp : Nat) (m : Nat → Int) (a v : Int) (w : World) (d : Nat) (R : RamAt w r pb pw ph cp m) (h0 : 0 ≤ a) (h : rightC a 4 = 0) (hv : be m a.toNat 4 = v) :
    Calls Tryz.prog 35 #[.pointer (some ⟨r, 0, none⟩), .int .u32 a, .int .i64 4, .bool false] (w.drewN d) fun e w'' => e = .returned (.tuple #[.int .u32 v, .nilIface]) ∧ ∃ m, w'' = w.drewN m := by
  have h16 := (rightC_ok h).2.2
  have hw := wide_be (m := m) (a := a.toNat) (n := 4) (by omega) (fun i hi => R.rng _ (by have := (rightC_ok h).2.1; omega))
  have := load_okI r pb pw ph cp m a 4 false (w.drewN d) ⟨R.box, R.bytes, R.room, R.rng, R.apart⟩ h0 h
  rw [show Wd.wide (be m a.toNat (4 : Int).toNat) (8 * 4) false = v by rw [← hv]; exact hw] at this
  exact quiet_eq this
theorem loadbad_q (r : Nat) (a : Int) (w : World) (d : Nat) (ea : Nat → Addr) (E : Errs3 w ea) (ha : 0 ≤ a ∧ a < 4294967296) (h : rightC a 4 ≠ 0) (er : Value) (he : errV ea (rightC a 4) = er) :
    Calls Tryz.prog 35 #[.pointer (some ⟨r, 0, none⟩), .int .u32 a, .int .i64 4, .bool false] (w.drewN d) fun e w'' => e = .returned (.tuple #[.int .u32 0, er]) ∧ ∃ m, w'' = w.drewN m := by
  subst he
  exact quiet_eq (load_bad ⟨r, 0, none⟩ a 4 false (w.drewN d) ea ⟨E.shape, E.align, E.far⟩ ha h)

set_option maxRecDepth 100000 in
set_option maxHeartbeats 3000000 in
theorem one_due (sb b : Nat) (s : Cp.St) (w : World) (hS : StAt w sb s) (hs : Cp.Rng s) (hd : Cp.due s = true) :
    Calls Tryz.prog 21 #[.pointer (some ⟨sb, 0, none⟩), .pointer (some ⟨b, 0, none⟩)] w fun e w' => e = .returned (.int .i64 0) ∧ w = w' := by
  have HS := Lib.hid hS
  have HG := Lib.hid hs
  have s42 := hS.cells.2.2.2.2.2.2.2.2.2.2
  clear hS hs
  go_enter Tryz.func21, Tryz.ntmps21
  go_wp2_with fail
  refine (due_any sb s _ HS.out HG.out true (Lib.hid hd.symm)).mono ?_
  rintro e w' ⟨rfl, rfl⟩
  go_wp2_with fail
  go_ret
  exact ⟨rfl, rfl⟩
set_option maxRecDepth 100000 in
set_option maxHeartbeats 3000000 in
theorem one_bad (sb b : Nat) (O : Nat → Prop) (s : Cp.St) (B : Sb) (w : World) (ea : Nat → Addr) (E : Errs3 w ea) (hS : StAt w sb s) (hB : BInv b O w B) (hs : Cp.Rng s) (hOs : ¬ O sb) (hd : Cp.due s = false) (hp : rightC s.pc 4 ≠ 0) :
    Calls Tryz.prog 21 #[.pointer (some ⟨sb, 0, none⟩), .pointer (some ⟨b, 0, none⟩)] w fun e w' => StepOk w w' sb b O (4, { s with bad := s.pc }, B) e := by
  have HS := Lib.hid hS
  have HG := Lib.hid hs
  have HB := Lib.hid hB
  have HE := Lib.hid E
  obtain ⟨r, pb, pw, ph, cp, hb0, hR⟩ := ramLoad_at hB
  obtain ⟨_, _, s34, _, _, _, _, _, s40, _, s42⟩ := hS.cells
  have f40 := hS.frozen 40
  have HP := Lib.hid hp
  have hpc := hs.pc
  have HSET := Lib.hid (hS.set 8 (.int .u32 s.pc) (s' := { s with bad := s.pc }) rfl rfl)
  clear hS hs hB E hR hp
  go_enter Tryz.func21, Tryz.ntmps21
  go_wp2_with fail
  refine (due_any sb s _ HS.out HG.out false (Lib.hid hd.symm)).mono ?_
  rintro e w' ⟨rfl, rfl⟩
  go_upto_region 3 with fail
  obtain ⟨er, HER, her⟩ : ∃ er : Addr, Hid (errV ea (rightC s.pc 4) = .iface 136 (.pointer (some er))) ∧ True := ⟨_, Lib.hid rfl, trivial⟩
  go_quiet (first | (go_at_call 8; exact ram_q b r _ _ hb0) | (go_at_call 35; exact loadbad_q r s.pc _ _ ea HE.out hpc HP.out _ HER.out))
  go_wp2_with fail
  go_ret
  exact ⟨rfl, HSET.out, O, HB.out.keep (Keeps.trans ((Keeps.refl (· = sb) w).drewN nq) (Keeps.one _ _ _ _) (fun _ _ h => h)) (fun k hk e => hOs (e ▸ hk)), Grew.refl _ _, Keeps.trans ((Keeps.refl (fun k => k = sb ∨ O k) w).drewN nq) (Keeps.one _ _ _ _) (fun k _ h => .inl h)⟩
end Go.Proofs.YtlbdkcnbgdmpaaaGreatDoor

/- CpuIns -/
/- The walk of cpu.one at an instruction, over what do leaves. -/
namespace Go.Proofs.YtlbdkcnbgdmpaaaGreatDoor
open Go.RowKit Go.Deep
set_option linter.unusedVariables false

/-- do's contract at an instruction -/
def DoGoes (sb b : Nat) (O : Nat → Prop) (s : Cp.St) (B : Sb) (ea : Nat → Addr) (i : Cd.Ins) : Prop :=
  ∀ (x : Nat) (w : World), Errs3 w ea → XAt w x sb b i (Cp.u (s.next + 4)) false → StAt w sb s → BInv b O w B → x ≠ sb → ¬ O x →
    Calls Tryz.prog 37 #[.pointer (some ⟨x, 0, none⟩)] w fun e w' => DoOk w w' x sb b O i (Cp.doIt i s B (Cp.u (s.next + 4)) false) e
theorem StAt.drew1 {w : World} {sb : Nat} {s : Cp.St} (h : StAt w sb s) : StAt w.drew sb s := h
set_option maxRecDepth 100000 in
set_option maxHeartbeats 3000000 in
theorem one_ins (sb b : Nat) (O : Nat → Prop) (s : Cp.St) (B : Sb) (w : World) (ea : Nat → Addr) (E : Errs3 w ea) (hS : StAt w sb s) (hB : BInv b O w B) (hs : Cp.Rng s) (hOs : ¬ O sb) (hd : Cp.due s = false) (hp : rightC s.pc 4 = 0)
    (v : Int) (hv : be B.m s.pc.toNat 4 = v) (hv2 : 0 ≤ v ∧ v < 4294967296) (i : Cd.Ins) (hi : Cd.decOf v = i) (hdo : DoGoes sb b O s B ea i) (r : Int × Cp.St × Sb) (hr : Hid (r = Cp.ins i s B)) :
    Calls Tryz.prog 21 #[.pointer (some ⟨sb, 0, none⟩), .pointer (some ⟨b, 0, none⟩)] w fun e w' => StepOk w w' sb b O r e := by
  have HS := Lib.hid hS
  have HG := Lib.hid hs
  have HB := Lib.hid hB
  have HE := Lib.hid E
  have HD := Lib.hid hdo
  have HI := Lib.hid hi
  have HV := Lib.hid hv
  obtain ⟨q, pb, pw, ph, cp, hb0, hR⟩ := ramLoad_at hB
  have HRM := Lib.hid hR
  obtain ⟨_, _, s34, s35, _, _, _, _, _, _, s42⟩ := hS.cells
  have HP := Lib.hid hp
  have hpc := hs.pc
  clear hS hs hB E hR hp hdo hi hv
  go_enter Tryz.func21, Tryz.ntmps21
  go_wp2_with fail
  refine (due_any sb s _ HS.out HG.out false (Lib.hid hd.symm)).mono ?_
  rintro e w' ⟨rfl, rfl⟩
  go_upto_region 3 with fail
  go_quiet (first | (go_at_call 8; exact ram_q b q _ _ hb0) | (go_at_call 35; exact load4_q q pb pw ph cp B.m s.pc v _ _ HRM.out hpc.1 HP.out HV.out))
  have HS1 := Lib.hid (show StAt (w.drewN nq) sb s from HS.out)
  have HB1 := Lib.hid (HB.out.keep ((Keeps.refl (fun _ => False) w).drewN nq) (fun _ _ h => h))
  have HE1 := Lib.hid (HE.out.keep ((Keeps.refl (fun _ => False) w).drewN nq) ⟨fun h => h, fun h => h, fun h => h⟩)
  have HK1 := Lib.hid ((Keeps.refl (fun _ => False) w).drewN nq)
  clear hb0 s34 s35 s42
  generalize w.drewN nq = w1 at *
  go_upto_region 7 with fail
  have s35 := HS1.out.cells.2.2.2.1
  have hnw : IntKind.u32.wrap (s.next + 4) = Cp.u (s.next + 4) := rfl
  have hnw2 : (s.next + 4) % 4294967296 = Cp.u (s.next + 4) := rfl
  have HU := Lib.hid hnw2
  clear hnw hnw2
  obtain ⟨op, S, T, D, imm⟩ := i
  have hdec : ∀ wc, Calls Tryz.prog 36 #[.int .u32 v] wc fun e w' => e = .returned (.agg #[.int .i64 op, .int .i64 S, .int .i64 T, .int .i64 D, .int .u32 imm]) ∧ Keeps (fun _ => False) wc w' := by
    intro wc
    have := decode_any v hv2 wc
    rw [HI.out] at this
    exact this
  have HDEC := Lib.hid hdec
  clear hdec
  go_region_with (go_at_call 36; refine (HDEC.out _).mono ?_; rintro e w2 ⟨rfl, hk2⟩; have s35b := (HS1.out.keep (Keeps.trans ((Keeps.refl (fun _ => False) w1).drew) hk2 (fun _ _ h => h)) (fun h => h)).cells.2.2.2.1)
  all_goals (
    have hk12 := Keeps.trans ((Keeps.refl (fun _ => False) w1).drew) hk2 (fun _ _ h => h)
    have HX := Lib.hid (show XAt (w2.alloc (.cells #[.pointer (some ⟨sb, 0, none⟩), .pointer (some ⟨b, 0, none⟩), .int .i64 op, .int .i64 S, .int .i64 T, .int .i64 D, .int .u32 imm, .int .u32 (IntKind.u32.wrap (s.next + 4)), .bool false] 83)) w2.heap.size sb b ⟨op, S, T, D, imm⟩ (Cp.u (s.next + 4)) false from blk_alloc_new w2 (.cells #[.pointer (some ⟨sb, 0, none⟩), .pointer (some ⟨b, 0, none⟩), .int .i64 op, .int .i64 S, .int .i64 T, .int .i64 D, .int .u32 imm, .int .u32 (IntKind.u32.wrap (s.next + 4)), .bool false] 83))
    have hk13 := hk12.alloc (.cells #[.pointer (some ⟨sb, 0, none⟩), .pointer (some ⟨b, 0, none⟩), .int .i64 op, .int .i64 S, .int .i64 T, .int .i64 D, .int .u32 imm, .int .u32 (IntKind.u32.wrap (s.next + 4)), .bool false] 83)
    have hxs : w2.heap.size ≠ sb := by have := HS1.out.lt; have := hk12.size; omega
    have hOx : ¬ O w2.heap.size := fun h => by have := HB1.out.lt _ h; have := hk12.size; omega
    have HLX := Lib.hid (show w.heap.size ≤ w2.heap.size from Nat.le_trans HK1.out.size hk12.size)
    have HS3 := Lib.hid (HS1.out.keep hk13 (fun h => h))
    have HB3 := Lib.hid (HB1.out.keep hk13 (fun _ _ h => h))
    have HE3 := Lib.hid (HE1.out.keep hk13 ⟨fun h => h, fun h => h, fun h => h⟩)
    have HK3 := Lib.hid (HK1.out.trans hk13 (fun _ _ h => h))
    clear hk12 hk13 hk2 s35 s35b
    generalize w2.alloc (.cells #[.pointer (some ⟨sb, 0, none⟩), .pointer (some ⟨b, 0, none⟩), .int .i64 op, .int .i64 S, .int .i64 T, .int .i64 D, .int .u32 imm, .int .u32 (IntKind.u32.wrap (s.next + 4)), .bool false] 83) = w3 at *
    generalize w2.heap.size = x at *
    go_wp2_with fail
    refine (HD.out x w3 HE3.out HX.out HS3.out HB3.out hxs hOx).mono ?_
    intro e w4 h
    have HR : Hid (r = ((Cp.doIt ⟨op, S, T, D, imm⟩ s B (Cp.u (s.next + 4)) false).e, if (Cp.doIt ⟨op, S, T, D, imm⟩ s B (Cp.u (s.next + 4)) false).e = -1 ∧ op ≠ 45 then { (Cp.doIt ⟨op, S, T, D, imm⟩ s B (Cp.u (s.next + 4)) false).s with pc := (Cp.doIt ⟨op, S, T, D, imm⟩ s B (Cp.u (s.next + 4)) false).s.next, next := (Cp.doIt ⟨op, S, T, D, imm⟩ s B (Cp.u (s.next + 4)) false).nx, slot := (Cp.doIt ⟨op, S, T, D, imm⟩ s B (Cp.u (s.next + 4)) false).br } else (Cp.doIt ⟨op, S, T, D, imm⟩ s B (Cp.u (s.next + 4)) false).s, (Cp.doIt ⟨op, S, T, D, imm⟩ s B (Cp.u (s.next + 4)) false).b)) := hr
    generalize Cp.doIt ⟨op, S, T, D, imm⟩ s B (Cp.u (s.next + 4)) false = o at *
    have H := Lib.hid h
    obtain rfl := h.e
    obtain ⟨O', hB4, hG4, hK4⟩ := h.k
    have HB4 := Lib.hid hB4
    have HG4 := Lib.hid (Grew.of2 hG4 HK3.out.size)
    have HK4 := Lib.hid (show Keeps (fun k => k = sb ∨ O k) w w4 from Keeps.trans (HK3.out.mono (fun _ _ h => h.elim)) hK4 (fun k hk h => by
      rcases h with h | h | h
      · exact .inl h
      · have := HLX.out; omega
      · exact .inr h))
    have hO' : ¬ O' sb := fun h2 => by
      rcases hG4 sb h2 with h3 | h3
      · exact hOs h3
      · have := HS3.out.lt; omega
    obtain ⟨_, _, c2, _, _, _, _, c7, c8⟩ := h.xa.cells
    clear h hB4 hG4 hK4
    by_cases he : o.e = -1
    · by_cases h45 : op = 45
      · have t1 : ((op : Int) != 45) = false := by simp [h45]
        have HRR := Lib.hid (show r = (-1, o.s, o.b) by rw [HR.out, if_neg (fun h => h.2 h45), he])
        rw [he]
        clear h45
        go_wp2_with fail
        go_ret
        exact ⟨by rw [HRR.out]; rfl, by rw [HRR.out]; exact H.out.st, O', by rw [HRR.out]; exact HB4.out, HG4.out, HK4.out⟩
      · have t1 : ((op : Int) != 45) = true := by simp; omega
        have HRR := Lib.hid (show r = (-1, { o.s with pc := o.s.next, next := o.nx, slot := o.br }, o.b) by rw [HR.out, if_pos ⟨he, h45⟩, he])
        rw [he]
        have HSET := Lib.hid (((H.out.st.set 2 (.int .u32 o.s.next) (s' := { o.s with pc := o.s.next }) rfl rfl).set 3 (.int .u32 o.nx) (s' := { o.s with pc := o.s.next, next := o.nx }) rfl rfl).set 4 (.bool o.br) (s' := { o.s with pc := o.s.next, next := o.nx, slot := o.br }) rfl rfl)
        obtain ⟨_, _, s34, s35, s36, _, _, _, _, _, _⟩ := H.out.st.cells
        have f34 := H.out.st.frozen 34
        have f35 := H.out.st.frozen 35
        have f36 := H.out.st.frozen 36
        clear h45 he hxs hOx
        have hxs : x ≠ sb := by have := HLX.out; have := HS.out.lt; omega
        go_wp2_with fail
        go_region
        all_goals (
          go_wp2_with fail
          go_ret
          refine ⟨by rw [HRR.out]; rfl, ?_, O', ?_, HG4.out, ?_⟩
          · rw [HRR.out]; exact StAt.drew1 HSET.out
          · rw [HRR.out]
            exact (HB4.out.keep (Keeps.trans (Keeps.trans (Keeps.one _ _ _ _) (Keeps.one _ _ _ _) (fun _ _ h => h)) (Keeps.one _ _ _ _) (fun _ _ h => h)).drew (fun k hk e => hO' (e ▸ hk)))
          · exact (Keeps.trans HK4.out (Keeps.trans (Keeps.trans (Keeps.one _ sb _ _) (Keeps.one _ _ _ _) (fun _ _ h => h)) (Keeps.one _ _ _ _) (fun _ _ h => h)) (fun k _ h => .inl h)).drew)
    · have t1 : (o.e == -1) = false := by simpa using he
      have HRR := Lib.hid (show r = (o.e, o.s, o.b) by rw [HR.out, if_neg (fun h => he h.1)])
      clear he
      go_wp2_with fail
      go_ret
      exact ⟨by rw [HRR.out]; rfl, by rw [HRR.out]; exact H.out.st, O', by rw [HRR.out]; exact HB4.out, HG4.out, HK4.out⟩)
end Go.Proofs.YtlbdkcnbgdmpaaaGreatDoor

/- CpuOneStep -/
/- The walks of cpu.do, one, Step. -/
namespace Go.Proofs.YtlbdkcnbgdmpaaaGreatDoor
open Go.RowKit Go.Deep
set_option linter.unusedVariables false

theorem DoOk.of_alu {w wc w' : World} {x sb b : Nat} {O : Nat → Prop} {i : Cd.Ins} {nx : Int} {br : Bool} {B : Sb} {q : Int × Cp.St} {e : Ending} (hk : Keeps (fun _ => False) w wc) (X : XAt wc x sb b i nx br) (hB : BInv b O wc B) (hxs : x ≠ sb) (hOs : ¬ O sb) (h : AluOk wc w' sb q e) : DoOk w w' x sb b O i ⟨q.1, q.2, B, nx, br⟩ e :=
  ⟨h.e, h.st, X.keep h.k hxs, O, hB.keep h.k (fun k hk e => hOs (e ▸ hk)), Grew.refl _ _, Keeps.trans (hk.mono (fun _ _ h => h.elim)) h.k (fun k _ h => .inl h)⟩
theorem DoOk.of_br {w wc w' : World} {x sb b : Nat} {O : Nat → Prop} {i : Cd.Ins} {B : Sb} {q : Int × Cp.St × Int × Bool} {e : Ending} (hk : Keeps (fun _ => False) w wc) (hB : BInv b O wc B) (hOx : ¬ O x) (hOs : ¬ O sb) (h : BrOk wc w' x sb b i q e) : DoOk w w' x sb b O i ⟨q.1, q.2.1, B, q.2.2.1, q.2.2.2⟩ e :=
  ⟨h.e, h.st, h.xa, O, hB.keep h.k (fun k hk e => by rcases e with e | e; exact hOs (e ▸ hk); exact hOx (e ▸ hk)), Grew.refl _ _, Keeps.trans (hk.mono (fun _ _ h => h.elim)) h.k (fun k _ h => h.elim .inl (fun h => .inr (.inl h)))⟩
theorem DoOk.of_mem {w wc w' : World} {x sb b : Nat} {O : Nat → Prop} {i : Cd.Ins} {nx : Int} {br : Bool} {q : Int × Cp.St × Sb} {e : Ending} (hk : Keeps (fun _ => False) w wc) (X : XAt wc x sb b i nx br) (hxs : x ≠ sb) (hOx : ¬ O x) (h : MemOk wc w' sb b O q e) : DoOk w w' x sb b O i ⟨q.1, q.2.1, q.2.2, nx, br⟩ e := by
  obtain ⟨O', h1, h2, h3⟩ := h.k
  exact ⟨h.e, h.st, X.keep h3 (fun e => e.elim hxs hOx), O', h1, Grew.of2 h2 hk.size, Keeps.trans (hk.mono (fun _ _ h => h.elim)) h3 (fun k _ h => h.elim .inl (fun h => .inr (.inr h)))⟩

/-- the kinds of the operations -/
theorem kinds1 : ∀ o : Fin 54, Cd.kd o.val = 1 → o.val = 7 ∨ o.val = 8 ∨ (29 ≤ o.val ∧ o.val ≤ 34) := by decide +kernel
theorem kinds2 : ∀ o : Fin 54, Cd.kd o.val = 2 → 46 ≤ o.val ∧ o.val ≤ 50 := by decide +kernel
theorem kinds3 : ∀ o : Fin 54, Cd.kd o.val = 3 → 51 ≤ o.val ∧ o.val ≤ 53 := by decide +kernel
theorem kinds4 : ∀ o : Fin 54, Cd.kd o.val = 4 → o.val = 9 ∨ o.val = 10 ∨ o.val = 0 ∨ o.val = 43 ∨ o.val = 44 ∨ o.val = 45 := by decide +kernel
theorem kinds0 : ∀ o : Fin 54, (Cd.kd o.val = 1 ∨ Cd.kd o.val = 2 ∨ Cd.kd o.val = 3 ∨ Cd.kd o.val = 4) ∨ (Cd.kd o.val = 0 ∧ ((35 ≤ o.val ∧ o.val ≤ 42) ∨ (1 ≤ o.val ∧ o.val ≤ 6) ∨ (11 ≤ o.val ∧ o.val ≤ 28))) := by decide +kernel
theorem kinds (op : Nat) (h : op < 54) : (Cd.kd op = 1 → op = 7 ∨ op = 8 ∨ (29 ≤ op ∧ op ≤ 34)) ∧ (Cd.kd op = 2 → 46 ≤ op ∧ op ≤ 50) ∧ (Cd.kd op = 3 → 51 ≤ op ∧ op ≤ 53) ∧ (Cd.kd op = 4 → op = 9 ∨ op = 10 ∨ op = 0 ∨ op = 43 ∨ op = 44 ∨ op = 45) ∧
    (Cd.kd op ≠ 1 → Cd.kd op ≠ 2 → Cd.kd op ≠ 3 → Cd.kd op ≠ 4 → Cd.kd op = 0 ∧ ((35 ≤ op ∧ op ≤ 42) ∨ (1 ≤ op ∧ op ≤ 6) ∨ (11 ≤ op ∧ op ≤ 28))) := by
  refine ⟨kinds1 ⟨op, h⟩, kinds2 ⟨op, h⟩, kinds3 ⟨op, h⟩, kinds4 ⟨op, h⟩, fun h1 h2 h3 h4 => ?_⟩
  rcases kinds0 ⟨op, h⟩ with (g | g | g | g) | g
  · exact absurd g h1
  · exact absurd g h2
  · exact absurd g h3
  · exact absurd g h4
  · exact g
/-- a text of fields, tested -/
theorem fields_sti (op : Nat) (h : op < 54) (h0 : Cd.kd op = 0) : ((⟨(Cd.row op).fields.toArray⟩ : ByteArray).toList == [83, 84, 105] || decide (op = 42)) = decide (35 ≤ op ∧ op ≤ 42) := by
  have : ∀ o : Fin 54, Cd.kd o.val = 0 → ((⟨(Cd.row o.val).fields.toArray⟩ : ByteArray).toList == [83, 84, 105] || decide (o.val = 42)) = decide (35 ≤ o.val ∧ o.val ≤ 42) := by decide +kernel
  exact this ⟨op, h⟩ h0
theorem kd_test2 (k : Nat) (hk : k < 6) : ((⟨(Cd.kindS k).toArray⟩ : ByteArray).toList == [98, 114, 97, 110, 99, 104]) = decide (k = 1) ∧ ((⟨(Cd.kindS k).toArray⟩ : ByteArray).toList == [108, 111, 97, 100]) = decide (k = 2) ∧ ((⟨(Cd.kindS k).toArray⟩ : ByteArray).toList == [115, 116, 111, 114, 101]) = decide (k = 3) ∧ ((⟨(Cd.kindS k).toArray⟩ : ByteArray).toList == [116, 114, 97, 112]) = decide (k = 4) := by
  have : k = 0 ∨ k = 1 ∨ k = 2 ∨ k = 3 ∨ k = 4 ∨ k = 5 := by omega
  rcases this with rfl | rfl | rfl | rfl | rfl | rfl <;> decide +kernel
theorem kd_lt6' (op : Nat) (h : op < 54) : Cd.kd op < 6 := by
  unfold Cd.kd
  split
  · omega
  · exact kd_lt op h

set_option maxRecDepth 100000 in
set_option maxHeartbeats 3000000 in
theorem do_any (x sb b : Nat) (O : Nat → Prop) (i : Cd.Ins) (nx : Int) (br : Bool) (s : Cp.St) (B : Sb) (w : World) (ea : Nat → Addr) (E : Errs3 w ea) (X : XAt w x sb b i nx br) (hS : StAt w sb s) (hB : BInv b O w B) (hs : Cp.Rng s) (hi : Cd.Ok i) (hl : B.l.length < 1000000) (hn : B.tn < 1000000)
    (hxs : x ≠ sb) (hOx : ¬ O x) (hOs : ¬ O sb) (r : Cp.Out) (hr : Hid (r = Cp.doIt i s B nx br)) :
    Calls Tryz.prog 37 #[.pointer (some ⟨x, 0, none⟩)] w fun e w' => DoOk w w' x sb b O i r e := by
  have hop : i.op < 54 := hi.op
  have HS := Lib.hid hS
  have HX := Lib.hid X
  have HB := Lib.hid hB
  have HE := Lib.hid E
  have HG := Lib.hid hs
  have HI := Lib.hid hi
  obtain ⟨_, _, c2, _, _, _, _, _, _⟩ := X.cells
  have HKN := Lib.hid (kinds i.op hop)
  have HF := Lib.hid (fields_sti i.op hop)
  have HTS := Lib.hid (kd_test2 (Cd.kd i.op) (kd_lt6' i.op hop))
  have HR : Hid (r = match Cd.kd i.op with
    | 1 => ⟨(Cp.branch i s nx br).1, (Cp.branch i s nx br).2.1, B, (Cp.branch i s nx br).2.2.1, (Cp.branch i s nx br).2.2.2⟩
    | 2 => ⟨(Cp.load i s B).1, (Cp.load i s B).2.1, (Cp.load i s B).2.2, nx, br⟩
    | 3 => ⟨(Cp.store i s B).1, (Cp.store i s B).2.1, (Cp.store i s B).2.2, nx, br⟩
    | 4 => ⟨(Cp.trap i s).1, (Cp.trap i s).2, B, nx, br⟩
    | _ => if 35 ≤ i.op ∧ i.op ≤ 42 then ⟨(Cp.atOnce i s).1, (Cp.atOnce i s).2, B, nx, br⟩ else ⟨(Cp.sum i s).1, (Cp.sum i s).2, B, nx, br⟩) := hr
  clear X hS hB E hs hi hr
  go_enter Tryz.func37, Tryz.ntmps37
  go_wp2_with fail
  refine (Kind_any i.op hop _).mono ?_
  rintro e w1 ⟨rfl, hk1⟩
  have HS1 := Lib.hid (HS.out.keep hk1 (fun h => h))
  have HX1 := Lib.hid (HX.out.keep hk1 (fun h => h))
  have HB1 := Lib.hid (HB.out.keep hk1 (fun _ _ h => h))
  have HE1 := Lib.hid (HE.out.keep hk1 ⟨fun h => h, fun h => h, fun h => h⟩)
  have HK1 := Lib.hid hk1
  clear c2 hk1
  have c2 := HX1.out.cells.2.2.1
  generalize hkk : Cd.kd i.op = kx at *
  generalize (⟨(Cd.kindS kx).toArray⟩ : ByteArray) = ks at *
  have HKK := Lib.hid hkk
  clear hkk
  by_cases k1 : kx = 1
  · have t1 : (ks.toList == [98, 114, 97, 110, 99, 104]) = true := by rw [HTS.out.1]; simp [k1]
    have HR2 := Lib.hid (show r = ⟨(Cp.branch i s nx br).1, (Cp.branch i s nx br).2.1, B, (Cp.branch i s nx br).2.2.1, (Cp.branch i s nx br).2.2.2⟩ by rw [HR.out, k1]; rfl)
    have HOP := Lib.hid (HKN.out.1 k1)
    clear k1
    go_wp2_with fail
    refine (branch_any2 x sb b i nx br s w1 HX1.out HS1.out HG.out HI.out HOP.out hxs _ (Lib.hid rfl)).mono ?_
    intro e w2 h
    have HD := Lib.hid (DoOk.of_br HK1.out HB1.out hOx hOs h)
    rw [← HR2.out] at HD
    obtain rfl := HD.out.e
    clear h c2
    go_wp2_with fail
    go_ret
    exact ⟨rfl, HD.out.st, HD.out.xa, HD.out.k⟩
  have t1 : (ks.toList == [98, 114, 97, 110, 99, 104]) = false := by rw [HTS.out.1]; simp [k1]
  by_cases k2 : kx = 2
  · have t2 : (ks.toList == [108, 111, 97, 100]) = true := by rw [HTS.out.2.1]; simp [k2]
    have HR2 := Lib.hid (show r = ⟨(Cp.load i s B).1, (Cp.load i s B).2.1, (Cp.load i s B).2.2, nx, br⟩ by rw [HR.out, k2]; rfl)
    have HOP := Lib.hid (HKN.out.2.1 k2)
    clear k1 k2
    go_wp2_with fail
    refine (load_any x sb b O i nx br s B w1 ea HE1.out HX1.out HS1.out HB1.out HG.out HI.out HOP.out hn hxs hOx hOs _ (Lib.hid rfl)).mono ?_
    intro e w2 h
    have HD := Lib.hid (DoOk.of_mem HK1.out HX1.out hxs hOx h)
    rw [← HR2.out] at HD
    obtain rfl := HD.out.e
    clear h c2
    go_wp2_with fail
    go_ret
    exact ⟨rfl, HD.out.st, HD.out.xa, HD.out.k⟩
  have t2 : (ks.toList == [108, 111, 97, 100]) = false := by rw [HTS.out.2.1]; simp [k2]
  by_cases k3 : kx = 3
  · have t3 : (ks.toList == [115, 116, 111, 114, 101]) = true := by rw [HTS.out.2.2.1]; simp [k3]
    have HR2 := Lib.hid (show r = ⟨(Cp.store i s B).1, (Cp.store i s B).2.1, (Cp.store i s B).2.2, nx, br⟩ by rw [HR.out, k3]; rfl)
    have HOP := Lib.hid (HKN.out.2.2.1 k3)
    clear k1 k2 k3
    go_wp2_with fail
    refine (store_any x sb b O i nx br s B w1 ea HE1.out HX1.out HS1.out HB1.out HG.out HI.out HOP.out hl hn hxs hOx hOs _ (Lib.hid rfl)).mono ?_
    intro e w2 h
    have HD := Lib.hid (DoOk.of_mem HK1.out HX1.out hxs hOx h)
    rw [← HR2.out] at HD
    obtain rfl := HD.out.e
    clear h c2
    go_wp2_with fail
    go_ret
    exact ⟨rfl, HD.out.st, HD.out.xa, HD.out.k⟩
  have t3 : (ks.toList == [115, 116, 111, 114, 101]) = false := by rw [HTS.out.2.2.1]; simp [k3]
  by_cases k4 : kx = 4
  · have t4 : (ks.toList == [116, 114, 97, 112]) = true := by rw [HTS.out.2.2.2]; simp [k4]
    have HR2 := Lib.hid (show r = ⟨(Cp.trap i s).1, (Cp.trap i s).2, B, nx, br⟩ by rw [HR.out, k4]; rfl)
    have HOP := Lib.hid (HKN.out.2.2.2.1 k4)
    clear k1 k2 k3 k4
    go_wp2_with fail
    refine (trap_any x sb b i nx br s w1 HX1.out HS1.out HG.out HI.out HOP.out hxs _ (Lib.hid rfl)).mono ?_
    intro e w2 h
    have HD := Lib.hid (DoOk.of_alu HK1.out HX1.out HB1.out hxs hOs h)
    rw [← HR2.out] at HD
    obtain rfl := HD.out.e
    clear h c2
    go_wp2_with fail
    go_ret
    exact ⟨rfl, HD.out.st, HD.out.xa, HD.out.k⟩
  have t4 : (ks.toList == [116, 114, 97, 112]) = false := by rw [HTS.out.2.2.2]; simp [k4]
  obtain ⟨z0, hop2⟩ := HKN.out.2.2.2.2 k1 k2 k3 k4
  have HF2 := HF.out z0
  have HR2 : r = if 35 ≤ i.op ∧ i.op ≤ 42 then ⟨(Cp.atOnce i s).1, (Cp.atOnce i s).2, B, nx, br⟩ else ⟨(Cp.sum i s).1, (Cp.sum i s).2, B, nx, br⟩ := by rw [HR.out, z0]; rfl
  clear k1 k2 k3 k4 z0
  go_wp2_with fail
  refine (Fields_any i.op hop _).mono ?_
  rintro e w2 ⟨rfl, hk2⟩
  have HS2 := Lib.hid (HS1.out.keep hk2 (fun h => h))
  have HX2 := Lib.hid (HX1.out.keep hk2 (fun h => h))
  have HB2 := Lib.hid (HB1.out.keep hk2 (fun _ _ h => h))
  have HK2 := Lib.hid (HK1.out.trans hk2 (fun _ _ h => h))
  clear c2 hk2 t1 t2 t3 t4
  have c2 := HX2.out.cells.2.2.1
  generalize (⟨(Cd.row i.op).fields.toArray⟩ : ByteArray) = fs at *
  have fin : ∀ q : Int × Cp.St, r = ⟨q.1, q.2, B, nx, br⟩ → ∀ (e : Ending) (w' : World), AluOk w2 w' sb q e → DoOk w w' x sb b O i r e := fun q hq e w' h => by
    rw [hq]
    exact DoOk.of_alu HK2.out HX2.out HB2.out hxs hOs h
  have FIN := Lib.hid fin
  clear fin
  by_cases h35 : 35 ≤ i.op ∧ i.op ≤ 42
  · rw [if_pos h35] at HR2
    rw [decide_eq_true h35] at HF2
    have HRR := Lib.hid HR2
    have H35 := Lib.hid h35
    clear HR2 h35 hop2
    have end_ : ∀ K : Prop, K → K := fun _ h => h
    cases hf : (fs.toList == [83, 84, 105])
    · have h42 : i.op = 42 := by rw [hf] at HF2; simpa using HF2
      have t42 : ((i.op : Int) == 42) = true := by rw [h42]; rfl
      clear h42 HF2
      go_wp2_with fail
      refine (atOnce_any x sb b i nx br s w2 HX2.out HS2.out HG.out HI.out H35.out hxs _ (Lib.hid rfl)).mono ?_
      intro e w3 h
      have HD := Lib.hid (FIN.out _ HRR.out _ _ h)
      obtain rfl := h.e
      clear h c2
      go_wp2_with fail
      go_ret
      exact ⟨HD.out.e, HD.out.st, HD.out.xa, HD.out.k⟩
    · clear HF2
      go_wp2_with fail
      refine (atOnce_any x sb b i nx br s w2 HX2.out HS2.out HG.out HI.out H35.out hxs _ (Lib.hid rfl)).mono ?_
      intro e w3 h
      have HD := Lib.hid (FIN.out _ HRR.out _ _ h)
      obtain rfl := h.e
      clear h c2
      go_wp2_with fail
      go_ret
      exact ⟨HD.out.e, HD.out.st, HD.out.xa, HD.out.k⟩
  · rw [if_neg h35] at HR2
    rw [decide_eq_false h35] at HF2
    have HRR := Lib.hid HR2
    have HOP := Lib.hid (show (1 ≤ i.op ∧ i.op ≤ 6) ∨ (11 ≤ i.op ∧ i.op ≤ 28) by omega)
    have hf : (fs.toList == [83, 84, 105]) = false := by
      cases hh : (fs.toList == [83, 84, 105])
      · rfl
      · rw [hh] at HF2; simp at HF2
    have t42 : ((i.op : Int) == 42) = false := by
      have : ¬ i.op = 42 := by omega
      simp; omega
    clear HR2 h35 hop2 HF2
    go_wp2_with fail
    refine (sum_all x sb b i nx br s w2 HX2.out HS2.out HG.out HI.out HOP.out hxs _ (Lib.hid rfl)).mono ?_
    intro e w3 h
    have HD := Lib.hid (FIN.out _ HRR.out _ _ h)
    obtain rfl := h.e
    clear h c2
    go_wp2_with fail
    go_ret
    exact ⟨HD.out.e, HD.out.st, HD.out.xa, HD.out.k⟩
end Go.Proofs.YtlbdkcnbgdmpaaaGreatDoor

/- Rdo -/
/- The reference's processor: the walk of do. -/
namespace Go.Proofs.YtlbdkcnbgdmpaaaGreatDoor
open Go.RowKit Go.Deep
set_option linter.unusedVariables false

/-- where a branch of the reference goes (-1: nowhere) -/
def goTo (i : Cd.Ins) (s : Cp.St) : Int := if Cd.kd i.op = 1 ∧ s.slot = false then (Cp.to i s).getD (-1) else -1
/-- what do of the reference leaves -/
structure RdOk (w w' : World) (sb b : Nat) (O : Nat → Prop) (t : Int) (r : Int × Cp.St × Sb) (e : Ending) : Prop where
  e : e = .returned (.tuple #[.int .i64 t, .int .i64 r.1])
  st : ∃ s', StAt w' sb s' ∧ Cp.Ends (r.1, r.2.1) s'
  k : ∃ O', RInv b O' w' r.2.2 ∧ Grew O O' w ∧ Keeps (fun k => k = sb ∨ O k) w w'
theorem RdOk.of_sum {w wc w' : World} {sb b : Nat} {O : Nat → Prop} {B : Sb} {r : Int × Cp.St} {e : Ending} (hk : Keeps (· = sb) w wc) (hB : RInv b O wc B) (hOs : ¬ O sb) (h : RfOk wc w' sb r e) :
    ∃ s', StAt w' sb s' ∧ Cp.Ends r s' ∧ ∃ O', RInv b O' w' B ∧ Grew O O' w ∧ Keeps (fun k => k = sb ∨ O k) w w' := by
  obtain ⟨s', h1, h2⟩ := h.st
  exact ⟨s', h1, h2, O, hB.keep h.k (fun k hk e => hOs (e ▸ hk)), Grew.refl _ _, (hk.trans h.k (fun _ _ h => h)).mono (fun _ _ h => .inl h)⟩
theorem RdOk.of_mem {w wc w' : World} {sb b : Nat} {O : Nat → Prop} {r : Int × Cp.St × Sb} {e : Ending} (hk : Keeps (· = sb) w wc) (h : RmOk wc w' sb b O r e) :
    ∃ s', StAt w' sb s' ∧ Cp.Ends (r.1, r.2.1) s' ∧ ∃ O', RInv b O' w' r.2.2 ∧ Grew O O' w ∧ Keeps (fun k => k = sb ∨ O k) w w' := by
  obtain ⟨s', h1, h2⟩ := h.st
  obtain ⟨O', h3, h4, h5⟩ := h.k
  exact ⟨s', h1, h2, O', h3, h4.low hk.size, (hk.mono (T := fun k => k = sb ∨ O k) (fun _ _ h => .inl h)).trans h5 (fun _ _ h => h)⟩
set_option maxRecDepth 100000 in
set_option maxHeartbeats 4000000 in
theorem rdo_any (sb b : Nat) (O : Nat → Prop) (i : Cd.Ins) (s : Cp.St) (B : Sb) (w : World) (hS : StAt w sb s) (hB : RInv b O w B) (hs : Cp.Rng s) (hi : Cd.Ok i) (hl : B.l.length < 1000000) (hn : B.tn < 1000000) (hOs : ¬ O sb) (h0 : s.R 0 = 0) (hne : i.op ≠ 45)
    (nx : Int) (t : Int) (ht : Hid (t = goTo i s)) (r : Int × Cp.St × Sb) (hr : Hid (r = ((Cp.doIt i s B nx false).e, (Cp.doIt i s B nx false).s, (Cp.doIt i s B nx false).b))) :
    Calls Tryz.prog 62 #[.pointer (some ⟨sb, 0, none⟩), .pointer (some ⟨b, 0, none⟩), .agg (insC i)] w fun e w' => RdOk w w' sb b O t r e := by
  have hop : i.op < 54 := hi.op
  have HO := Lib.hid (ref_open hS i)
  have HB := Lib.hid hB
  have HG := Lib.hid hs
  have HI := Lib.hid hi
  have HZ := Lib.hid h0
  have HNE := Lib.hid hne
  have hOx : ¬ O w.heap.size := fun h => Nat.lt_irrefl _ (hB.lt _ h)
  have HKN := Lib.hid (kinds i.op hop)
  have HTS := Lib.hid (kd_test2 (Cd.kd i.op) (kd_lt6' i.op hop))
  have HKO := Lib.hid (fun w => kindOf_any i.op hop w)
  have HR : Hid (r = match Cd.kd i.op with
    | 1 => ((Cp.branch i s nx false).1, (Cp.branch i s nx false).2.1, B)
    | 2 => Cp.load i s B
    | 3 => Cp.store i s B
    | 4 => ((Cp.trap i s).1, (Cp.trap i s).2, B)
    | _ => if 35 ≤ i.op ∧ i.op ≤ 42 then ((Cp.atOnce i s).1, (Cp.atOnce i s).2, B) else ((Cp.sum i s).1, (Cp.sum i s).2, B)) := by
    refine Lib.hid ?_
    rw [hr.out]
    unfold Cp.doIt
    generalize Cd.kd i.op = k
    rcases k with _ | _ | _ | _ | _ | k
    · simp only
      split <;> rfl
    · rfl
    · rfl
    · rfl
    · rfl
    · simp only
      split <;> rfl
  clear hS hB hs hi hr h0 hne
  unfold insC
  go_enter Tryz.func62, Tryz.ntmps62
  go_upto_region 1 with fail
  obtain ⟨hS1, hI1, hk1⟩ := HO.out
  generalize w.alloc _ = w1 at *
  generalize w.heap.size = x at *
  have HS1 := Lib.hid hS1
  have HI1 := Lib.hid hI1
  have HK1 := Lib.hid hk1
  obtain ⟨i0, i1, i2, i3, i4⟩ := hI1.cells
  clear hS1 hI1 hk1 HO
  go_wp2_with fail
  refine (HKO.out _).mono ?_
  rintro e w2 ⟨rfl, hk2⟩
  have hI2 := HI1.out.keep hk2 (fun h => h)
  have hK2 := HK1.out.trans hk2 (fun _ _ h => h.elim)
  have HS2 := Lib.hid (HS1.out.keep hk2 (fun h => h))
  have HB2 := Lib.hid (HB.out.keep hK2 (fun k hk e => hOs (e ▸ hk)))
  have HK2 := Lib.hid hK2
  clear i0 i1 i2 i3 i4 hk2 HS1 HI1 HK1 HKO hK2
  obtain ⟨i0, i1, i2, i3, i4⟩ := hI2.cells
  clear hI2
  have HT : Hid (t = if Cd.kd i.op = 1 ∧ s.slot = false then (Cp.to i s).getD (-1) else -1) := ht
  clear ht
  generalize hkk : Cd.kd i.op = kx at *
  generalize (⟨(Cd.kindS kx).toArray⟩ : ByteArray) = ks at *
  have HKK := Lib.hid hkk
  clear hkk
  by_cases k1 : kx = 1
  · have t1 : (ks.toList == [98, 114, 97, 110, 99, 104]) = true := by rw [HTS.out.1]; simp [k1]
    have HOP := Lib.hid (HKN.out.1 k1)
    cases hsl : s.slot
    · have HR2 := Lib.hid (show r = (-1, Cp.link i s, B) by rw [HR.out, k1]; unfold Cp.branch; rw [hsl]; rfl)
      have HT2 := Lib.hid (show t = (Cp.to i s).getD (-1) by rw [HT.out, if_pos ⟨k1, hsl⟩])
      have HSL := Lib.hid hsl
      clear k1 hsl
      go_wp2_with fail
      refine (rbranch_any sb i s w2 HS2.out HG.out HI.out HZ.out HOP.out HSL.out).mono ?_
      intro e w3 h
      have HD := Lib.hid (RdOk.of_sum HK2.out HB2.out hOs ⟨rfl, h.st, h.k⟩)
      obtain rfl := h.e
      clear h i0 i1 i2 i3 i4
      go_wp2_with fail
      go_ret2
      obtain ⟨s', h1, h2, h3⟩ := HD.out
      rw [HR2.out, HT2.out]
      exact ⟨rfl, ⟨s', h1, h2⟩, h3⟩
    · have HR2 := Lib.hid (show r = (10, s, B) by rw [HR.out, k1]; unfold Cp.branch; rw [hsl]; rfl)
      have HT2 := Lib.hid (show t = -1 by rw [HT.out, if_neg (by rw [hsl]; simp)])
      have HSL := Lib.hid hsl
      clear k1 hsl
      go_wp2_with fail
      refine (rbr_slot sb i s w2 HS2.out HSL.out).mono ?_
      intro e w3 h
      have HD := Lib.hid (RdOk.of_sum HK2.out HB2.out hOs ⟨rfl, h.st, h.k⟩)
      obtain rfl := h.e
      clear h i0 i1 i2 i3 i4
      go_wp2_with fail
      go_ret2
      obtain ⟨s', h1, h2, h3⟩ := HD.out
      rw [HR2.out, HT2.out]
      exact ⟨rfl, ⟨s', h1, h2⟩, h3⟩
  have t1 : (ks.toList == [98, 114, 97, 110, 99, 104]) = false := by rw [HTS.out.1]; simp [k1]
  have HT2 := Lib.hid (show t = -1 by rw [HT.out, if_neg (fun h => k1 h.1)])
  by_cases k2 : kx = 2
  · have t2 : (ks.toList == [108, 111, 97, 100]) = true := by rw [HTS.out.2.1]; simp [k2]
    have HR2 := Lib.hid (show r = Cp.load i s B by rw [HR.out, k2]; rfl)
    have HOP := Lib.hid (HKN.out.2.1 k2)
    clear k1 k2
    go_wp2_with fail
    refine (rload_any sb b O i s B w2 HS2.out HB2.out HG.out HI.out HOP.out hn hOs HZ.out _ (Lib.hid rfl)).mono ?_
    intro e w3 h
    have HD := Lib.hid (RdOk.of_mem HK2.out h)
    rw [← HR2.out] at HD
    obtain rfl := h.e
    clear h i0 i1 i2 i3 i4
    go_wp2_with fail
    go_ret2
    obtain ⟨s', h1, h2, h3⟩ := HD.out
    rw [HT2.out, ← HR2.out]
    exact ⟨rfl, ⟨s', h1, h2⟩, h3⟩
  have t2 : (ks.toList == [108, 111, 97, 100]) = false := by rw [HTS.out.2.1]; simp [k2]
  by_cases k3 : kx = 3
  · have t3 : (ks.toList == [115, 116, 111, 114, 101]) = true := by rw [HTS.out.2.2.1]; simp [k3]
    have HR2 := Lib.hid (show r = Cp.store i s B by rw [HR.out, k3]; rfl)
    have HOP := Lib.hid (HKN.out.2.2.1 k3)
    clear k1 k2 k3
    go_wp2_with fail
    refine (rstore_any sb b O i s B w2 HS2.out HB2.out HG.out HI.out HOP.out hl hn hOs HZ.out _ (Lib.hid rfl)).mono ?_
    intro e w3 h
    have HD := Lib.hid (RdOk.of_mem HK2.out h)
    rw [← HR2.out] at HD
    obtain rfl := h.e
    clear h i0 i1 i2 i3 i4
    go_wp2_with fail
    go_ret2
    obtain ⟨s', h1, h2, h3⟩ := HD.out
    rw [HT2.out, ← HR2.out]
    exact ⟨rfl, ⟨s', h1, h2⟩, h3⟩
  have t3 : (ks.toList == [115, 116, 111, 114, 101]) = false := by rw [HTS.out.2.2.1]; simp [k3]
  by_cases k4 : kx = 4
  · have t4 : (ks.toList == [116, 114, 97, 112]) = true := by rw [HTS.out.2.2.2]; simp [k4]
    have HR2 := Lib.hid (show r = ((Cp.trap i s).1, (Cp.trap i s).2, B) by rw [HR.out, k4]; rfl)
    have HOP := Lib.hid (HKN.out.2.2.2.1 k4)
    clear k1 k2 k3 k4
    go_wp2_with fail
    refine (rtrap_any sb i s w2 HS2.out HG.out HI.out HZ.out (by have := HOP.out; have := HNE.out; omega) _ (Lib.hid rfl)).mono ?_
    intro e w3 h
    have HD := Lib.hid (RdOk.of_sum HK2.out HB2.out hOs h)
    obtain rfl := h.e
    clear h i0 i1 i2 i3 i4
    go_wp2_with fail
    go_ret2
    obtain ⟨s', h1, h2, h3⟩ := HD.out
    rw [HT2.out, HR2.out]
    exact ⟨rfl, ⟨s', h1, h2⟩, h3⟩
  have t4 : (ks.toList == [116, 114, 97, 112]) = false := by rw [HTS.out.2.2.2]; simp [k4]
  obtain ⟨hk0, hops⟩ := HKN.out.2.2.2.2 k1 k2 k3 k4
  by_cases hat : 35 ≤ i.op ∧ i.op ≤ 42
  · have HR2 := Lib.hid (show r = ((Cp.atOnce i s).1, (Cp.atOnce i s).2, B) by rw [HR.out, hk0]; exact if_pos hat)
    have HAT := Lib.hid hat
    clear k1 k2 k3 k4 hk0 hops hat
    go_wp2_with fail
    refine (rsum_imm sb i s w2 HS2.out HG.out HI.out HZ.out HAT.out).mono ?_
    intro e w3 h
    have HD := Lib.hid (RdOk.of_sum HK2.out HB2.out hOs h)
    obtain rfl := h.e
    clear h i0 i1 i2 i3 i4
    go_wp2_with fail
    go_ret2
    obtain ⟨s', h1, h2, h3⟩ := HD.out
    rw [HT2.out, HR2.out]
    exact ⟨rfl, ⟨s', h1, h2⟩, h3⟩
  · have HR2 := Lib.hid (show r = ((Cp.sum i s).1, (Cp.sum i s).2, B) by rw [HR.out, hk0]; exact if_neg hat)
    have HAT := Lib.hid (show (1 ≤ i.op ∧ i.op ≤ 6) ∨ (11 ≤ i.op ∧ i.op ≤ 28) by omega)
    clear k1 k2 k3 k4 hk0 hops hat
    go_wp2_with fail
    refine (rsum_reg sb i s w2 HS2.out HG.out HI.out HZ.out HAT.out).mono ?_
    intro e w3 h
    have HD := Lib.hid (RdOk.of_sum HK2.out HB2.out hOs h)
    obtain rfl := h.e
    clear h i0 i1 i2 i3 i4
    go_wp2_with fail
    go_ret2
    obtain ⟨s', h1, h2, h3⟩ := HD.out
    rw [HT2.out, HR2.out]
    exact ⟨rfl, ⟨s', h1, h2⟩, h3⟩
end Go.Proofs.YtlbdkcnbgdmpaaaGreatDoor

/- Rins -/
/- The reference's processor: the walk of OneIns. -/
namespace Go.Proofs.YtlbdkcnbgdmpaaaGreatDoor
open Go.RowKit Go.Deep
set_option linter.unusedVariables false

namespace Cp
theorem next_setR (s : St) (n v : Int) : (setR s n v).next = s.next := by
  unfold setR
  split <;> rfl
theorem next_link (i : Cd.Ins) (s : St) : (link i s).next = s.next := by
  unfold link
  split
  · exact next_setR s _ _
  · exact next_setR s _ _
  · rfl
theorem next_sum (i : Cd.Ins) (s : St) : (sum i s).2.next = s.next := by
  unfold sum sumAt
  split
  · exact next_setR s _ _
  · rfl
  · exact next_setR s _ _
  · rfl
  · rfl
  · rfl
  · simp only; split <;> rfl
  · simp only; split <;> rfl
  · split
    · rfl
    · exact next_setR s _ _
theorem next_atOnce (i : Cd.Ins) (s : St) : (atOnce i s).2.next = s.next := by
  unfold atOnce
  split
  · rfl
  · exact next_setR s _ _
theorem next_load (i : Cd.Ins) (s : St) (B : Sb) : (load i s B).2.1.next = s.next := by
  unfold load
  split
  · rfl
  · exact next_setR s _ _
theorem next_store (i : Cd.Ins) (s : St) (B : Sb) : (store i s B).2.1.next = s.next := by
  unfold store
  split <;> rfl
theorem next_trap (i : Cd.Ins) (s : St) (h : i.op ≠ 45) : (trap i s).2.next = s.next := by
  unfold trap
  split
  · rfl
  · rfl
  · unfold from_
    repeat' split
    all_goals first | exact next_setR s _ _ | rfl
  · unfold to_
    repeat' split
    all_goals rfl
  · rename_i h2
    exact absurd h2 h
  · rfl
theorem next_do (i : Cd.Ins) (s : St) (B : Sb) (nx : Int) (h : i.op ≠ 45) : (doIt i s B nx false).s.next = s.next := by
  unfold doIt
  split
  · simp only
    unfold branch
    split
    · rfl
    · exact next_link i s
  · exact next_load i s B
  · exact next_store i s B
  · exact next_trap i s h
  · split
    · exact next_atOnce i s
    · exact next_sum i s
theorem nx_do (i : Cd.Ins) (s : St) (B : Sb) (nx : Int) (hs : Rng s) (hi : Cd.Ok i) : (doIt i s B nx false).nx = if goTo i s < 0 then nx else goTo i s := by
  have key : ∀ o, Cp.to i s = some o → 0 ≤ o := fun o ho => by
    have := W_to i s hs hi 0 W_0
    rw [ho] at this
    exact this.1
  unfold goTo
  by_cases hk : Cd.kd i.op = 1
  · unfold doIt
    rw [hk]
    simp only
    unfold branch
    cases hsl : s.slot
    · simp only [Bool.false_eq_true, if_false, and_self, if_true]
      cases hto : Cp.to i s with
      | none => rfl
      | some o =>
        have := key o hto
        show o = if o < 0 then nx else o
        rw [if_neg (by omega)]
    · simp
  · have hg : (if Cd.kd i.op = 1 ∧ s.slot = false then (Cp.to i s).getD (-1) else -1) = -1 := if_neg (fun h => hk h.1)
    rw [hg, if_pos (by decide)]
    unfold doIt
    split
    · rename_i h; exact absurd h hk
    · rfl
    · rfl
    · rfl
    · split <;> rfl
theorem br_do (i : Cd.Ins) (s : St) (B : Sb) (nx : Int) (he : (doIt i s B nx false).e = -1) : (doIt i s B nx false).br = decide (Cd.kd i.op = 1) := by
  by_cases hk : Cd.kd i.op = 1
  · rw [decide_eq_true hk]
    unfold doIt at he ⊢
    rw [hk] at he ⊢
    simp only at he ⊢
    unfold branch at he ⊢
    cases hsl : s.slot
    · simp
    · rw [hsl] at he
      simp at he
  · rw [decide_eq_false hk]
    unfold doIt
    split
    · rename_i h; exact absurd h hk
    · rfl
    · rfl
    · rfl
    · split <;> rfl
theorem goTo_W (i : Cd.Ins) (s : St) (hs : Rng s) (hi : Cd.Ok i) : goTo i s = -1 ∨ W (goTo i s) := by
  unfold goTo
  split
  · cases hto : Cp.to i s with
    | none => exact .inl rfl
    | some o =>
      right
      have := W_to i s hs hi 0 W_0
      rw [hto] at this
      exact this
  · exact .inl rfl
theorem ins_not45 (i : Cd.Ins) (s : St) (B : Sb) (h : i.op ≠ 45) (hs : Rng s) (hi : Cd.Ok i) : ins i s B =
    ((doIt i s B (u (s.next + 4)) false).e, if (doIt i s B (u (s.next + 4)) false).e = -1 then { (doIt i s B (u (s.next + 4)) false).s with pc := s.next, next := if goTo i s < 0 then u (s.next + 4) else goTo i s, slot := decide (Cd.kd i.op = 1) } else (doIt i s B (u (s.next + 4)) false).s, (doIt i s B (u (s.next + 4)) false).b) := by
  have h1 := next_do i s B (u (s.next + 4)) h
  have h2 := nx_do i s B (u (s.next + 4)) hs hi
  have h3 := br_do i s B (u (s.next + 4))
  unfold ins
  simp only
  generalize doIt i s B (u (s.next + 4)) false = o at *
  by_cases he : o.e = -1
  · rw [if_pos ⟨he, h⟩, if_pos he, h1, h2, h3 he]
  · rw [if_neg (fun g => he g.1), if_neg he]
theorem ins_45 (i : Cd.Ins) (s : St) (B : Sb) (h : i.op = 45) : ins i s B = if s.status / 2 % 2 = 0 ∨ s.slot = true then (10, s, B) else (-1, { s with pc := s.epc, next := u (s.epc + 4), status := s.status - 2 }, B) := by
  obtain ⟨op, S, T, D, imm⟩ := i
  subst h
  have hd : ∀ nx, doIt ⟨45, S, T, D, imm⟩ s B nx false = ⟨(trap ⟨45, S, T, D, imm⟩ s).1, (trap ⟨45, S, T, D, imm⟩ s).2, B, nx, false⟩ := fun nx => rfl
  unfold ins
  simp only
  rw [hd, if_neg (fun h => h.2 rfl)]
  unfold trap
  simp only
  split <;> rfl
end Cp
/-- what OneIns, one and Step of the reference leave -/
structure RsOk (w w' : World) (sb b : Nat) (O : Nat → Prop) (r : Int × Cp.St × Sb) (e : Ending) : Prop where
  e : e = .returned (.int .i64 r.1)
  st : StAt w' sb r.2.1
  k : ∃ O', RInv b O' w' r.2.2 ∧ Grew O O' w ∧ Keeps (fun k => k = sb ∨ O k) w w'
end Go.Proofs.YtlbdkcnbgdmpaaaGreatDoor
