import Derived.Test.YtlbdkcnbgdmpaaaGreatDoorOnez22
import Derived.Deep.RegionHeld3
import Derived.Test.YtlbdkcnbgdmpaaaGreatDoorOnez21
import Derived.BigFrame
import Derived.Test.YtlbdkcnbgdmpaaaGreatDoorOnez7
import Derived.ChangeShapes
import Derived.Test.YtlbdkcnbgdmpaaaGreatDoorOnez0
import Derived.ProofKit
import Derived.OpenShut

/- AsBusWalk -/
/- The walk of asBus over a bus and the reference's bus that hold the same. -/
namespace Go.Proofs.YtlbdkcnbgdmpaaaGreatDoor
open Go.RowKit Go.Deep
set_option linter.unusedVariables false

section
variable {b r pb pw ph cp q wb tb hb rb : Nat} {ov tv tv' : Value} {O O' : Nat → Prop} {w : World} {s : Sb}
theorem output_at (wc : World) (h : BIn b r pb pw ph cp ov tv O w s) (hk : Keeps (fun _ => False) w wc) :
    Calls Tryz.prog 26 #[.pointer (some ⟨b, 0, none⟩)] wc fun e w' => e = .returned (.string ⟨s.l.toArray⟩) ∧ wc = w' :=
  output_any b r ov _ s.l s.lamp tv s.tn s.tr wc (h.keep hk (fun _ _ h => h)).bus
theorem lamp_at (wc : World) (h : BIn b r pb pw ph cp ov tv O w s) (hk : Keeps (fun _ => False) w wc) :
    Calls Tryz.prog 27 #[.pointer (some ⟨b, 0, none⟩)] wc fun e w' => e = .returned (.int .u32 s.lamp) ∧ wc = w' :=
  lamp_any b r ov _ _ s.lamp tv s.tn s.tr wc (h.keep hk (fun _ _ h => h)).bus
theorem ramOf_at (wc : World) (h : BIn b r pb pw ph cp ov tv O w s) (hk : Keeps (fun _ => False) w wc) :
    Calls Tryz.prog 8 #[.pointer (some ⟨b, 0, none⟩)] wc fun e w' => e = .returned (.pointer (some ⟨r, 0, none⟩)) ∧ wc = w' :=
  ramOf_any b r wc (by simp [World.cell?, (h.keep hk (fun _ _ h => h)).bus.box])
theorem trace_at (wc : World) (h : BIn b r pb pw ph cp ov tv O w s) (hk : Keeps (fun _ => False) w wc) (hn : s.tn < 1000000) :
    Calls Tryz.prog 29 #[.pointer (some ⟨b, 0, none⟩)] wc fun e w' => ∃ A cap, e = .returned (.slice A s.tn cap) ∧ TrAt w' A s.tn cap s.tr ∧ Keeps (fun _ => False) wc w' :=
  (trace_any b r ov _ _ s.lamp tv s.tn s.tr wc (h.keep hk (fun _ _ h => h)).bus hn h.acc.one).mono fun e w' ⟨v', he, ho, hk⟩ => by
    obtain ⟨A, cap, rfl, hT⟩ := TrAt.of_owns ho
    exact ⟨A, cap, he, hT, hk⟩
theorem words_at (wc : World) (h : BIn b r pb pw ph cp ov tv O w s) (hk : Keeps (fun _ => False) w wc) :
    Calls Tryz.prog 31 #[.pointer (some ⟨r, 0, none⟩)] wc fun e w' => ∃ g, e = .returned (.slice (some ⟨g, 0, none⟩) 4096 4096) ∧ w'.rowIs g 22 4096 (fun k => .int .u32 (be s.m (4 * k) 4)) ∧ Keeps (fun _ => False) wc w' :=
  (words_any r pb pw ph _ s.m wc (h.keep hk (fun _ _ h => h)).ram).mono fun e w' ⟨he, hr, hk⟩ => ⟨_, he, hr, hk⟩
theorem sameTrace_at (A B : Option Addr) (n ca cb : Nat) (tr : List Value) (wt wc : World) (h1 : TrAt wt A n ca tr) (h2 : TrAt w B n cb tr) (hacc : AccRow tr n) (hn : n < 1000000) (hk : Keeps (fun _ => False) w wc) (hk1 : Keeps (fun _ => False) wt wc) :
    Calls Tryz.prog 28 #[.slice A n ca, .slice B n cb] wc fun e w' => e = .returned (.bool true) ∧ Keeps (fun _ => False) wc w' :=
  sameTrace_same A B n ca cb tr wc (h1.keep hk1) (h2.keep hk) hacc hn
theorem alike_at (a wb : Nat) (m : Nat → Int) (wx wc : World) (hr : wx.rowIs a 22 4096 (fun i => .int .u32 (be m (4 * i) 4))) (hw : RowTo w wb 22 4096 (fun i => .int .u32 (be m (4 * i) 4))) (hk : Keeps (fun _ => False) w wc) (hk1 : Keeps (fun _ => False) wx wc) :
    Calls Tryz.prog 30 #[.slice (some ⟨a, 0, none⟩) 4096 4096, .slice (some ⟨wb, 0, none⟩) 4096 4096] wc fun e w' => e = .returned (.int .i64 1) ∧ Keeps (fun _ => False) wc w' :=
  alike_ram a wb m w wc (hk1.row hr (fun h => h)) hw hk
end

set_option maxRecDepth 100000 in
set_option maxHeartbeats 4000000 in
theorem asBus_any (b rb : Nat) (O O' : Nat → Prop) (s : Sb) (w : World) (hB : BInv b O w s) (hR : RInv rb O' w s) (hn : s.tn < 1000000) :
    Calls Tryz.prog 13 #[.pointer (some ⟨b, 0, none⟩), .pointer (some ⟨rb, 0, none⟩)] w fun e w' => e = .returned (.bool true) ∧ Keeps (fun _ => False) w w' := by
  obtain ⟨r, pb, pw, ph, cp, ov, tv, hB⟩ := hB
  obtain ⟨q, wb, tb, hb, tv2, hR⟩ := hR
  obtain ⟨A2, cap2, rfl, hT2⟩ := TrAt.of_owns hR.bus.tr
  obtain ⟨c0, c1, c2, c3, c4⟩ := hR.cells
  have HB := Lib.hid hB
  have HT := Lib.hid hT2
  have HW := Lib.hid hR.ram.raw.words
  have HA := Lib.hid hB.acc
  clear hB hR hT2
  go_enter Tryz.func13, Tryz.ntmps13
  go_wp2_with fail
  go_region_held3 (fun w' => Keeps (fun _ => False) w w' ∧ w'.cell? ⟨rb, 0, none⟩ = some (.pointer (some ⟨q, 0, none⟩)) ∧ w'.cell? ⟨rb, 1, none⟩ = some (.string ⟨s.l.toArray⟩) ∧ w'.cell? ⟨rb, 2, none⟩ = some (.int .u32 s.lamp) ∧ w'.cell? ⟨rb, 3, none⟩ = some (.slice A2 s.tn cap2) ∧ w'.cell? ⟨q, 0, none⟩ = some (.slice (some ⟨wb, 0, none⟩) 4096 4096))
    (first | (refine ⟨?_, ?_, ?_, ?_, ?_, ?_⟩ <;> first | ((repeat (first | exact Keeps.refl _ _ | assumption | apply Keeps.drew | apply Keeps.drewN | apply Keeps.alloc | (refine Keeps.trans ?_ (by assumption) (fun _ _ h => h)))); done) | (refine Keeps.cell' (S := fun _ => False) (w := w) ?_ (by assumption) (fun f => f); (repeat (first | exact Keeps.refl _ _ | assumption | apply Keeps.drew | apply Keeps.drewN | apply Keeps.alloc | (refine Keeps.trans ?_ (by assumption) (fun _ _ h => h)))); done)) | (trace_state; fail))
    (first
      | (go_at_call 26; refine (output_at _ HB.out ?_).mono ?_; (repeat (first | exact Keeps.refl _ _ | assumption | apply Keeps.drew | apply Keeps.drewN | apply Keeps.alloc | (refine Keeps.trans ?_ (by assumption) (fun _ _ h => h)))); rintro e w' ⟨rfl, rfl⟩)
      | (go_at_call 27; refine (lamp_at _ HB.out ?_).mono ?_; (repeat (first | exact Keeps.refl _ _ | assumption | apply Keeps.drew | apply Keeps.drewN | apply Keeps.alloc | (refine Keeps.trans ?_ (by assumption) (fun _ _ h => h)))); rintro e w' ⟨rfl, rfl⟩)
      | (go_at_call 29; refine (trace_at _ HB.out ?_ hn).mono ?_; (repeat (first | exact Keeps.refl _ _ | assumption | apply Keeps.drew | apply Keeps.drewN | apply Keeps.alloc | (refine Keeps.trans ?_ (by assumption) (fun _ _ h => h)))); rintro e wt ⟨A1, cap1, rfl, hT1, hkt⟩)
      | (go_at_call 28; refine (sameTrace_at A1 A2 s.tn cap1 cap2 s.tr wt _ hT1 HT.out HA.out hn ?_ ?_).mono ?_; (repeat (first | exact Keeps.refl _ _ | assumption | apply Keeps.drew | apply Keeps.drewN | apply Keeps.alloc | (refine Keeps.trans ?_ (by assumption) (fun _ _ h => h)))); (repeat (first | exact Keeps.refl _ _ | assumption | apply Keeps.drew | apply Keeps.drewN | apply Keeps.alloc | (refine Keeps.trans ?_ (by assumption) (fun _ _ h => h)))); rintro e ws ⟨rfl, hks⟩)
      | (go_at_call 8; refine (ramOf_at _ HB.out ?_).mono ?_; (repeat (first | exact Keeps.refl _ _ | assumption | apply Keeps.drew | apply Keeps.drewN | apply Keeps.alloc | (refine Keeps.trans ?_ (by assumption) (fun _ _ h => h)))); rintro e w' ⟨rfl, rfl⟩)
      | (go_at_call 31; refine (words_at _ HB.out ?_).mono ?_; (repeat (first | exact Keeps.refl _ _ | assumption | apply Keeps.drew | apply Keeps.drewN | apply Keeps.alloc | (refine Keeps.trans ?_ (by assumption) (fun _ _ h => h)))); rintro e wx ⟨ga, rfl, hra, hkx⟩)
      | (go_at_call 30; refine (alike_at ga wb s.m wx _ hra HW.out ?_ ?_).mono ?_; (repeat (first | exact Keeps.refl _ _ | assumption | apply Keeps.drew | apply Keeps.drewN | apply Keeps.alloc | (refine Keeps.trans ?_ (by assumption) (fun _ _ h => h)))); (repeat (first | exact Keeps.refl _ _ | assumption | apply Keeps.drew | apply Keeps.drewN | apply Keeps.alloc | (refine Keeps.trans ?_ (by assumption) (fun _ _ h => h)))); rintro e wy ⟨rfl, hky⟩))
  rename_i hh
  have hK := hh.1
  clear hh
  go_wp2
  go_ret
  exact ⟨rfl, hK⟩
end Go.Proofs.YtlbdkcnbgdmpaaaGreatDoor

/- Waits -/
/- The closed fact stepped; the walk of the law CpuWaits. -/
namespace Go.Proofs.YtlbdkcnbgdmpaaaGreatDoor
open Go.RowKit Go.Deep
set_option linter.unusedVariables false

/-- the instruction of stepped -/
def addi7 : Cd.Ins := ⟨36, 0, 1, 0, 7⟩
theorem dec7 : Cd.decOf 604045319 = addi7 := by kernel_rfl
theorem ok7 : Cd.Ok addi7 := dec7 ▸ Cd.ok_dec _
theorem do_addi7 (s : Cp.St) (B : Sb) (nx : Int) : Cp.doIt addi7 s B nx false = ⟨(Cp.atOnce addi7 s).1, (Cp.atOnce addi7 s).2, B, nx, false⟩ := rfl
set_option maxRecDepth 100000 in
set_option maxHeartbeats 2000000 in
theorem do_goes7 (sb b : Nat) (O : Nat → Prop) (s : Cp.St) (B : Sb) (ea : Nat → Addr) (hs : Cp.Rng s) (hOs : ¬ O sb) : DoGoes sb b O s B ea addi7 := by
  intro x w E X hS hB hxs hOx
  have HS := Lib.hid hS
  have HX := Lib.hid X
  have HB := Lib.hid hB
  have HG := Lib.hid hs
  obtain ⟨_, _, c2, _, _, _, _, _, _⟩ := X.cells
  have HT := Lib.hid (show ((⟨(Cd.kindS (Cd.kd 36)).toArray⟩ : ByteArray).toList == [98, 114, 97, 110, 99, 104]) = false ∧ ((⟨(Cd.kindS (Cd.kd 36)).toArray⟩ : ByteArray).toList == [108, 111, 97, 100]) = false ∧ ((⟨(Cd.kindS (Cd.kd 36)).toArray⟩ : ByteArray).toList == [115, 116, 111, 114, 101]) = false ∧ ((⟨(Cd.kindS (Cd.kd 36)).toArray⟩ : ByteArray).toList == [116, 114, 97, 112]) = false by decide +kernel)
  have HF := Lib.hid (show ((⟨(Cd.row 36).fields.toArray⟩ : ByteArray).toList == [83, 84, 105]) = true by decide +kernel)
  clear X hS hB E hs
  go_enter Tryz.func37, Tryz.ntmps37
  go_wp2_with fail
  refine (Kind_any 36 (by omega) _).mono ?_
  rintro e w1 ⟨rfl, hk1⟩
  have HS1 := Lib.hid (HS.out.keep hk1 (fun h => h))
  have HX1 := Lib.hid (HX.out.keep hk1 (fun h => h))
  have HB1 := Lib.hid (HB.out.keep hk1 (fun _ _ h => h))
  have HK1 := Lib.hid hk1
  clear c2 hk1
  have c2 := HX1.out.cells.2.2.1
  obtain ⟨t1, t2, t3, t4⟩ := HT.out
  generalize (⟨(Cd.kindS (Cd.kd 36)).toArray⟩ : ByteArray) = ks at *
  go_wp2_with fail
  refine (Fields_any 36 (by omega) _).mono ?_
  rintro e w2 ⟨rfl, hk2⟩
  have HS2 := Lib.hid (HS1.out.keep hk2 (fun h => h))
  have HX2 := Lib.hid (HX1.out.keep hk2 (fun h => h))
  have HB2 := Lib.hid (HB1.out.keep hk2 (fun _ _ h => h))
  have HK2 := Lib.hid (HK1.out.trans hk2 (fun _ _ h => h))
  clear c2 hk2 t1 t2 t3 t4
  have c2 := HX2.out.cells.2.2.1
  have t5 := HF.out
  generalize (⟨(Cd.row 36).fields.toArray⟩ : ByteArray) = fs at *
  go_wp2_with fail
  refine (atOnce_any x sb b addi7 _ _ s w2 HX2.out HS2.out HG.out ok7 (by decide) hxs _ (Lib.hid rfl)).mono ?_
  intro e w3 h
  have H := Lib.hid h
  obtain rfl := h.e
  clear h c2
  go_wp2_with fail
  go_ret
  rw [do_addi7]
  exact ⟨rfl, H.out.st, HX2.out.keep H.out.k hxs, O, HB2.out.keep H.out.k (fun k hk e => hOs (e ▸ hk)), Grew.refl _ _, Keeps.trans (HK2.out.mono (fun _ _ h => h.elim)) H.out.k (fun k _ h => .inl h)⟩

theorem rng_new (pc : Int) (h : 0 ≤ pc ∧ pc < 4294967296) : Cp.Rng ⟨fun _ => 0, 0, 0, pc, Cp.u (pc + 4), false, 0, 0, 0, 0, 0, 0⟩ :=
  ⟨fun _ _ => Cp.W_0, Cp.W_0, Cp.W_0, h, Cp.W_u _, Cp.W_0, Cp.W_0, Cp.W_0, Cp.W_0, Cp.W_0, ⟨Int.le_refl _, (show (0 : Int) < 4611686018427387904 by decide)⟩⟩
theorem rightC4' (a : Int) (h0 : 0 ≤ a) (h1 : a % 4 = 0) (h2 : a < 16384) : rightC a 4 = 0 := by
  unfold rightC
  rw [if_neg (by omega), if_neg (by omega), if_neg (by omega)]
/-- the state of stepped before and behind -/
def st0 (pc : Int) : Cp.St := ⟨fun _ => 0, 0, 0, pc, Cp.u (pc + 4), false, 0, 0, 0, 0, 0, 0⟩
def bus7 : Sb := s0 (min 1 4096) (fun _ => 604045319)
theorem bus7_word : be bus7.m (0 : Int).toNat 4 = 604045319 := by kernel_rfl
def st7 : Cp.St := { Cp.setR (st0 0) 1 7 with pc := 4, next := 8, slot := false, count := 1 }
theorem ins7 : Cp.ins addi7 (st0 0) bus7 = (-1, { Cp.setR (st0 0) 1 7 with pc := 4, next := 8, slot := false }, bus7) := rfl
set_option maxRecDepth 100000 in
set_option maxHeartbeats 2000000 in
theorem stepped_any (w : World) (ea : Nat → Addr) (E : Errs3 w ea) :
    Calls Tryz.prog 5 #[] w fun e w' => e = .returned (.bool true) ∧ Keeps (fun _ => False) w w' := by
  have HE := Lib.hid E
  clear E
  go_enter Tryz.func5, Tryz.ntmps5
  go_wp2_with fail
  refine (cpuNew_any 0 _ (by omega)).mono ?_
  rintro e w1 ⟨rfl, hS1, hk1⟩
  have HS1 := Lib.hid (show StAt w1 w.heap.size (st0 0) from hS1)
  have HK1 := Lib.hid hk1
  clear hS1 hk1
  have HSL := Lib.hid HS1.out.lt
  go_wp2_with fail
  have ka := (Keeps.refl (fun _ => False) w1).alloc (.cells #[.int .u32 604045319] 22)
  refine (bus_new 1 1 _ _ (fun _ => 604045319) ⟨by omega, .inr ⟨_, _, rfl, by simp, fun i hi => ?_⟩⟩ (by omega) (fun _ _ => by omega)).mono ?_
  · obtain rfl : i = 0 := by omega
    simp [World.cell?_alloc_new]
  rintro e w2 ⟨b, O, rfl, hB, hk2, hO⟩
  have hk12 := ka.trans hk2 (fun _ _ h => h)
  have HS2 := Lib.hid (HS1.out.keep hk12 (fun h => h))
  have HB2 := Lib.hid (show BInv b O w2 bus7 from hB)
  have HK2 := Lib.hid (HK1.out.trans hk12 (fun _ _ h => h))
  have HE2 := Lib.hid (HE.out.keep HK2.out ⟨fun h => h, fun h => h, fun h => h⟩)
  have hs1 : (w1.alloc (.cells #[.int .u32 604045319] 22)).heap.size = w1.heap.size + 1 := by simp
  have hOs : ¬ O w.heap.size := fun h => by have := hO _ h; have := HSL.out; omega
  have hOw : ∀ k, O k → w.heap.size ≤ k := fun k h => by have := hO _ h; have := HSL.out; omega
  have HOW := Lib.hid hOw
  clear hB hk2 hk12 ka hO hs1 hOw
  generalize hsb : w.heap.size = sb at *
  have HSB := Lib.hid hsb
  clear hsb
  have hone := one_ins sb b O (st0 0) bus7 w2 ea HE2.out HS2.out HB2.out (rng_new 0 (by omega)) hOs rfl (rightC4' 0 (by omega) (by omega) (by omega)) 604045319 bus7_word (by omega) addi7 dec7 (do_goes7 sb b O (st0 0) bus7 ea (rng_new 0 (by omega)) hOs) _ (Lib.hid rfl)
  rw [ins7] at hone
  have hrng : Cp.Rng { Cp.setR (st0 0) 1 7 with pc := 4, next := 8, slot := false } := by
    refine ⟨fun k hk => ?_, Cp.W_0, Cp.W_0, (show Cp.W 4 by unfold Cp.W; omega), (show Cp.W 8 by unfold Cp.W; omega), Cp.W_0, Cp.W_0, Cp.W_0, Cp.W_0, Cp.W_0, ⟨Int.le_refl _, (show (0 : Int) < 4611686018427387904 by decide)⟩⟩
    show Cp.W (if k = 1 then 7 else 0)
    unfold Cp.W
    split <;> omega
  have hst := step_any sb b O (st0 0) bus7 w2 (-1, { Cp.setR (st0 0) 1 7 with pc := 4, next := 8, slot := false }, bus7) hrng (.inl rfl) hOs HS2.out.lt hone (-1, st7, bus7) (Lib.hid (by rw [if_pos rfl]; rfl))
  have HST := Lib.hid hst
  clear hst hone hrng
  go_wp2_with fail
  refine HST.out.mono ?_
  intro e w3 h
  obtain rfl := h.e
  have hS3 := h.st
  obtain ⟨_, _, _, hK3⟩ := h.k
  have HK3 := Lib.hid (HK2.out.trans hK3 (fun k hk h => by
    rcases h with h | h
    · have := HSB.out; omega
    · have := HOW.out k h; have := HSB.out; omega))
  obtain ⟨_, _, s34, s35, _, _, _, _, _, _, s42⟩ := hS3.cells
  have r1 := hS3.reg 1 (by omega)
  clear h hS3 hK3
  have r1' : w3.cell? ⟨sb, 1, none⟩ = some (.int .u32 7) := r1
  have s34' : w3.cell? ⟨sb, 34, none⟩ = some (.int .u32 4) := s34
  have s35' : w3.cell? ⟨sb, 35, none⟩ = some (.int .u32 8) := s35
  have s42' : w3.cell? ⟨sb, 42, none⟩ = some (.int .i64 1) := s42
  clear r1 s34 s35 s42
  go_wp2_with fail
  go_ret
  exact ⟨rfl, HK3.out⟩
end Go.Proofs.YtlbdkcnbgdmpaaaGreatDoor

/- Duo -/
/- Two processors side by side: the code's and the reference's. -/
namespace Go.Proofs.YtlbdkcnbgdmpaaaGreatDoor
open Go.RowKit Go.Deep
set_option linter.unusedVariables false

structure Duo (w0 w : World) (x y b rb : Nat) (O O2 : Nat → Prop) (s : Cp.St) (B : Sb) : Prop where
  sx : StAt w x s
  sy : StAt w y s
  bus : BInv b O w B
  ref : RInv rb O2 w B
  dis : ∀ k, (k = x ∨ O k) → ¬ (k = y ∨ O2 k)
  nx : ¬ O x
  ny : ¬ O2 y
  low : ∀ k, ((k = x ∨ O k) ∨ (k = y ∨ O2 k)) → w0.heap.size ≤ k
  keeps : Keeps (fun _ => False) w0 w
theorem Duo.quiet {w0 w w' : World} {x y b rb : Nat} {O O2 : Nat → Prop} {s : Cp.St} {B : Sb} (h : Duo w0 w x y b rb O O2 s B) (k : Keeps (fun _ => False) w w') : Duo w0 w' x y b rb O O2 s B :=
  ⟨h.sx.keep k (fun h => h), h.sy.keep k (fun h => h), h.bus.keep k (fun _ _ h => h), h.ref.keep k (fun _ _ h => h), h.dis, h.nx, h.ny, h.low, h.keeps.trans k (fun _ _ h => h)⟩
/-- the code's side has gone on -/
structure Duo1 (w0 w : World) (x y b rb : Nat) (O O2 : Nat → Prop) (s s' : Cp.St) (B B' : Sb) : Prop where
  sx : StAt w x s'
  sy : StAt w y s
  bus : BInv b O w B'
  ref : RInv rb O2 w B
  dis : ∀ k, (k = x ∨ O k) → ¬ (k = y ∨ O2 k)
  nx : ¬ O x
  ny : ¬ O2 y
  low : ∀ k, ((k = x ∨ O k) ∨ (k = y ∨ O2 k)) → w0.heap.size ≤ k
  keeps : Keeps (fun _ => False) w0 w
theorem Duo.one {w0 w w1 : World} {x y b rb : Nat} {O O2 : Nat → Prop} {s : Cp.St} {B : Sb} {r : Int × Cp.St × Sb} {e : Ending} (h : Duo w0 w x y b rb O O2 s B) (h1 : StepOk w w1 x b O r e) : ∃ O', Duo1 w0 w1 x y b rb O' O2 s r.2.1 B r.2.2 := by
  obtain ⟨O', hB, hG, hK⟩ := h1.k
  have hsz := h.keeps.size
  have hy : ∀ k, (k = y ∨ O2 k) → k < w.heap.size := fun k hk => by
    rcases hk with rfl | hk
    · exact h.sy.lt
    · exact h.ref.lt k hk
  have hd : ∀ k, (k = y ∨ O2 k) → ¬ (k = x ∨ O k) := fun k h1 h2 => h.dis k h2 h1
  refine ⟨O', h1.st, h.sy.keep hK (hd y (.inl rfl)), hB, h.ref.keep hK (fun k hk => hd k (.inr hk)), fun k hk h2 => ?_, fun hx => ?_, h.ny, fun k hk => ?_, h.keeps.trans hK (fun k hk e => ?_)⟩
  · rcases hk with hk | hk
    · exact h.dis k (.inl hk) h2
    · rcases hG k hk with hk | hk
      · exact h.dis k (.inr hk) h2
      · have := hy k h2; omega
  · rcases hG x hx with hx | hx
    · exact h.nx hx
    · have := h.sx.lt; omega
  · rcases hk with (hk | hk) | hk
    · exact h.low k (.inl (.inl hk))
    · rcases hG k hk with hk | hk
      · exact h.low k (.inl (.inr hk))
      · omega
    · exact h.low k (.inr hk)
  · have := h.low k (.inl e); omega
theorem Duo1.two {w0 w w1 : World} {x y b rb : Nat} {O O2 : Nat → Prop} {s : Cp.St} {B : Sb} {r : Int × Cp.St × Sb} {e : Ending} (h : Duo1 w0 w x y b rb O O2 s r.2.1 B r.2.2) (h1 : RsOk w w1 y rb O2 r e) : ∃ O', Duo w0 w1 x y b rb O O' r.2.1 r.2.2 := by
  obtain ⟨O', hB, hG, hK⟩ := h1.k
  have hsz := h.keeps.size
  have hx : ∀ k, (k = x ∨ O k) → k < w.heap.size := fun k hk => by
    rcases hk with rfl | hk
    · exact h.sx.lt
    · exact h.bus.lt k hk
  refine ⟨O', h.sx.keep hK (h.dis x (.inl rfl)), h1.st, h.bus.keep hK (fun k hk => h.dis k (.inr hk)), hB, fun k hk h2 => ?_, h.nx, fun hy => ?_, fun k hk => ?_, h.keeps.trans hK (fun k hk e => ?_)⟩
  · rcases h2 with h2 | h2
    · exact h.dis k hk (.inl h2)
    · rcases hG k h2 with h2 | h2
      · exact h.dis k hk (.inr h2)
      · have := hx k hk; omega
  · rcases hG y hy with hy | hy
    · exact h.ny hy
    · have := h.sy.lt; omega
  · rcases hk with hk | hk | hk
    · exact h.low k (.inl hk)
    · exact h.low k (.inr (.inl hk))
    · rcases hG k hk with hk | hk
      · exact h.low k (.inr (.inr hk))
      · omega
  · have := h.low k (.inr e); omega

/-! whole states, guarded operations -/
theorem wpList_load_stG {ops : Array Oper} {rest : List Oper} {op : Oper} {a : Act} {w : World} {Q : Exit → Act → World → Prop} (x : Operand) (ho : op.op = .load 25 x) (hw : Region.wanted op (yielded ops a.tmps) = true) (sb : Nat) (s : Cp.St) (h : StAt w sb s)
    (hx : a.eval x = .pointer (some ⟨sb, 0, none⟩)) (hk : wpList Tryz.prog ops Q rest (a.put op.dst (.agg (stL s).toArray)) w) : wpList Tryz.prog ops Q (op :: rest) a w :=
  BigFrame.wpList_want hw fun _ hK => wp_load_mid _ x ho sb 0 hx (stL s) _ h.range Tryz.underlying25 rfl (by rw [stL_len]; exact size_st) (hK _ _ hk)
theorem wpList_eql_stG {ops : Array Oper} {rest : List Oper} {op : Oper} {a : Act} {w : World} {Q : Exit → Act → World → Prop} (t' : TypeId) (x y : Operand) (ho : op.op = .binOp .eql 25 x y t') (hw : Region.wanted op (yielded ops a.tmps) = true) (s : Cp.St) (hs : Cp.Rng s)
    (hx : a.eval x = .agg (stL s).toArray) (hy : a.eval y = .agg (stL s).toArray) (hk : wpList Tryz.prog ops Q rest (a.put op.dst (.bool true)) w) : wpList Tryz.prog ops Q (op :: rest) a w :=
  BigFrame.wpList_want hw fun _ hK => wp_bin_agg .eql (.inr rfl) _ t' x y ho _ hx hy eqg_st (equal_st w s hs) (hK _ _ hk)
theorem wpList_neq_stG {ops : Array Oper} {rest : List Oper} {op : Oper} {a : Act} {w : World} {Q : Exit → Act → World → Prop} (t' : TypeId) (x y : Operand) (ho : op.op = .binOp .neq 25 x y t') (hw : Region.wanted op (yielded ops a.tmps) = true) (s : Cp.St) (hs : Cp.Rng s)
    (hx : a.eval x = .agg (stL s).toArray) (hy : a.eval y = .agg (stL s).toArray) (hk : wpList Tryz.prog ops Q rest (a.put op.dst (.bool false)) w) : wpList Tryz.prog ops Q (op :: rest) a w :=
  BigFrame.wpList_want hw fun _ hK => wp_bin_agg .neq (.inl rfl) _ t' x y ho _ hx hy eqg_st (equal_st w s hs) (hK _ _ hk)

/-! stores past the buses, at any place -/
def putW (B : Sb) (a v : Int) : Sb := if rightC a 4 = 0 then { B with m := stTo B.m a.toNat 4 v 4 } else B
theorem ram_store4 (b r pb pw ph cp : Nat) (ov tv : Value) (O : Nat → Prop) (w : World) (B : Sb) (h : BIn b r pb pw ph cp ov tv O w B) (a v : Int) (ea : Nat → Addr) (E : Errs3 w ea) (ha : 0 ≤ a ∧ a < 4294967296) (hv : 0 ≤ v ∧ v < 4294967296) :
    Calls Tryz.prog 9 #[.pointer (some ⟨r, 0, none⟩), .int .u32 a, .int .i64 4, .int .u32 v] w fun e w' => (∃ x, e = .returned x) ∧ BIn b r pb pw ph cp ov tv O w' (putW B a v) ∧ Keeps O w w' := by
  unfold putW
  by_cases hc : rightC a 4 = 0
  · rw [if_pos hc]
    exact (ram_store_on b r pb pw ph cp ov tv O w B h a 4 v ha.1 hv hc).mono fun e w' ⟨he, hB, hk⟩ => ⟨⟨_, he⟩, hB, hk⟩
  · rw [if_neg hc]
    exact (store_bad ⟨r, 0, none⟩ a 4 v w ea E ha hc).mono fun e w' ⟨he, hw⟩ => by
      subst hw
      exact ⟨⟨_, he⟩, h, Keeps.refl _ _⟩
theorem rram_store4 (b q wb tb hb : Nat) (tv : Value) (O : Nat → Prop) (w : World) (B : Sb) (h : RIn b q wb tb hb tv O w B) (a v : Int) (ha : 0 ≤ a ∧ a < 4294967296) (hv : 0 ≤ v ∧ v < 4294967296) :
    Calls Tryz.prog 10 #[.pointer (some ⟨q, 0, none⟩), .int .u32 a, .int .i64 4, .int .u32 v] w fun e w' => (∃ x, e = .returned x) ∧ RIn b q wb tb hb tv O w' (putW B a v) ∧ Keeps O w w' := by
  unfold putW
  by_cases hc : rightC a 4 = 0
  · rw [if_pos hc]
    have h2 := rstore_ok q wb tb hb B.m _ _ a.toNat 4 v w h.ram hv (by rw [Int.toNat_of_nonneg ha.1]; exact hc)
    rw [Int.toNat_of_nonneg ha.1] at h2
    refine h2.mono fun e w' ⟨he, hR, hk⟩ => ⟨⟨_, he⟩, ?_, hk.mono (fun x _ hx => ?_)⟩
    · have hsp := h.sep
      exact {
        bus := h.bus.keep hk (fun hx => by omega) (fun g hg hx => by have := h.own2 g hg; omega)
        ram := ⟨⟨hR.raw.box, hR.raw.words, hR.raw.watch, hR.raw.hit.congr (fun p _ => by simp), hR.raw.apart⟩, hR.rng⟩
        own := h.own
        own2 := h.own2
        sep := h.sep
        lt := fun x hx => Nat.lt_of_lt_of_le (h.lt x hx) hk.size
        acc := h.acc }
    · rcases hx with rfl | rfl
      · exact h.own.2.2.1
      · exact h.own.2.2.2.2
  · rw [if_neg hc]
    exact (rstore_bad ⟨q, 0, none⟩ a 4 v w ha (by decide) hc).mono fun e w' ⟨he, hw⟩ => by
      subst hw
      exact ⟨⟨_, he⟩, h, Keeps.refl _ _⟩
theorem putW_l (B : Sb) (a v : Int) : (putW B a v).l = B.l ∧ (putW B a v).tn = B.tn := by
  unfold putW
  split <;> exact ⟨rfl, rfl⟩

/-! a step of no state, of no bus -/
theorem step_nil0 (b : Value) (w : World) :
    Calls Tryz.prog 11 #[.pointer none, b] w fun e w' => e = .returned (.int .i64 (-1)) ∧ w = w' := by
  go_enter Tryz.func11, Tryz.ntmps11
  go_wp2_with fail
  go_ret
  exact ⟨rfl, rfl⟩
theorem step_nil1 (s : Addr) (w : World) :
    Calls Tryz.prog 11 #[.pointer (some s), .pointer none] w fun e w' => e = .returned (.int .i64 (-1)) ∧ w = w' := by
  go_enter Tryz.func11, Tryz.ntmps11
  go_wp2_with fail
  go_ret
  exact ⟨rfl, rfl⟩
end Go.Proofs.YtlbdkcnbgdmpaaaGreatDoor

/- CpuOneW -/
/- The walk of the law CpuOne. -/
namespace Go.Proofs.YtlbdkcnbgdmpaaaGreatDoor
open Go.RowKit Go.Deep
set_option linter.unusedVariables false

/-- a state with register 0 as 0 -/
def stR (s : Cp.St) : Cp.St := { s with R := fun j => if j = 0 then 0 else s.R j }
theorem rngR (s : Cp.St) (h : Cp.Rng s) : Cp.Rng (stR s) :=
  ⟨fun k hk => by
    show Cp.W (if k = 0 then 0 else s.R k)
    split
    · exact Cp.W_0
    · exact h.R k hk, h.hi, h.lo, h.pc, h.next, h.status, h.cause, h.epc, h.bad, h.compare, h.count⟩
theorem r0R (s : Cp.St) : (stR s).R 0 = 0 := rfl
theorem ram_store4_at (b r pb pw ph cp : Nat) (ov tv : Value) (O : Nat → Prop) (w wc : World) (B : Sb) (h : BIn b r pb pw ph cp ov tv O w B) (hk : Keeps (fun _ => False) w wc) (a v : Int) (ea : Nat → Addr) (E : Errs3 w ea) (ha : 0 ≤ a ∧ a < 4294967296) (hv : 0 ≤ v ∧ v < 4294967296) :
    Calls Tryz.prog 9 #[.pointer (some ⟨r, 0, none⟩), .int .u32 a, .int .i64 4, .int .u32 v] wc fun e w' => (∃ x, e = .returned x) ∧ BIn b r pb pw ph cp ov tv O w' (putW B a v) ∧ Keeps O w w' :=
  (ram_store4 b r pb pw ph cp ov tv O wc B (h.keep hk (fun _ _ h => h)) a v ea (E.keep hk ⟨fun h => h, fun h => h, fun h => h⟩) ha hv).mono fun e w' ⟨he, hB, hk2⟩ => ⟨he, hB, (hk.mono (T := O) (fun _ _ h => h.elim)).trans hk2 (fun _ _ h => h)⟩
theorem rram_store4_at (b q wb tb hb : Nat) (tv : Value) (O : Nat → Prop) (w wc : World) (B : Sb) (h : RIn b q wb tb hb tv O w B) (hk : Keeps (fun _ => False) w wc) (a v : Int) (ha : 0 ≤ a ∧ a < 4294967296) (hv : 0 ≤ v ∧ v < 4294967296) :
    Calls Tryz.prog 10 #[.pointer (some ⟨q, 0, none⟩), .int .u32 a, .int .i64 4, .int .u32 v] wc fun e w' => (∃ x, e = .returned x) ∧ RIn b q wb tb hb tv O w' (putW B a v) ∧ Keeps O w w' :=
  (rram_store4 b q wb tb hb tv O wc B (h.keep hk (fun _ _ h => h)) a v ha hv).mono fun e w' ⟨he, hB, hk2⟩ => ⟨he, hB, (hk.mono (T := O) (fun _ _ h => h.elim)).trans hk2 (fun _ _ h => h)⟩

set_option maxRecDepth 100000 in
set_option maxHeartbeats 4000000 in
theorem cpuOne_any (s : Cp.St) (v there vt : Int) (w : World) (ea : Nat → Addr) (E : Errs3 w ea) (hs : 0 ≤ s.count → s.count < 4611686018427387904 → Cp.Rng s) (hv : 0 ≤ v ∧ v < 4294967296) (hth : 0 ≤ there ∧ there < 4294967296) (hvt : 0 ≤ vt ∧ vt < 4294967296) :
    Calls Tryz.prog 3 #[.agg (stL s).toArray, .int .u32 v, .int .u32 there, .int .u32 vt] w fun e w' => e = .returned (.bool true) ∧ Keeps (fun _ => False) w w' := by
  have HS0 := Lib.hid (show StAt (w.alloc (.cells (stL s).toArray 25 (0, 0))) w.heap.size s from blk_alloc_new w _)
  have HK0 := Lib.hid ((Keeps.refl (fun _ => False) w).alloc (.cells (stL s).toArray 25 (0, 0)))
  have HE := Lib.hid (E.keep HK0.out ⟨fun h => h, fun h => h, fun h => h⟩)
  have HE0 := Lib.hid E
  clear E
  by_cases h1 : s.count < 0
  · go_enter Tryz.func3, Tryz.ntmps3
    go_wp2_with fail
    refine (stepped_any _ ea HE.out).mono ?_
    rintro e w1 ⟨rfl, hk1⟩
    have c42 := (HS0.out.keep hk1 (fun h => h)).cells.2.2.2.2.2.2.2.2.2.2
    go_wp2_with fail
    go_ret
    exact ⟨rfl, HK0.out.trans hk1 (fun _ _ h => h)⟩
  by_cases h2 : 1099511627776 < s.count
  · go_enter Tryz.func3, Tryz.ntmps3
    go_wp2_with fail
    refine (stepped_any _ ea HE.out).mono ?_
    rintro e w1 ⟨rfl, hk1⟩
    have c42 := (HS0.out.keep hk1 (fun h => h)).cells.2.2.2.2.2.2.2.2.2.2
    go_wp2_with fail
    go_ret
    exact ⟨rfl, HK0.out.trans hk1 (fun _ _ h => h)⟩
  have HG := Lib.hid (rngR s (hs (by omega) (by omega)))
  have HC := Lib.hid (show 0 ≤ s.count ∧ s.count ≤ 1099511627776 by omega)
  have t1 : decide (s.count < 0) = false := decide_eq_false h1
  have t2 : decide (1099511627776 < s.count) = false := decide_eq_false h2
  clear h1 h2
  clear hs
  obtain ⟨sb, hsb⟩ : ∃ sb, w.heap.size = sb := ⟨_, rfl⟩
  have HSB := Lib.hid hsb
  rw [hsb] at HS0
  go_enter Tryz.func3, Tryz.ntmps3
  go_wp2_with fail
  refine (stepped_any _ ea HE.out).mono ?_
  rintro e w1 ⟨rfl, hk1⟩
  have HS1 := Lib.hid (HS0.out.keep hk1 (fun h => h))
  have HK1 := Lib.hid (HK0.out.trans hk1 (fun _ _ h => h))
  have HE1 := Lib.hid (HE.out.keep hk1 ⟨fun h => h, fun h => h, fun h => h⟩)
  clear HS0 HK0 HE hk1 hsb
  have c0 := HS1.out.reg 0 (by omega)
  obtain ⟨left, left_1, left_6, left_7, left_8, left_9, left_2, left_3, left_4, left_5, c42⟩ := HS1.out.cells
  have f0 := HS1.out.frozen 0
  clear left left_1 left_2 left_3 left_4 left_5 left_6 left_7 left_8 left_9
  have HS4 := Lib.hid (show StAt (w1.setCell ⟨sb, 0, none⟩ (.int .u32 0)) sb (stR s) from HS1.out.setReg 0 (by omega) 0)
  have HK4 := Lib.hid (Keeps.one w1 sb 0 (.int .u32 0))
  have HE4 := Lib.hid (fun (w' : World) (k : Keeps (fun _ => False) w w') => HE0.out.keep k ⟨fun h => h, fun h => h, fun h => h⟩)
  have HKW4 := Lib.hid (show Keeps (fun _ => False) w (w1.setCell ⟨sb, 0, none⟩ (.int .u32 0)) from HK1.out.trans HK4.out (fun j hj e => by have := HSB.out; omega))
  have HW4 := Lib.hid (show w.heap.size ≤ sb from Nat.le_of_eq HSB.out)
  clear HE1 HE0 HK1 HK4 HS1
  have hgl : Keeps (fun _ => False) w (w1.setCell ⟨sb, 0, none⟩ (.int .u32 0)) := HKW4.out
  clear hgl
  have HR0 := Lib.hid (show (stR s).R 0 = 0 ∧ (stR s).count = s.count ∧ (stR s).pc = s.pc from ⟨rfl, rfl, rfl⟩)
  go_upto_region 5 with fail
  clear t1 t2 c0 c42 f0
  generalize (w1.setCell ⟨sb, 0, none⟩ (.int .u32 0)) = w4 at *
  go_wp2_with (first
    | (with_reducible refine wpList_load_st rfl _ rfl sb (stR s) HS4.out rfl ?_)
    | (with_reducible refine wpList_store_st rfl _ _ rfl _ _ (stR s) (blk_alloc_new _ _) (by simp) rfl rfl ?_))
  intro w5 hS5 hk5
  have hk5' := ((Keeps.refl (fun _ => False) w4).alloc _).trans hk5 (fun j hj e => absurd (show j = w4.heap.size from e) (Nat.ne_of_lt hj))
  have HX5 := Lib.hid hS5
  have HS5 := Lib.hid (HS4.out.keep hk5' (fun h => h))
  have HK5 := Lib.hid (HKW4.out.trans hk5' (fun _ _ h => h))
  have HXS := Lib.hid (show w.heap.size ≤ w4.heap.size ∧ w4.heap.size ≠ sb from ⟨HKW4.out.size, fun h => by have := HS4.out.lt; omega⟩)
  clear hS5 hk5 hk5' HS4 HKW4
  generalize w4.heap.size = x at *
  go_wp2_with (first
    | (with_reducible refine wpList_load_st rfl _ rfl sb (stR s) HS5.out rfl ?_)
    | (with_reducible refine wpList_store_st rfl _ _ rfl _ _ (stR s) (blk_alloc_new _ _) (by simp) rfl rfl ?_))
  intro w6 hS6 hk6
  have hk6' := ((Keeps.refl (fun _ => False) w5).alloc _).trans hk6 (fun j hj e => absurd (show j = w5.heap.size from e) (Nat.ne_of_lt hj))
  have HY6 := Lib.hid hS6
  have HX6 := Lib.hid (HX5.out.keep hk6' (fun h => h))
  have HS6 := Lib.hid (HS5.out.keep hk6' (fun h => h))
  have HK6 := Lib.hid (HK5.out.trans hk6' (fun _ _ h => h))
  have HYS := Lib.hid (show w.heap.size ≤ w5.heap.size ∧ w5.heap.size ≠ sb ∧ w5.heap.size ≠ x from ⟨HK5.out.size, fun h => by have := HS5.out.lt; omega, fun h => by have := HX5.out.lt; omega⟩)
  clear hS6 hk6 hk6' HS5 HX5 HK5
  generalize w5.heap.size = y at *
  generalize stR s = S at *
  have hpc := HG.out.pc
  go_wp2_with fail
  refine (bus_new 0 0 none _ (fun _ => 0) ⟨by omega, .inl rfl⟩ (by omega) (fun _ _ => by omega)).mono ?_
  rintro e w7 ⟨b, O, rfl, hB, hk7, hO⟩
  have HB7 := Lib.hid hB
  have HO := Lib.hid (show ∀ j, O j → w.heap.size ≤ j ∧ j ≠ sb ∧ j ≠ x ∧ j ≠ y from fun j h => by
    have h1 := hO j h
    have h2 := HK6.out.size
    have h3 := HS6.out.lt
    have h4 := HX6.out.lt
    have h5 := HY6.out.lt
    exact ⟨by omega, by omega, by omega, by omega⟩)
  have HS7 := Lib.hid (HS6.out.keep hk7 (fun h => h))
  have HX7 := Lib.hid (HX6.out.keep hk7 (fun h => h))
  have HY7 := Lib.hid (HY6.out.keep hk7 (fun h => h))
  have HK7 := Lib.hid (HK6.out.trans hk7 (fun _ _ h => h))
  clear hB hk7 hO HS6 HX6 HY6 HK6
  go_wp2_with fail
  refine (ref_new 0 0 none _ (fun _ => 0) ⟨by omega, .inl rfl⟩ (by omega) (fun _ _ => by omega)).mono ?_
  rintro e w8 ⟨rb, O2, rfl, hR, hk8, hO2⟩
  have HO2 := Lib.hid (show ∀ j, O2 j → w.heap.size ≤ j ∧ j ≠ sb ∧ j ≠ x ∧ j ≠ y ∧ ¬ O j from fun j h => by
    have h1 := hO2 j h
    have h2 := HK7.out.size
    have h3 := HS7.out.lt
    have h4 := HX7.out.lt
    have h5 := HY7.out.lt
    exact ⟨by omega, by omega, by omega, by omega, fun h => by have := HB7.out.lt j h; omega⟩)
  have HB8 := Lib.hid (HB7.out.keep hk8 (fun _ _ h => h))
  have HS8 := Lib.hid (HS7.out.keep hk8 (fun h => h))
  have HX8 := Lib.hid (HX7.out.keep hk8 (fun h => h))
  have HY8 := Lib.hid (HY7.out.keep hk8 (fun h => h))
  have HK8 := Lib.hid (HK7.out.trans hk8 (fun _ _ h => h))
  have HR8 := Lib.hid hR
  have HB0 := Lib.hid (show (s0 (min 0 4096) (fun _ => 0)).l.length = 0 ∧ (s0 (min 0 4096) (fun _ => 0)).tn = 0 from ⟨rfl, rfl⟩)
  clear hR hk8 hO2 HB7 HS7 HX7 HY7 HK7
  generalize s0 (min 0 4096) (fun _ => 0) = B at *
  obtain ⟨r, pb, pw, ph, cp, ov, tv, hB⟩ := HB8.out
  obtain ⟨q, wb, tb, hb, tv2, hR⟩ := HR8.out
  have hb0 : w8.cell? ⟨b, 0, none⟩ = some (.pointer (some ⟨r, 0, none⟩)) := by simp [World.cell?, hB.bus.box]
  have HBI := Lib.hid hB
  have HRI := Lib.hid hR
  have HEX := Lib.hid (HE4.out w8 HK8.out)
  clear hB hR HB8 HR8
  go_wp2_with fail
  refine (ramOf_any b r w8 hb0).mono ?_
  rintro e w' ⟨rfl, rfl⟩
  go_wp2_with fail
  refine (ram_store4 b r pb pw ph cp ov tv O w8 B HBI.out there vt ea HEX.out hth hvt).mono ?_
  rintro e w9 ⟨⟨u1, rfl⟩, hB9, hk9⟩
  have HB9 := Lib.hid hB9
  have HR9 := Lib.hid (HRI.out.keep hk9 (fun j h e => (HO2.out j h).2.2.2.2 e))
  have HS9 := Lib.hid (HS8.out.keep hk9 (fun e => (HO.out _ e).2.1 rfl))
  have HX9 := Lib.hid (HX8.out.keep hk9 (fun e => (HO.out _ e).2.2.1 rfl))
  have HY9 := Lib.hid (HY8.out.keep hk9 (fun e => (HO.out _ e).2.2.2 rfl))
  have HK9 := Lib.hid (HK8.out.trans hk9 (fun j hj e => by have := (HO.out j e).1; omega))
  have hr0 : w9.cell? ⟨rb, 0, none⟩ = some (.pointer (some ⟨q, 0, none⟩)) := by simp [World.cell?, HR9.out.bus.box]
  clear hB9 hk9 hb0 HBI HRI HS8 HX8 HY8 HK8 HEX
  go_wp2_with fail
  refine (rram_store4 rb q wb tb hb tv2 O2 w9 B HR9.out there vt hth hvt).mono ?_
  rintro e w10 ⟨⟨u2, rfl⟩, hR10, hk10⟩
  have HPW := Lib.hid (putW_l B there vt)
  have HRI := Lib.hid hR10
  have HBI := Lib.hid (HB9.out.keep hk10 (fun j h e => (HO2.out j e).2.2.2.2 h))
  have HS10 := Lib.hid (HS9.out.keep hk10 (fun e => (HO2.out _ e).2.1 rfl))
  have HX10 := Lib.hid (HX9.out.keep hk10 (fun e => (HO2.out _ e).2.2.1 rfl))
  have HY10 := Lib.hid (HY9.out.keep hk10 (fun e => (HO2.out _ e).2.2.2.1 rfl))
  have HK10 := Lib.hid (HK9.out.trans hk10 (fun j hj e => by have := (HO2.out j e).1; omega))
  clear hR10 hk10 hr0 HB9 HR9 HS9 HX9 HY9 HK9
  generalize hpb : putW B there vt = B1 at *
  clear hpb
  have hpcell : w10.cell? ⟨sb, 34, none⟩ = some (.int .u32 S.pc) := HS10.out.cells.2.2.1
  have HEX := Lib.hid (HE4.out w10 HK10.out)
  have HP := Lib.hid (fun (w' : World) (k : Keeps O w10 w') => (HS10.out.keep k (fun e => (HO.out _ e).2.1 rfl)).cells.2.2.1)
  go_upto_region 13 with fail
  go_region_held3 (fun w' => w'.cell? ⟨sb, 34, none⟩ = some (.int .u32 S.pc))
    (first | assumption | exact hpcell | (trace_state; fail))
    (first
      | (go_at_call 8; refine (ramOf_at _ HBI.out ?_).mono ?_; (repeat (first | exact Keeps.refl _ _ | assumption | apply Keeps.drew | apply Keeps.drewN | apply Keeps.alloc | (refine Keeps.trans ?_ (by assumption) (fun _ _ h => h)))); rintro e w' ⟨rfl, rfl⟩)
      | (go_at_call 9; refine (ram_store4_at b r pb pw ph cp ov tv O w10 _ B1 HBI.out ?_ S.pc v ea HEX.out hpc hv).mono ?_; (repeat (first | exact Keeps.refl _ _ | assumption | apply Keeps.drew | apply Keeps.drewN | apply Keeps.alloc | (refine Keeps.trans ?_ (by assumption) (fun _ _ h => h)))); rintro e w11 ⟨⟨u3, rfl⟩, hB11, hk11⟩; have hp11 := HP.out w11 hk11))
  rename_i hh
  clear hh
  have HB11 := Lib.hid hB11
  have HRI11 := Lib.hid (HRI.out.keep hk11 (fun j h e => (HO2.out j h).2.2.2.2 e))
  have HS11 := Lib.hid (HS10.out.keep hk11 (fun e => (HO.out _ e).2.1 rfl))
  have HX11 := Lib.hid (HX10.out.keep hk11 (fun e => (HO.out _ e).2.2.1 rfl))
  have HY11 := Lib.hid (HY10.out.keep hk11 (fun e => (HO.out _ e).2.2.2 rfl))
  have HK11 := Lib.hid (HK10.out.trans hk11 (fun j hj e => by have := (HO.out j e).1; omega))
  have hr0 : w11.cell? ⟨rb, 0, none⟩ = some (.pointer (some ⟨q, 0, none⟩)) := by simp [World.cell?, HRI11.out.bus.box]
  clear hB11 hk11 hpcell HP HRI HBI HS10 HX10 HY10 HK10 HEX
  have HP := Lib.hid (fun (w' : World) (h : RIn rb q wb tb hb tv2 O2 w' (putW B1 S.pc v)) (k : Keeps O2 w11 w') => (show w'.cell? ⟨rb, 0, none⟩ = some (.pointer (some ⟨q, 0, none⟩)) ∧ w'.cell? ⟨sb, 34, none⟩ = some (.int .u32 S.pc) from ⟨by simp [World.cell?, h.bus.box], (HS11.out.keep k (fun e => (HO2.out _ e).2.1 rfl)).cells.2.2.1⟩))
  go_upto_region 14 with fail
  go_region_held3 (fun w' => w'.cell? ⟨rb, 0, none⟩ = some (.pointer (some ⟨q, 0, none⟩)) ∧ w'.cell? ⟨sb, 34, none⟩ = some (.int .u32 S.pc))
    (first | assumption | exact ⟨hr0, hp11⟩ | exact ⟨by assumption, by assumption⟩ | (trace_state; fail))
    (first
      | (go_at_call 10; refine (rram_store4_at rb q wb tb hb tv2 O2 w11 _ B1 HRI11.out ?_ S.pc v hpc hv).mono ?_; (repeat (first | exact Keeps.refl _ _ | assumption | apply Keeps.drew | apply Keeps.drewN | apply Keeps.alloc | (refine Keeps.trans ?_ (by assumption) (fun _ _ h => h)))); rintro e w12 ⟨⟨u4, rfl⟩, hR12, hk12⟩; have hp12 := HP.out w12 hR12 hk12))
  rename_i hh
  clear hh
  have HJ := Lib.hid (show Duo w w12 x y b rb O O2 S (putW B1 S.pc v) from ⟨HX11.out.keep hk12 (fun e => (HO2.out _ e).2.2.1 rfl), HY11.out.keep hk12 (fun e => (HO2.out _ e).2.2.2.1 rfl), ⟨r, pb, pw, ph, cp, ov, tv, HB11.out.keep hk12 (fun j h e => (HO2.out j e).2.2.2.2 h)⟩, ⟨q, wb, tb, hb, tv2, hR12⟩,
    fun k hk h2 => by
      rcases hk with rfl | hk
      · rcases h2 with h2 | h2
        · exact HYS.out.2.2 h2.symm
        · exact (HO2.out _ h2).2.2.1 rfl
      · rcases h2 with rfl | h2
        · exact (HO.out _ hk).2.2.2 rfl
        · exact (HO2.out k h2).2.2.2.2 hk,
    fun h => (HO.out _ h).2.2.1 rfl, fun h => (HO2.out _ h).2.2.2.1 rfl,
    fun k hk => by
      rcases hk with (rfl | hk) | (rfl | hk)
      · exact HXS.out.1
      · exact (HO.out k hk).1
      · exact HYS.out.1
      · exact (HO2.out k hk).1,
    HK11.out.trans hk12 (fun j hj e => by have := (HO2.out j e).1; omega)⟩)
  clear hR12 hk12 hp12 HP hr0 hp11 HRI11 HB11 HS11 HX11 HY11 HK11 HXS HYS HO HO2
  have HBL := Lib.hid (show (putW B1 S.pc v).l.length = 0 ∧ (putW B1 S.pc v).tn = 0 by
    have h1 := putW_l B1 S.pc v
    have h2 := HPW.out
    have h3 := HB0.out
    rw [h1.1, h1.2, h2.1, h2.2]
    exact h3)
  clear HPW HB0
  generalize putW B1 S.pc v = B2 at *
  have HEE := Lib.hid (HE4.out w12 HJ.out.keeps)
  have HST := Lib.hid (step_all x b O S B2 w12 ea HEE.out HJ.out.sx HJ.out.bus HG.out (by have := HBL.out; omega) (by have := HBL.out; omega) HJ.out.nx HJ.out.sx.lt)
  have HNX := Lib.hid (Cp.nxt_step S B2 HG.out HJ.out.bus.brng (by have := HC.out; have := HR0.out.2.1; omega))
  go_wp2_with fail
  refine HST.out.mono ?_
  intro e w13 h13
  obtain ⟨O', hJ1⟩ := HJ.out.one h13
  have he := h13.e
  subst he
  clear h13 HST
  have HJ1 := Lib.hid hJ1
  clear hJ1
  have HRS := Lib.hid (rstep_all y rb O2 S B2 w13 HJ1.out.sy HJ1.out.ref HG.out (by have := HBL.out; omega) (by have := HBL.out; omega) HJ1.out.ny HR0.out.1)
  go_wp2_with fail
  refine HRS.out.mono ?_
  intro e w14 h14
  obtain ⟨O2', hJ2⟩ := HJ1.out.two h14
  have he := h14.e
  subst he
  clear h14 HRS
  have HJ2 := Lib.hid hJ2
  clear hJ2
  have HTN := Lib.hid (show (Cp.step S B2).2.2.tn < 1000000 by have h1 := HBL.out.2; have h2 := HNX.out.2.2.2.2.2; omega)
  have HRG := Lib.hid HNX.out.1
  clear HNX HBL HEE
  generalize Cp.step S B2 = R at *
  go_wp2_with (first
    | (with_reducible refine wpList_load_stG _ rfl (by go_simp) x R.2.1 HJ2.out.sx rfl ?_)
    | (with_reducible refine wpList_load_stG _ rfl (by go_simp) y R.2.1 HJ2.out.sy rfl ?_)
    | (with_reducible refine wpList_eql_stG _ _ _ rfl (by go_simp) R.2.1 HRG.out rfl rfl ?_))
  refine (asBus_any b rb O' O2' R.2.2 _ HJ2.out.bus HJ2.out.ref HTN.out).mono ?_
  rintro e w15 ⟨rfl, hk15⟩
  go_wp2_with fail
  go_ret
  exact ⟨rfl, HJ2.out.keeps.trans hk15 (fun _ _ h => h)⟩
end Go.Proofs.YtlbdkcnbgdmpaaaGreatDoor

/- OpenSt -/
/- What an argument of type api.State holds. -/
namespace Go.Proofs.YtlbdkcnbgdmpaaaGreatDoor
open Go.RowKit Go.Deep
set_option linter.unusedVariables false

def tysSt : List TypeId := (List.replicate 32 22) ++ [22, 22, 22, 22, 4, 22, 22, 22, 22, 22, 3]
theorem cellTypes_state : Tryz.prog.cellTypes Tryz.prog.depth 25 = some tysSt := by kernel_rfl
theorem cellsOf_state : Tryz.prog.cellsOf 25 = 43 := by kernel_rfl
theorem cell_int {P : Program} {w : World} {r : Reach} {base : Nat} {t : TypeId} {k : IntKind} {v : Value} (ht : P.underlying t = some (.int k)) (h : Cell.okWide P w r base t v) : ∃ n, v = .int k n ∧ k.has n := by
  unfold Cell.okWide Cell.ok at h
  rw [ht] at h
  cases v <;> simp_all
theorem cell_bool {P : Program} {w : World} {r : Reach} {base : Nat} {t : TypeId} {v : Value} (ht : P.underlying t = some .bool) (h : Cell.okWide P w r base t v) : ∃ b, v = .bool b := by
  unfold Cell.okWide Cell.ok at h
  rw [ht] at h
  cases v <;> simp_all
set_option maxRecDepth 100000 in
theorem cell_u32 {w : World} {r : Reach} {base : Nat} {v : Value} (h : Cell.okWide Tryz.prog w r base 22 v) : ∃ n, v = .int .u32 n ∧ Cp.W n := by
  obtain ⟨n, h1, h2⟩ := cell_int Tryz.underlying22 h
  refine ⟨n, h1, ?_⟩
  unfold IntKind.has at h2
  have e1 : IntKind.u32.min = 0 := by decide
  have e2 : IntKind.u32.max = 4294967295 := by decide
  rw [e1, e2] at h2
  unfold Cp.W
  omega
def numAt (cs : List Value) (k : Nat) : Int := match cs[k]? with | some (.int _ n) => n | _ => 0
def boolAt (cs : List Value) (k : Nat) : Bool := match cs[k]? with | some (.bool b) => b | _ => false
def stOf (cs : List Value) : Cp.St := ⟨fun k => numAt cs k, numAt cs 32, numAt cs 33, numAt cs 34, numAt cs 35, boolAt cs 36, numAt cs 37, numAt cs 38, numAt cs 39, numAt cs 40, numAt cs 41, numAt cs 42⟩
set_option maxRecDepth 100000 in
theorem open_state {w : World} {r : Reach} {base : Nat} {v : Value} (h : Value.okWide Tryz.prog w r base 25 v) : ∃ s : Cp.St, v = .agg (stL s).toArray ∧ (0 ≤ s.count → s.count < 4611686018427387904 → Cp.Rng s) := by
  unfold Value.okWide at h
  rw [Tryz.underlying25] at h
  obtain ⟨⟨cs⟩, rfl, hsz, ts, hts, _, hall⟩ := h
  rw [cellTypes_state] at hts
  obtain rfl := Option.some.inj hts
  rw [cellsOf_state] at hsz
  have hl : cs.length = 43 := hsz
  have hc : ∀ k (hk : k < 43), ∃ u, tysSt[k]? = some u ∧ Cell.okWide Tryz.prog w r base u (cs[k]'(by omega)) := by
    intro k hk
    obtain ⟨u, h1, h2⟩ := hall k (cs[k]'(by omega)) (by simp [hl, hk])
    rw [show tysSt.length = 43 from rfl, Nat.mod_eq_of_lt hk] at h1
    exact ⟨u, h1, h2⟩
  have hu : ∀ k, k < 43 → k ≠ 36 → k ≠ 42 → cs[k]? = some (.int .u32 (numAt cs k)) ∧ Cp.W (numAt cs k) := by
    intro k hk h36 h42
    obtain ⟨u, h1, h2⟩ := hc k hk
    have : u = 22 := by
      have h3 : ∀ j : Fin 43, j.val ≠ 36 → j.val ≠ 42 → tysSt[j.val]? = some 22 := by decide
      have := h3 ⟨k, hk⟩ h36 h42
      rw [this] at h1
      exact (Option.some.inj h1).symm
    subst this
    obtain ⟨n, h3, h4⟩ := cell_u32 h2
    have h5 : cs[k]? = some (.int .u32 n) := by rw [List.getElem?_eq_getElem (by omega), h3]
    have h6 : numAt cs k = n := by unfold numAt; rw [h5]
    rw [h6]
    exact ⟨h5, h4⟩
  have h36 : cs[36]? = some (.bool (boolAt cs 36)) := by
    obtain ⟨u, h1, h2⟩ := hc 36 (by omega)
    obtain rfl : 4 = u := Option.some.inj h1
    obtain ⟨b, h3⟩ := cell_bool Tryz.underlying4 h2
    have h5 : cs[36]? = some (.bool b) := by rw [List.getElem?_eq_getElem (by omega), h3]
    have h6 : boolAt cs 36 = b := by unfold boolAt; rw [h5]
    rw [h6]
    exact h5
  have h42 : cs[42]? = some (.int .i64 (numAt cs 42)) := by
    obtain ⟨u, h1, h2⟩ := hc 42 (by omega)
    obtain rfl : 3 = u := Option.some.inj h1
    obtain ⟨n, h3, _⟩ := cell_int Tryz.underlying3 h2
    have h5 : cs[42]? = some (.int .i64 n) := by rw [List.getElem?_eq_getElem (by omega), h3]
    have h6 : numAt cs 42 = n := by unfold numAt; rw [h5]
    rw [h6]
    exact h5
  refine ⟨stOf cs, ?_, fun c1 c2 => ⟨fun k hk => (hu k (by omega) (by omega) (by omega)).2, (hu 32 (by omega) (by omega) (by omega)).2, (hu 33 (by omega) (by omega) (by omega)).2, (hu 34 (by omega) (by omega) (by omega)).2, (hu 35 (by omega) (by omega) (by omega)).2, (hu 37 (by omega) (by omega) (by omega)).2, (hu 38 (by omega) (by omega) (by omega)).2, (hu 39 (by omega) (by omega) (by omega)).2, (hu 40 (by omega) (by omega) (by omega)).2, (hu 41 (by omega) (by omega) (by omega)).2, c1, c2⟩⟩
  congr 2
  apply List.ext_getElem?
  intro i
  by_cases hi : i < 32
  · unfold stL
    rw [List.getElem?_append_left (by rw [regs_len]; exact hi), (hu i (by omega) (by omega) (by omega)).1]
    simp [regs, hi, stOf]
  · by_cases h43 : 43 ≤ i
    · rw [List.getElem?_eq_none (by omega), List.getElem?_eq_none (by rw [show (stL (stOf cs)).length = 43 by simp [stL, regs, restC]]; omega)]
    · unfold stL
      rw [List.getElem?_append_right (by rw [regs_len]; omega), regs_len]
      have hi2 : i = 32 ∨ i = 33 ∨ i = 34 ∨ i = 35 ∨ i = 36 ∨ i = 37 ∨ i = 38 ∨ i = 39 ∨ i = 40 ∨ i = 41 ∨ i = 42 := by omega
      rcases hi2 with rfl | rfl | rfl | rfl | rfl | rfl | rfl | rfl | rfl | rfl | rfl
      all_goals first
        | exact h36
        | exact h42
        | exact (hu _ (by decide) (by decide) (by decide)).1
end Go.Proofs.YtlbdkcnbgdmpaaaGreatDoor

/- Frame -/
/- The frame of every law: what reads before the call reads so behind it, where nothing below the heap's old size has turned; how words that come in are opened. No program in sight but its tables. -/
namespace Go.Proofs.YtlbdkcnbgdmpaaaGreatDoor
open Go.ChangeShapes Go.WideShapes Go.ChangeAt Go.RowKit
set_option linter.unusedVariables false

theorem trodAll_stays {H : Type} {enc : TypeId × Value → H} {P : Program} (hl : laidOutB P = true) {W W' : World} (hb : Below W.heap.size W W') :
    ∀ (ts : List TypeId) (vs : List Value) (ds : List (DataW H)) (ps : List MemPlace), (∀ t ∈ ts, P.readableRec t = true ∧ t < P.types.size) → (∀ x ∈ ps, x.block < W.heap.size) →
      DataW.TrodAll enc P W 0 (fun _ => true) true ts vs ds ps → DataW.TrodAll enc P W' 0 (fun b => decide (b < W.heap.size)) true ts vs ds ps
  | [], vs, ds, ps, _, _, h => by
    obtain ⟨rfl, rfl, rfl⟩ := trodAll_nil h
    exact trodAll_mk0
  | t :: ts, vs, ds, ps, hts, hlt, h => by
    obtain ⟨v, vs', d, ds', p, q, rfl, rfl, rfl, h0, r0⟩ := trodAll_cons h
    obtain ⟨h1, h2⟩ := hts t (by simp)
    exact trodAll_cons_mk (Below.trod hl h1 h2 h0 hb (fun x hx => hlt x (by simp [hx])))
      (trodAll_stays hl hb ts vs' ds' q (fun u hu => hts u (by simp [hu])) (fun x hx => hlt x (by simp [hx])) r0)

/-- a law's end: true, and its arguments as they were -/
theorem law_post {H : Type} {enc : TypeId × Value → H} {P : Program} {f : Func} {s : ChangeSpec} {W W' : World} {args : Array Value} {ds gs : List (DataW H)} {before : List MemPlace} {tb : TypeId}
    (hl : laidOutB P = true) (hts : ∀ t ∈ f.params.toList, P.readableRec t = true ∧ t < P.types.size) (hres : f.resultTypes = #[tb]) (htb : P.underlying tb = some .bool) (hv : s.vars = [])
    (hW : DataW.Whole enc P f.params.toList s.vars false W args.toList ds gs before) (hs : s.fn H (ds ++ gs) = { results := [.lit (.bool true)], args := ds }) (hb : Below W.heap.size W W') :
    s.post enc P f false true false false W args (.bool true) W' := by
  have hW' := hW
  obtain ⟨p, q, hA, hV, rfl, hfz, hnd⟩ := hW
  have hlt : ∀ x ∈ p ++ q, x.block < W.heap.size := fun x hx => hW'.lt x hx
  refine ⟨ds, gs, p ++ q, [], p, [], hW', ?_, ?_, ?_, hb.frame _, fun h => by cases h⟩
  · rw [hs, hres]; exact trodAll_mk1 (shut_bool htb true)
  · rw [hs]; exact trodAll_stays hl hb _ _ _ _ hts (fun x hx => hlt x (by simp [hx])) hA
  · rw [hs, hv]; rfl

/-- what is written of a word: it lies in its bounds -/
theorem rng_u32 {a : Int} (h : (Lit.int .u32 a).wf = true) : 0 ≤ a ∧ a < 4294967296 := by
  simp [Lit.wf, IntKind.min, IntKind.max, IntKind.signed, IntKind.bits] at h; omega

/-- WORDS THAT CAME IN, to be read -/
theorem open_words {H : Type} {enc : TypeId × Value → H} {P : Program} {W : World} {base : Nat} {ts te : TypeId} {v : Value} {d : DataW H} {ps : List MemPlace} (ht : P.underlying ts = some (.slice te)) (he : P.underlying te = some (.int .u32)) (hc : P.cellsOf te = 1)
    (hval : Value.okWide P W .any base ts v) (h : DataW.Trod enc P W 0 (fun _ => true) true ts v d ps) (hlt : ∀ x ∈ ps, x.block < W.heap.size) :
    ∃ (A : Option Addr) (len cap : Nat) (ws : Nat → Int), v = .slice A len cap ∧ Reads W A len cap (fun i => .int .u32 (ws i)) ∧ cap ≤ maxLen ∧ ∀ i, i < len → 0 ≤ ws i ∧ ws i < 4294967296 := by
  obtain ⟨a0, len, cap, rfl⟩ := okWide_slice ht hval
  obtain ⟨fuel, hf⟩ := h
  rcases open_ints ht he hc hf with ⟨hcs, hx⟩ | ⟨a, len', cap', zs, hcs, _, hl, hm, hz, hx, hcell, hwz⟩
  · simp [Value.cells] at hcs
    obtain ⟨rfl, rfl, rfl⟩ := hcs
    exact ⟨none, 0, 0, fun _ => 0, rfl, ⟨Nat.le_refl _, .inl rfl⟩, Nat.zero_le _, fun i hi => by omega⟩
  · simp [Value.cells] at hcs
    obtain ⟨rfl, rfl, rfl⟩ := hcs
    simp only [if_true] at hz
    obtain ⟨b, off, spot⟩ := a
    have hws : ∀ i, i < len → 0 ≤ zs.getD i 0 ∧ zs.getD i 0 < 4294967296 := by
      intro i hi
      have hlt : i < zs.length := by omega
      have e : zs.getD i 0 = zs[i] := by simp [List.getD, hlt]
      have hm := hwz zs[i] (List.getElem_mem _)
      rw [e]
      simp [Lit.wf, IntKind.min, IntKind.max, IntKind.signed, IntKind.bits] at hm
      omega
    by_cases h0 : cap = 0
    · exact ⟨some ⟨b, off, spot⟩, len, cap, fun _ => 0, rfl, ⟨hl, .inl h0⟩, hm, fun i hi => by omega⟩
    · have hspot : spot = none := by simpa [Addr.add] using World.cell?_spot (hcell 0 (by omega))
      subst hspot
      refine ⟨some ⟨b, off, none⟩, len, cap, fun i => zs.getD i 0, rfl, ⟨hl, .inr ⟨b, off, rfl, ?_, fun i hi => ?_⟩⟩, hm, hws⟩
      · have := World.block_lt_of_cell? W _ (hcell 0 (by omega))
        simpa [Addr.add] using this
      · have := hcell i (by omega)
        simpa [Addr.add_lit] using this
end Go.Proofs.YtlbdkcnbgdmpaaaGreatDoor
