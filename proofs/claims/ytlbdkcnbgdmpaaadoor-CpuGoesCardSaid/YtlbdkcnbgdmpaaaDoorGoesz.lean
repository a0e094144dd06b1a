import Derived.Test.YtlbdkcnbgdmpaaaDoorTakesz12
import Derived.Test.YtlbdkcnbgdmpaaaDoorTakesz13
import Derived.Deep.RegionHeld3
import Derived.Test.YtlbdkcnbgdmpaaaDoorCards
import Derived.Test.YtlbdkcnbgdmpaaaDoorTie
import Derived.Test.YtlbdkcnbgdmpaaaDoorTakesz
import Derived.Stop.Joined
import Derived.LaidSub

/- CpuGoDefs -/
/- So many steps, said plainly. No program in sight. -/
namespace Go.Proofs.YtlbdkcnbgdmpaaaDoor
open Go.RowKit
set_option linter.unusedVariables false
namespace Cp
def go : Nat → St → Sb → St × Sb
  | 0, s, B => (s, B)
  | k + 1, s, B => ((step (go k s B).1 (go k s B).2).2.1, (step (go k s B).1 (go k s B).2).2.2)
theorem go_add (a : Nat) (s : St) (B : Sb) : ∀ c, go (a + c) s B = go c (go a s B).1 (go a s B).2
  | 0 => rfl
  | c + 1 => by
    show ((step (go (a + c) s B).1 (go (a + c) s B).2).2.1, (step (go (a + c) s B).1 (go (a + c) s B).2).2.2) = _
    rw [go_add a s B c]
    rfl
/-- what so many steps keep -/
structure Goes (s : St) (B : Sb) (k : Nat) : Prop where
  rng : Rng (go k s B).1
  count : (go k s B).1.count = s.count + k
  r0 : (go k s B).1.R 0 = s.R 0
  len : (go k s B).2.l.length ≤ B.l.length + k
  tn : (go k s B).2.tn ≤ B.tn + k
theorem goes_0 {s : St} {B : Sb} (h : Rng s) : Goes s B 0 := ⟨h, by show s.count = s.count + ((0 : Nat) : Int); omega, rfl, Nat.le_refl _, Nat.le_refl _⟩
theorem goes_step {s : St} {B : Sb} {k : Nat} (h : Goes s B k) (hB : BRng (go k s B).2) (hc : s.count + k < 4611686018427387903) : Goes s B (k + 1) := by
  obtain ⟨h1, h2, h3, h4, h5⟩ := h
  obtain ⟨g1, g2, g3, g4, g5, g6⟩ := nxt_step (go k s B).1 (go k s B).2 h1 hB (by omega)
  refine ⟨g1, ?_, g3.trans h3, ?_, ?_⟩
  · show (step (go k s B).1 (go k s B).2).2.1.count = _
    rw [g2, h2]
    push_cast
    omega
  · show (step (go k s B).1 (go k s B).2).2.2.l.length ≤ _
    omega
  · show (step (go k s B).1 (go k s B).2).2.2.tn ≤ _
    omega
end Cp
end Go.Proofs.YtlbdkcnbgdmpaaaDoor

/- CpuRun -/
/- The walk of cpu.Run. -/
namespace Go.Proofs.YtlbdkcnbgdmpaaaDoor
open Go.RowKit Go.Deep
set_option linter.unusedVariables false

/-- where Run stands -/
structure RunAt (w wr : World) (sb b : Nat) (O : Nat → Prop) (s : Cp.St) (B : Sb) (k : Nat) : Prop where
  st : StAt wr sb (Cp.go k s B).1
  goes : Cp.Goes s B k
  keeps : Keeps (fun j => j = sb ∨ O j) w wr
  bus : ∃ O', BInv b O' wr (Cp.go k s B).2 ∧ Grew O O' w
theorem RunAt.step {w wr w' : World} {sb b : Nat} {O O' : Nat → Prop} {s : Cp.St} {B : Sb} {k : Nat} {e : Ending} (hsb : sb < w.heap.size) (h : RunAt w wr sb b O s B k) (hB : BInv b O' wr (Cp.go k s B).2) (hG : Grew O O' w) (hc : s.count + k < 4611686018427387903) (h2 : StepOk wr w' sb b O' (Cp.step (Cp.go k s B).1 (Cp.go k s B).2) e) : RunAt w w' sb b O s B (k + 1) := by
  obtain ⟨O2, h3, h4, h5⟩ := h2.k
  have hsz := h.keeps.size
  refine ⟨h2.st, Cp.goes_step h.goes hB.brng hc, h.keeps.trans h5 (fun j hj e => ?_), O2, h3, fun j hj => ?_⟩
  · rcases e with e | e
    · exact .inl e
    · rcases hG j e with e | e
      · exact .inr e
      · omega
  · rcases h4 j hj with e | e
    · exact hG j e
    · exact .inr (by omega)

set_option maxRecDepth 100000 in
set_option maxHeartbeats 4000000 in
theorem run_any (sb b : Nat) (O : Nat → Prop) (s : Cp.St) (B : Sb) (n : Nat) (w : World) (ea : Nat → Addr) (E : Errs3 w ea) (hE : ∀ w', Keeps (fun j => j = sb ∨ O j) w w' → Errs3 w' ea) (hS : StAt w sb s) (hB : BInv b O w B) (hs : Cp.Rng s) (hn1 : n ≤ 100000) (hl : B.l.length + n < 1000000) (hn : B.tn + n < 1000000) (hc : s.count < 1000000000000000000) (hOs : ¬ O sb) :
    Calls Tryd.prog 28 #[.pointer (some ⟨sb, 0, none⟩), .pointer (some ⟨b, 0, none⟩), .int .i64 n] w fun e w' => e = .returned (.int .i64 n) ∧ RunAt w w' sb b O s B n := by
  have HST := Lib.hid (show RunAt w w sb b O s B 0 from ⟨hS, Cp.goes_0 hs, Keeps.refl _ _, O, hB, Grew.refl _ _⟩)
  have hlt := hS.lt
  have HE := Lib.hid hE
  have t1 : (if (100000 : Int) < (n : Int) then (100000 : Int) else (n : Int)) = (n : Int) := if_neg (by omega)
  have t2 : (if 0 < n then (n : Int) else (0 : Int)) = (n : Int) := by split <;> omega
  have HL := Lib.hid (show B.l.length + n < 1000000 ∧ B.tn + n < 1000000 ∧ s.count < 1000000000000000000 ∧ ¬ O sb from ⟨hl, hn, hc, hOs⟩)
  have HLT := Lib.hid hlt
  clear hS hB hs E hE hl hn hc hOs hlt
  go_enter Tryd.func28, Tryd.ntmps28
  go_wp2_with fail
  clear t1 t2
  go_loopw [11] (fun s11 wr => ∃ k : Nat, k ≤ n ∧ s11 = .int .i64 k ∧ RunAt w wr sb b O s B k) (fun s11 _ => n - (intOf s11).toNat)
  case atStart => exact ⟨0, by omega, rfl, HST.out⟩
  case round =>
    clear HST
    obtain ⟨k, hk, rfl, hR⟩ := hrel
    have HR := Lib.hid hR
    clear hR
    by_cases hlt : k < n
    · obtain ⟨O', hB, hG⟩ := HR.out.bus
      have HB := Lib.hid hB
      have HG := Lib.hid hG
      obtain ⟨l1, l2, l3, l4⟩ := HL.out
      have hg := HR.out.goes
      have g1 := hg.len
      have g2 := hg.tn
      have hOs' : ¬ O' sb := fun h => by
        rcases hG sb h with h5 | h5
        · exact l4 h5
        · have := HLT.out; omega
      have HSTEP := Lib.hid (step_all sb b O' _ _ wr ea (HE.out wr HR.out.keeps) HR.out.st hB hg.rng (by omega) (by omega) hOs' (Nat.lt_of_lt_of_le HLT.out HR.out.keeps.size))
      clear hB hG l1 l2 l3 l4 hg g1 g2 hOs'
      go_wp2_with fail
      refine HSTEP.out.mono ?_
      intro e w5 h
      have HW := Lib.hid (RunAt.step HLT.out HR.out HB.out HG.out (by have := HL.out; omega) h)
      obtain rfl := h.e
      clear h HSTEP
      go_wp2_with fail
      go_roundw
      case rel => exact ⟨k + 1, by omega, by go_num, HW.out⟩
      case measure => simp [intOf]; omega
    · obtain rfl : k = n := by omega
      go_wp2_with fail
      go_ret
      exact ⟨rfl, HR.out⟩
end Go.Proofs.YtlbdkcnbgdmpaaaDoor

/- CpuRuns -/
/- Runs of the processor, one behind the other; a run of no steps. -/
namespace Go.Proofs.YtlbdkcnbgdmpaaaDoor
open Go.RowKit Go.Deep
set_option linter.unusedVariables false

theorem RunAt.trans2 {w w1 w2 : World} {sb b : Nat} {O O1 : Nat → Prop} {s : Cp.St} {B : Sb} {a c : Nat} (h1 : RunAt w w1 sb b O s B a) (hG : Grew O O1 w) (h2 : RunAt w1 w2 sb b O1 (Cp.go a s B).1 (Cp.go a s B).2 c) : RunAt w w2 sb b O s B (a + c) := by
  have e := Cp.go_add a s B c
  have hsz := h1.keeps.size
  obtain ⟨O2, h3, h4⟩ := h2.bus
  have g1 := h1.goes
  have g2 := h2.goes
  refine ⟨by rw [e]; exact h2.st, ⟨by rw [e]; exact g2.rng, ?_, by rw [e]; exact g2.r0.trans g1.r0, ?_, ?_⟩, h1.keeps.trans h2.keeps (fun j hj x => ?_), O2, by rw [e]; exact h3, fun j hj => ?_⟩
  · rw [e, g2.count, g1.count]
    push_cast
    omega
  · rw [e]
    have := g2.len
    have := g1.len
    omega
  · rw [e]
    have := g2.tn
    have := g1.tn
    omega
  · rcases x with x | x
    · exact .inl x
    · rcases hG j x with y | y
      · exact .inr y
      · omega
  · rcases h4 j hj with y | y
    · exact hG j y
    · exact .inr (by omega)

set_option maxRecDepth 100000 in
set_option maxHeartbeats 2000000 in
theorem run_neg (sb b : Option Addr) (w : World) :
    Calls Tryd.prog 28 #[.pointer sb, .pointer b, .int .i64 (-1)] w fun e w' => e = .returned (.int .i64 0) ∧ w = w' := by
  go_enter Tryd.func28, Tryd.ntmps28
  go_wp2_with fail
  go_loopw [11] (fun s11 wr => s11 = .int .i64 0 ∧ w = wr) (fun s11 _ => 0)
  case atStart => exact ⟨rfl, rfl⟩
  case round =>
    obtain ⟨rfl, rfl⟩ := hrel
    go_wp2_with fail
    go_ret
    exact ⟨rfl, rfl⟩
end Go.Proofs.YtlbdkcnbgdmpaaaDoor

/- AsBusWalk -/
/- The walk of asBus over a bus and the reference's bus that hold the same. -/
namespace Go.Proofs.YtlbdkcnbgdmpaaaDoor
open Go.RowKit Go.Deep
set_option linter.unusedVariables false

section
variable {b r pb pw ph cp q wb tb hb rb : Nat} {ov tv tv' : Value} {O O' : Nat → Prop} {w : World} {s : Sb}
theorem output_at (wc : World) (h : BIn b r pb pw ph cp ov tv O w s) (hk : Keeps (fun _ => False) w wc) :
    Calls Tryd.prog 29 #[.pointer (some ⟨b, 0, none⟩)] wc fun e w' => e = .returned (.string ⟨s.l.toArray⟩) ∧ wc = w' :=
  output_any b r ov _ s.l s.lamp tv s.tn s.tr wc (h.keep hk (fun _ _ h => h)).bus
theorem ramOf_at (wc : World) (h : BIn b r pb pw ph cp ov tv O w s) (hk : Keeps (fun _ => False) w wc) :
    Calls Tryd.prog 24 #[.pointer (some ⟨b, 0, none⟩)] wc fun e w' => e = .returned (.pointer (some ⟨r, 0, none⟩)) ∧ wc = w' :=
  ramOf_any b r wc (by simp [World.cell?, (h.keep hk (fun _ _ h => h)).bus.box])
theorem trace_at (wc : World) (h : BIn b r pb pw ph cp ov tv O w s) (hk : Keeps (fun _ => False) w wc) (hn : s.tn < 1000000) :
    Calls Tryd.prog 31 #[.pointer (some ⟨b, 0, none⟩)] wc fun e w' => ∃ A cap, e = .returned (.slice A s.tn cap) ∧ TrAt w' A s.tn cap s.tr ∧ Keeps (fun _ => False) wc w' :=
  (trace_any b r ov _ _ s.lamp tv s.tn s.tr wc (h.keep hk (fun _ _ h => h)).bus hn h.acc.one).mono fun e w' ⟨v', he, ho, hk⟩ => by
    obtain ⟨A, cap, rfl, hT⟩ := TrAt.of_owns ho
    exact ⟨A, cap, he, hT, hk⟩
theorem words_at (wc : World) (h : BIn b r pb pw ph cp ov tv O w s) (hk : Keeps (fun _ => False) w wc) :
    Calls Tryd.prog 15 #[.pointer (some ⟨r, 0, none⟩)] wc fun e w' => ∃ g, e = .returned (.slice (some ⟨g, 0, none⟩) 4096 4096) ∧ w'.rowIs g 23 4096 (fun k => .int .u32 (be s.m (4 * k) 4)) ∧ Keeps (fun _ => False) wc w' :=
  (words_any r pb pw ph _ s.m wc (h.keep hk (fun _ _ h => h)).ram).mono fun e w' ⟨he, hr, hk⟩ => ⟨_, he, hr, hk⟩
theorem sameTrace_at (A B : Option Addr) (n ca cb : Nat) (tr : List Value) (wt wc : World) (h1 : TrAt wt A n ca tr) (h2 : TrAt w B n cb tr) (hacc : AccRow tr n) (hn : n < 1000000) (hk : Keeps (fun _ => False) w wc) (hk1 : Keeps (fun _ => False) wt wc) :
    Calls Tryd.prog 30 #[.slice A n ca, .slice B n cb] wc fun e w' => e = .returned (.bool true) ∧ Keeps (fun _ => False) wc w' :=
  sameTrace_same A B n ca cb tr wc (h1.keep hk1) (h2.keep hk) hacc hn
theorem alike_at (a wb : Nat) (m : Nat → Int) (wx wc : World) (hr : wx.rowIs a 23 4096 (fun i => .int .u32 (be m (4 * i) 4))) (hw : RowTo w wb 23 4096 (fun i => .int .u32 (be m (4 * i) 4))) (hk : Keeps (fun _ => False) w wc) (hk1 : Keeps (fun _ => False) wx wc) :
    Calls Tryd.prog 14 #[.slice (some ⟨a, 0, none⟩) 4096 4096, .slice (some ⟨wb, 0, none⟩) 4096 4096] wc fun e w' => e = .returned (.int .i64 1) ∧ Keeps (fun _ => False) wc w' :=
  alike_ram a wb m w wc (hk1.row hr (fun h => h)) hw hk
end

end Go.Proofs.YtlbdkcnbgdmpaaaDoor

/- CpuGoes -/
/- The walk of the law CpuGoes. -/
namespace Go.Proofs.YtlbdkcnbgdmpaaaDoor
open Go.RowKit Go.Deep
set_option linter.unusedVariables false
set_option linter.unusedSimpArgs false

/-- the state that New leaves -/
def stN (pc : Int) : Cp.St := ⟨fun _ => 0, 0, 0, pc, Cp.u (pc + 4), false, 0, 0, 0, 0, 0, 0⟩
theorem rngN (pc : Int) (h : 0 ≤ pc ∧ pc < 4294967296) : Cp.Rng (stN pc) := ⟨fun _ _ => Cp.W_0, Cp.W_0, Cp.W_0, h, Cp.W_u _, Cp.W_0, Cp.W_0, Cp.W_0, Cp.W_0, Cp.W_0, ⟨by show (0 : Int) ≤ 0; decide, by show (0 : Int) < _; decide⟩⟩

theorem range_keep {w w' : World} {b : Nat} {cs : List Value} (h : w.rangeAt b 0 cs) (k : Keeps (fun _ => False) w w') : w'.rangeAt b 0 cs := fun j v hv => k.cell' (h j v hv) (fun f => f)
theorem sameTrace_two (A B : Option Addr) (n ca cb : Nat) (tr : List Value) (w1 w2 wc : World) (h1 : TrAt w1 A n ca tr) (h2 : TrAt w2 B n cb tr) (hacc : AccRow tr n) (hn : n < 1000000) (k1 : Keeps (fun _ => False) w1 wc) (k2 : Keeps (fun _ => False) w2 wc) :
    Calls Tryd.prog 30 #[.slice A n ca, .slice B n cb] wc fun e w' => e = .returned (.bool true) ∧ Keeps (fun _ => False) wc w' :=
  sameTrace_same A B n ca cb tr wc (h1.keep k1) (h2.keep k2) hacc hn
theorem alike_two (g1 g2 : Nat) (m : Nat → Int) (w1 w2 wc : World) (h1 : w1.rowIs g1 23 4096 (fun k => .int .u32 (be m (4 * k) 4))) (h2 : w2.rowIs g2 23 4096 (fun k => .int .u32 (be m (4 * k) 4))) (k1 : Keeps (fun _ => False) w1 wc) (k2 : Keeps (fun _ => False) w2 wc) :
    Calls Tryd.prog 14 #[.slice (some ⟨g1, 0, none⟩) 4096 4096, .slice (some ⟨g2, 0, none⟩) 4096 4096] wc fun e w' => e = .returned (.int .i64 1) ∧ Keeps (fun _ => False) wc w' :=
  alike_same g1 g2 4096 4096 4096 (fun k => be m (4 * k) 4) wc (by omega) (by omega) (by omega) (fun i hi => (k1.row h1 (fun h => h)).cell hi) (fun i hi => (k2.row h2 (fun h => h)).cell hi)
theorem yieldsIf_eql_agg {P : Program} {ops : Array Oper} {S : World → Prop} {op : Oper} {a : Act} (hw : Region.wanted op (yielded ops a.tmps) = true) (t t' : TypeId) (x y : Operand) (ho : op.op = .binOp .eql t x y t') (cs : Array Value) (hg : P.eqGuardType P.depth t = false)
    (he : ∀ w, (Op.equal t (.agg cs) (.agg cs)).run P w = .ok true w) (hx : a.eval x = .agg cs) (hy : a.eval y = .agg cs) : YieldsIf P ops S op (.bool true) a :=
  .inl ⟨hw, fun w _ => by
    unfold execOp
    simp only [ho, hx, hy]
    rw [Sem.run_bind, run_bin_agg .eql (.inr rfl) _ x y _ w hg (he w)]
    rfl⟩

set_option maxRecDepth 100000 in
set_option maxHeartbeats 4000000 in
theorem cpuGoes_any (len cap : Nat) (A : Option Addr) (pc a c : Int) (w : World) (ws : Nat → Int) (ea : Nat → Addr) (E : Errs3 w ea) (hR : Reads w A len cap (fun i => .int .u32 (ws i))) (hc : cap ≤ 9223372036854775807) (hr : ∀ i, i < len → 0 ≤ ws i ∧ ws i < 4294967296) (hpc : 0 ≤ pc ∧ pc < 4294967296) :
    Calls Tryd.prog 7 #[.slice A len cap, .int .u32 pc, .int .i64 a, .int .i64 c] w fun e w' => e = .returned (.bool true) ∧ Keeps (fun _ => False) w w' := by
  have HE := Lib.hid E
  have HR := Lib.hid hR
  have HX := Lib.hid hr
  have hlen : len ≤ cap := hR.1
  clear E hR hr
  by_cases h0 : (300 : Int) < len
  · go_enter Tryd.func7, Tryd.ntmps7
    go_wp2_with fail
    refine (stepped_any _ ea HE.out).mono ?_
    rintro e w1 ⟨rfl, hk1⟩
    go_wp2_with fail
    go_ret
    exact ⟨rfl, hk1⟩
  by_cases h1 : a < 0
  · go_enter Tryd.func7, Tryd.ntmps7
    go_wp2_with fail
    refine (stepped_any _ ea HE.out).mono ?_
    rintro e w1 ⟨rfl, hk1⟩
    go_wp2_with fail
    go_ret
    exact ⟨rfl, hk1⟩
  by_cases h2 : 200 < a
  · go_enter Tryd.func7, Tryd.ntmps7
    go_wp2_with fail
    refine (stepped_any _ ea HE.out).mono ?_
    rintro e w1 ⟨rfl, hk1⟩
    go_wp2_with fail
    go_ret
    exact ⟨rfl, hk1⟩
  by_cases h3 : c < 0
  · go_enter Tryd.func7, Tryd.ntmps7
    go_wp2_with fail
    refine (stepped_any _ ea HE.out).mono ?_
    rintro e w1 ⟨rfl, hk1⟩
    go_wp2_with fail
    go_ret
    exact ⟨rfl, hk1⟩
  by_cases h4 : 200 < c
  · go_enter Tryd.func7, Tryd.ntmps7
    go_wp2_with fail
    refine (stepped_any _ ea HE.out).mono ?_
    rintro e w1 ⟨rfl, hk1⟩
    go_wp2_with fail
    go_ret
    exact ⟨rfl, hk1⟩
  obtain ⟨na, rfl⟩ := Int.eq_ofNat_of_zero_le (show 0 ≤ a by omega)
  obtain ⟨nc, rfl⟩ := Int.eq_ofNat_of_zero_le (show 0 ≤ c by omega)
  have ha : na ≤ 200 := by omega
  have hcc : nc ≤ 200 := by omega
  have t0 : decide ((300 : Int) < (len : Int)) = false := decide_eq_false h0
  have t1 : decide ((na : Int) < 0) = false := decide_eq_false h1
  have t2 : decide (200 < (na : Int)) = false := decide_eq_false h2
  have t3 : decide ((nc : Int) < 0) = false := decide_eq_false h3
  have t4 : decide (200 < (nc : Int)) = false := decide_eq_false h4
  have HAC := Lib.hid (show na ≤ 200 ∧ nc ≤ 200 from ⟨ha, hcc⟩)
  have tw : IntKind.i64.wrap ((na : Int) + (nc : Int)) = ((na + nc : Nat) : Int) := by
    rw [IntKind.wrap_i64]
    push_cast
    omega
  clear h0 h1 h2 h3 h4 ha hcc
  go_enter Tryd.func7, Tryd.ntmps7
  go_wp2_with fail
  refine (stepped_any _ ea HE.out).mono ?_
  rintro e w1 ⟨rfl, hk1⟩
  have HK1 := Lib.hid hk1
  clear hk1
  go_wp2_with fail
  clear t0 t1 t2 t3 t4
  refine (cpuNew_any pc _ hpc).mono ?_
  rintro e w2 ⟨rfl, hS2, hk2⟩
  have HS2 := Lib.hid (show StAt w2 w1.heap.size (stN pc) from hS2)
  have HSB := Lib.hid (show w.heap.size ≤ w1.heap.size from HK1.out.size)
  have HK2 := Lib.hid (HK1.out.trans hk2 (fun _ _ h => h))
  clear hS2 hk2 HK1
  generalize w1.heap.size = sb at *
  go_wp2_with fail
  refine (cpuNew_any pc _ hpc).mono ?_
  rintro e w3 ⟨rfl, hT3, hk3⟩
  have HT3 := Lib.hid (show StAt w3 w2.heap.size (stN pc) from hT3)
  have HTB := Lib.hid (show sb < w2.heap.size from HS2.out.lt)
  have HS3 := Lib.hid (HS2.out.keep hk3 (fun h => h))
  have HK3 := Lib.hid (HK2.out.trans hk3 (fun _ _ h => h))
  clear hT3 hk3 HK2 HS2
  generalize w2.heap.size = tb at *
  go_wp2_with fail
  refine (bus_new len cap A w3 ws (HR.out.keep HK3.out (fun _ _ _ h => h)) hc HX.out).mono ?_
  rintro e w4 ⟨b, O, rfl, hB, hk4, hO⟩
  have HB4 := Lib.hid hB
  have HO := Lib.hid (show ∀ j, O j → tb < j from fun j h => Nat.lt_of_lt_of_le HT3.out.lt (hO j h))
  have HS4 := Lib.hid (HS3.out.keep hk4 (fun h => h))
  have HT4 := Lib.hid (HT3.out.keep hk4 (fun h => h))
  have HK4 := Lib.hid (HK3.out.trans hk4 (fun _ _ h => h))
  clear hB hk4 hO HS3 HT3 HK3
  go_wp2_with fail
  refine (bus_new len cap A w4 ws (HR.out.keep HK4.out (fun _ _ _ h => h)) hc HX.out).mono ?_
  rintro e w5 ⟨d, D, rfl, hB, hk5, hD⟩
  have HD5 := Lib.hid hB
  have HD := Lib.hid (show ∀ j, D j → (tb < j ∧ ∀ i, O i → i < j) from fun j h => ⟨Nat.lt_of_lt_of_le HT4.out.lt (hD j h), fun i hi => Nat.lt_of_lt_of_le (HB4.out.lt i hi) (hD j h)⟩)
  have HB5 := Lib.hid (HB4.out.keep hk5 (fun _ _ h => h))
  have HS5 := Lib.hid (HS4.out.keep hk5 (fun h => h))
  have HT5 := Lib.hid (HT4.out.keep hk5 (fun h => h))
  have HK5 := Lib.hid (HK4.out.trans hk5 (fun _ _ h => h))
  clear hB hk5 hD HS4 HT4 HK4 HB4
  have HB0 := Lib.hid (show (s0 (min len 4096) ws).l.length = 0 ∧ (s0 (min len 4096) ws).tn = 0 from ⟨rfl, rfl⟩)
  generalize s0 (min len 4096) ws = B at *
  have HSN := Lib.hid (show (stN pc).count = 0 ∧ (stN pc).R 0 = 0 from ⟨rfl, rfl⟩)
  have HRN := Lib.hid (rngN pc hpc)
  generalize stN pc = S at *
  have hOs : ¬ O sb := fun h => by have := HO.out _ h; have := HTB.out; omega
  have hDt : ¬ D tb := fun h => by have := (HD.out _ h).1; omega
  have HDS := Lib.hid hDt
  have HEX := Lib.hid (fun (w' : World) (S : Nat → Prop) (hs : ∀ j, S j → w.heap.size ≤ j) (k : Keeps S w5 w') => HE.out.keep (show Keeps (fun _ => False) w w' from HK5.out.trans k (fun j hj e => by have := hs j e; omega)) ⟨fun h => h, fun h => h, fun h => h⟩)
  have HJ := Lib.hid (show ∀ j, (j = sb ∨ O j) → w.heap.size ≤ j from fun j h => by
    have := HSB.out
    have := HTB.out
    rcases h with h | h
    · omega
    · have := HO.out j h; omega)
  have HRUN1 := Lib.hid (run_any sb b O S B na w5 ea (HEX.out w5 (fun _ => False) (fun _ h => h.elim) (Keeps.refl _ _)) (fun w' k => HEX.out w' _ HJ.out k) HS5.out HB5.out HRN.out (by have := HAC.out; omega) (by have := HAC.out; have := HB0.out; omega) (by have := HAC.out; have := HB0.out; omega) (by rw [HSN.out.1]; omega) hOs)
  clear hOs hDt
  go_wp2_with fail
  refine HRUN1.out.mono ?_
  rintro e w6 ⟨rfl, h6⟩
  have H6 := Lib.hid h6
  obtain ⟨O1, hB6, hG6⟩ := h6.bus
  have HB6 := Lib.hid hB6
  have HG6 := Lib.hid hG6
  clear h6 hB6 hG6 HRUN1
  have hOs1 : ¬ O1 sb := fun h => by
    rcases HG6.out sb h with h | h
    · have := HO.out _ h; have := HTB.out; omega
    · have := HS5.out.lt; omega
  have HTR1 := Lib.hid (fun (w' : World) (k : Keeps (fun j => j = sb ∨ O1 j) w6 w') => H6.out.keeps.trans k (fun j hj e => by
    rcases e with e | e
    · exact .inl e
    · rcases HG6.out j e with e | e
      · exact .inr e
      · omega))
  have HRUN2 := Lib.hid (run_any sb b O1 _ _ nc w6 ea (HEX.out w6 _ HJ.out H6.out.keeps) (fun w' k => HEX.out w' _ HJ.out (HTR1.out w' k)) H6.out.st HB6.out H6.out.goes.rng (by have := HAC.out; omega) (by have := HAC.out; have := HB0.out; have := H6.out.goes.len; omega) (by have := HAC.out; have := HB0.out; have := H6.out.goes.tn; omega) (by have := H6.out.goes.count; have := HSN.out.1; have := HAC.out; omega) hOs1)
  clear hOs1
  go_wp2_with fail
  refine HRUN2.out.mono ?_
  rintro e w7 ⟨rfl, h7⟩
  have H7 := Lib.hid (H6.out.trans2 HG6.out h7)
  clear h7 HRUN2 HTR1 HB6 HG6 H6
  have HT7 := Lib.hid (HT5.out.keep H7.out.keeps (fun e => by
    rcases e with e | e
    · have := HTB.out; omega
    · have := HO.out _ e; omega))
  have HD7 := Lib.hid (HD5.out.keep H7.out.keeps (fun j hj e => by
    have h1 := HD.out j hj
    rcases e with e | e
    · have := HTB.out; omega
    · have := h1.2 j e; omega))
  have HJT := Lib.hid (show ∀ j, (j = tb ∨ D j) → w.heap.size ≤ j from fun j h => by
    have := HSB.out
    have := HTB.out
    rcases h with h | h
    · omega
    · have := (HD.out j h).1; omega)
  have HK7 := Lib.hid (show Keeps (fun j => w.heap.size ≤ j) w5 w7 from H7.out.keeps.mono (fun j _ h => HJ.out j h))
  have HTR7 := Lib.hid (fun (w' : World) (k : Keeps (fun j => j = tb ∨ D j) w7 w') => HK7.out.trans k (fun j hj e => HJT.out j e))
  have hrun3 := (run_any tb d D S B (na + nc) w7 ea (HEX.out w7 _ (fun _ h => h) HK7.out) (fun w' k => HEX.out w' _ (fun _ h => h) (HTR7.out w' k)) HT7.out HD7.out HRN.out (by have := HAC.out; omega) (by have := HAC.out; have := HB0.out; omega) (by have := HAC.out; have := HB0.out; omega) (by rw [HSN.out.1]; omega) HDS.out)
  rw [show (((na + nc : Nat)) : Int) = (na : Int) + (nc : Int) by push_cast; rfl] at hrun3
  have HRUN3 := Lib.hid hrun3
  clear hrun3
  go_wp2_with fail
  refine HRUN3.out.mono ?_
  rintro e w8 ⟨rfl, h8⟩
  have HS8 := Lib.hid (H7.out.st.keep h8.keeps (fun e => by
    rcases e with e | e
    · have := HTB.out; omega
    · have := (HD.out _ e).1; have := HTB.out; omega))
  obtain ⟨O2, hB7, hG7⟩ := H7.out.bus
  have hB8 := hB7.keep h8.keeps (fun j hj e => by
    have h5 := HT5.out.lt
    rcases hG7 j hj with h1 | h1
    · rcases e with e | e
      · have := HO.out j h1; omega
      · have := (HD.out j e).2 j h1; omega
    · rcases e with e | e
      · omega
      · have := HD5.out.lt j e; omega)
  obtain ⟨D2, hD8, _⟩ := h8.bus
  have HT8 := Lib.hid h8.st
  have HK8 := Lib.hid (show Keeps (fun _ => False) w w8 from (HK5.out.trans HK7.out (fun j hj e => by omega)).trans h8.keeps (fun j hj e => by have := HJT.out j e; omega))
  have HGO := Lib.hid H7.out.goes
  have HB8 := Lib.hid hB8
  have HD8 := Lib.hid hD8
  clear hB7 hG7 hB8 hD8 h8 HRUN3 H7 HT7 HD7 HTR7 HK7 HT5 HS5 HB5 HD5 HEX HJ HJT HO HD
  go_wp2_with fail
  refine (run_neg _ _ _).mono ?_
  rintro e w' ⟨rfl, rfl⟩
  have hg := HGO.out
  have HTN := Lib.hid (show (Cp.go (na + nc) S B).2.tn < 1000000 by have := hg.tn; have := HAC.out; have := HB0.out; omega)
  have HCN := Lib.hid (show (Cp.go (na + nc) S B).1.count = (na : Int) + nc by have h1 := hg.count; rw [HSN.out.1] at h1; rw [h1]; push_cast; omega)
  have HR0 := Lib.hid (hg.r0.trans HSN.out.2)
  have HRG := Lib.hid hg.rng
  clear hg HGO
  generalize Cp.go (na + nc) S B = G at *
  obtain ⟨r, pb, pw, ph, cp, ov, tv, hB⟩ := HB8.out
  obtain ⟨r2, pb2, pw2, ph2, cp2, ov2, tv2, hD⟩ := HD8.out
  have HBI := Lib.hid hB
  have HDI := Lib.hid hD
  clear hB hD HB8 HD8
  go_wp2_with fail
  have HACC := Lib.hid HBI.out.acc
  have hr1 := HS8.out.range
  have hr2 := HT8.out.range
  have C42 : Hid (w8.cell? ⟨sb, 42, none⟩ = some (.int .i64 ((na : Int) + nc))) := Lib.hid (by
    have := HS8.out.cells.2.2.2.2.2.2.2.2.2.2
    rw [HCN.out] at this
    exact this)
  have C0 : Hid (w8.cell? ⟨sb, 0, none⟩ = some (.int .u32 0)) := Lib.hid (by
    have := HS8.out.reg 0 (by omega)
    rw [HR0.out] at this
    exact this)
  have HI : Hid ((Tryd.prog.info? 53).map (·.size) = some (stL G.1).length) := Lib.hid (by rw [stL_len]; exact size_st)
  have HU := Lib.hid Tryd.underlying53
  have HQ := Lib.hid (fun w => equal_st w G.1 HRG.out)
  generalize stL G.1 = cs at hr1 hr2 HI HQ
  refine wp_region_held_drew (S := fun w' => Keeps (fun _ => False) w8 w') (by kernel_rfl) (Keeps.refl _ w8).drew (fun hH0 => ?_)
  refine wpAnyH_take (i := 0) (v := ?_) rfl (by kernel_rfl) (by kernel_rfl) (by kernel_rfl) (fun _ _ _ h => h) (Or.inl ⟨by rfl, ?_⟩) hH0 ?_
  rotate_left
  · intro w' hSw
    go_simp
    try with_reducible rfl
  simp only [Act.put, List.setIfInBounds_toArray, List.set_cons_zero, List.set_cons_succ]
  refine wpAnyH_take (i := 1) (v := ?_) rfl (by kernel_rfl) (by kernel_rfl) (by kernel_rfl) (fun _ _ _ h => h) (Or.inl ⟨by rfl, ?_⟩) hH0 ?_
  rotate_left
  · intro w' hSw
    go_simp
    try with_reducible rfl
  simp only [Act.put, List.setIfInBounds_toArray, List.set_cons_zero, List.set_cons_succ]
  refine wpAnyH_take (i := 2) (v := .agg cs.toArray) rfl (by kernel_rfl) (by kernel_rfl) (by kernel_rfl) (fun _ _ _ h => h) (yieldsIf_load_mid (by rfl) 53 (.tmp 94) rfl sb 0 (by go_simp) cs _ (fun w' hSw => range_keep hr1 hSw) HU.out rfl HI.out) hH0 ?_
  simp only [Act.put, List.setIfInBounds_toArray, List.set_cons_zero, List.set_cons_succ]
  refine wpAnyH_take (i := 3) (v := ?_) rfl (by kernel_rfl) (by kernel_rfl) (by kernel_rfl) (fun _ _ _ h => h) (Or.inl ⟨by rfl, ?_⟩) hH0 ?_
  rotate_left
  · intro w' hSw
    go_simp
    try with_reducible rfl
  simp only [Act.put, List.setIfInBounds_toArray, List.set_cons_zero, List.set_cons_succ]
  refine wpAnyH_take (i := 4) (v := ?_) rfl (by kernel_rfl) (by kernel_rfl) (by kernel_rfl) (fun _ _ _ h => h) (Or.inl ⟨by rfl, ?_⟩) hH0 ?_
  rotate_left
  · intro w' hSw
    go_simp
    try with_reducible rfl
  simp only [Act.put, List.setIfInBounds_toArray, List.set_cons_zero, List.set_cons_succ]
  refine wpAnyH_take (i := 5) (v := .agg cs.toArray) rfl (by kernel_rfl) (by kernel_rfl) (by kernel_rfl) (fun _ _ _ h => h) (yieldsIf_load_mid (by rfl) 53 (.tmp 97) rfl tb 0 (by go_simp) cs _ (fun w' hSw => range_keep hr2 hSw) HU.out rfl HI.out) hH0 ?_
  simp only [Act.put, List.setIfInBounds_toArray, List.set_cons_zero, List.set_cons_succ]
  refine wpAnyH_take (i := 6) (v := .bool true) rfl (by kernel_rfl) (by kernel_rfl) (by kernel_rfl) (fun _ _ _ h => h) (yieldsIf_eql_agg (by rfl) 53 53 (.tmp 95) (.tmp 98) rfl cs.toArray eqg_st HQ.out (by go_simp) (by go_simp)) hH0 ?_
  simp only [Act.put, List.setIfInBounds_toArray, List.set_cons_zero, List.set_cons_succ]
  refine wpAnyH_take (i := 7) (v := ?_) rfl (by kernel_rfl) (by kernel_rfl) (by kernel_rfl) (fun _ _ _ h => h) (Or.inl ⟨by rfl, ?_⟩) hH0 ?_
  rotate_left
  · intro w' hSw
    go_simp
    try with_reducible rfl
  simp only [Act.put, List.setIfInBounds_toArray, List.set_cons_zero, List.set_cons_succ]
  refine wpAnyH_take (i := 8) (v := ?_) rfl (by kernel_rfl) (by kernel_rfl) (by kernel_rfl) (fun _ _ _ h => h) (Or.inl ⟨by go_simp, ?_⟩) hH0 ?_
  rotate_left
  · intro w' hSw
    go_simp
    try with_reducible rfl
  simp only [Act.put, List.setIfInBounds_toArray, List.set_cons_zero, List.set_cons_succ]
  refine wpAnyH_take (i := 9) (v := ?_) rfl (by kernel_rfl) (by kernel_rfl) (by kernel_rfl) (fun _ _ _ h => h) (Or.inl ⟨by go_simp, ?_⟩) hH0 ?_
  rotate_left
  · intro w' hSw
    go_simp
    try with_reducible rfl
  simp only [Act.put, List.setIfInBounds_toArray, List.set_cons_zero, List.set_cons_succ]
  refine wpAnyH_take (i := 10) (v := ?_) rfl (by kernel_rfl) (by kernel_rfl) (by kernel_rfl) (fun _ _ _ h => h) (Or.inl ⟨by go_simp, ?_⟩) hH0 ?_
  rotate_left
  · intro w' hSw
    go_simp
    try with_reducible rfl
  simp only [Act.put, List.setIfInBounds_toArray, List.set_cons_zero, List.set_cons_succ]
  refine wpAnyH_take (i := 11) (v := ?_) rfl (by kernel_rfl) (by kernel_rfl) (by kernel_rfl) (fun _ _ _ h => h) (Or.inl ⟨by go_simp, ?_⟩) hH0 ?_
  rotate_left
  · intro w' hSw
    have c := Keeps.cell' hSw C42.out (fun f => f)
    go_simp
    try with_reducible rfl
  simp only [Act.put, List.setIfInBounds_toArray, List.set_cons_zero, List.set_cons_succ]
  refine wpAnyH_take (i := 12) (v := ?_) rfl (by kernel_rfl) (by kernel_rfl) (by kernel_rfl) (fun _ _ _ h => h) (Or.inl ⟨by go_simp, ?_⟩) hH0 ?_
  rotate_left
  · intro w' hSw
    go_simp
    try with_reducible rfl
  simp only [Act.put, List.setIfInBounds_toArray, List.set_cons_zero, List.set_cons_succ]
  refine wpAnyH_take (i := 13) (v := ?_) rfl (by kernel_rfl) (by kernel_rfl) (by kernel_rfl) (fun _ _ _ h => h) (Or.inl ⟨by go_simp, ?_⟩) hH0 ?_
  rotate_left
  · intro w' hSw
    go_simp
    try with_reducible rfl
  simp only [Act.put, List.setIfInBounds_toArray, List.set_cons_zero, List.set_cons_succ]
  refine wpAnyH_take (i := 14) (v := ?_) rfl (by kernel_rfl) (by kernel_rfl) (by kernel_rfl) (fun _ _ _ h => h) (Or.inl ⟨by go_simp, ?_⟩) hH0 ?_
  rotate_left
  · intro w' hSw
    go_simp
    try with_reducible rfl
  simp only [Act.put, List.setIfInBounds_toArray, List.set_cons_zero, List.set_cons_succ]
  refine wpAnyH_take (i := 15) (v := ?_) rfl (by kernel_rfl) (by kernel_rfl) (by kernel_rfl) (fun _ _ _ h => h) (Or.inl ⟨by go_simp, ?_⟩) hH0 ?_
  rotate_left
  · intro w' hSw
    go_simp
    try with_reducible rfl
  simp only [Act.put, List.setIfInBounds_toArray, List.set_cons_zero, List.set_cons_succ]
  refine wpAnyH_take (i := 16) (v := ?_) rfl (by kernel_rfl) (by kernel_rfl) (by kernel_rfl) (fun _ _ _ h => h) (Or.inl ⟨by rfl, ?_⟩) hH0 ?_
  rotate_left
  · intro w' hSw
    go_simp
    try with_reducible rfl
  simp only [Act.put, List.setIfInBounds_toArray, List.set_cons_zero, List.set_cons_succ]
  refine wpAnyH_take (i := 17) (v := ?_) rfl (by kernel_rfl) (by kernel_rfl) (by kernel_rfl) (fun _ _ _ h => h) (Or.inl ⟨by rfl, ?_⟩) hH0 ?_
  rotate_left
  · intro w' hSw
    go_simp
    try with_reducible rfl
  simp only [Act.put, List.setIfInBounds_toArray, List.set_cons_zero, List.set_cons_succ]
  refine wpAnyH_take (i := 18) (v := ?_) rfl (by kernel_rfl) (by kernel_rfl) (by kernel_rfl) (fun _ _ _ h => h) (Or.inl ⟨by go_simp, ?_⟩) hH0 ?_
  rotate_left
  · intro w' hSw
    go_simp
    try with_reducible rfl
  simp only [Act.put, List.setIfInBounds_toArray, List.set_cons_zero, List.set_cons_succ]
  refine wpAnyH_take (i := 19) (v := ?_) rfl (by kernel_rfl) (by kernel_rfl) (by kernel_rfl) (fun _ _ _ h => h) (Or.inl ⟨by go_simp, ?_⟩) hH0 ?_
  rotate_left
  · intro w' hSw
    go_simp
    try with_reducible rfl
  simp only [Act.put, List.setIfInBounds_toArray, List.set_cons_zero, List.set_cons_succ]
  refine wpAnyH_take (i := 20) (v := ?_) rfl (by kernel_rfl) (by kernel_rfl) (by kernel_rfl) (fun _ _ _ h => h) (Or.inl ⟨by go_simp, ?_⟩) hH0 ?_
  rotate_left
  · intro w' hSw
    go_simp
    try with_reducible rfl
  simp only [Act.put, List.setIfInBounds_toArray, List.set_cons_zero, List.set_cons_succ]
  refine wpAnyH_take (i := 21) (v := ?_) rfl (by kernel_rfl) (by kernel_rfl) (by kernel_rfl) (fun _ _ _ h => h) (Or.inl ⟨by go_simp, ?_⟩) hH0 ?_
  rotate_left
  · intro w' hSw
    go_simp
    try with_reducible rfl
  simp only [Act.put, List.setIfInBounds_toArray, List.set_cons_zero, List.set_cons_succ]
  refine wpAnyH_take (i := 22) (v := ?_) rfl (by kernel_rfl) (by kernel_rfl) (by kernel_rfl) (fun _ _ _ h => h) (Or.inl ⟨by go_simp, ?_⟩) hH0 ?_
  rotate_left
  · intro w' hSw
    have c := Keeps.cell' hSw C0.out (fun f => f)
    go_simp
    try with_reducible rfl
  simp only [Act.put, List.setIfInBounds_toArray, List.set_cons_zero, List.set_cons_succ]
  refine wpAnyH_take (i := 23) (v := ?_) rfl (by kernel_rfl) (by kernel_rfl) (by kernel_rfl) (fun _ _ _ h => h) (Or.inl ⟨by go_simp, ?_⟩) hH0 ?_
  rotate_left
  · intro w' hSw
    go_simp
    try with_reducible rfl
  simp only [Act.put, List.setIfInBounds_toArray, List.set_cons_zero, List.set_cons_succ]
  refine wpAnyH_take (i := 24) (v := ?_) rfl (by kernel_rfl) (by kernel_rfl) (by kernel_rfl) (fun _ _ _ h => h) (Or.inl ⟨by rfl, ?_⟩) hH0 ?_
  rotate_left
  · intro w' hSw
    go_simp
    try with_reducible rfl
  simp only [Act.put, List.setIfInBounds_toArray, List.set_cons_zero, List.set_cons_succ]
  refine wpAnyH_take (i := 25) (v := ?_) rfl (by kernel_rfl) (by kernel_rfl) (by kernel_rfl) (fun _ _ _ h => h) (Or.inl ⟨by rfl, ?_⟩) hH0 ?_
  rotate_left
  · intro w' hSw
    go_simp
    try with_reducible rfl
  simp only [Act.put, List.setIfInBounds_toArray, List.set_cons_zero, List.set_cons_succ]
  refine wpAnyH_take (i := 26) (v := ?_) rfl (by kernel_rfl) (by kernel_rfl) (by kernel_rfl) (fun _ _ _ h => h) (Or.inl ⟨by go_simp, ?_⟩) hH0 ?_
  rotate_left
  · intro w' hSw
    go_simp
    try with_reducible rfl
  simp only [Act.put, List.setIfInBounds_toArray, List.set_cons_zero, List.set_cons_succ]
  refine wpAnyH_take (i := 28) (v := ?_) rfl (by kernel_rfl) (by kernel_rfl) (by kernel_rfl) (fun _ _ _ h => h) (Or.inl ⟨by go_simp, ?_⟩) hH0 ?_
  rotate_left
  · intro w' hSw
    go_simp
    try with_reducible rfl
  simp only [Act.put, List.setIfInBounds_toArray, List.set_cons_zero, List.set_cons_succ]
  refine wpAnyH_ready (rs := [27]) (by kernel_rfl) (by simp) ?_
  refine AllReadyH.cons rfl (fun K hK => ?_) AllReadyH.nil
  go_simp
  refine (output_at _ HBI.out hH0).mono ?_
  rintro e w' ⟨rfl, rfl⟩
  go_wp2_with fail
  refine hK.out _ _ hH0 (fun _ => ?_)
  clear hK K
  try simp only [Act.put, List.setIfInBounds_toArray, List.set_cons_zero, List.set_cons_succ]
  refine wpAnyH_ready (rs := [29]) (by kernel_rfl) (by simp) ?_
  refine AllReadyH.cons rfl (fun K hK => ?_) AllReadyH.nil
  go_simp
  refine (output_at _ HDI.out hH0).mono ?_
  rintro e w' ⟨rfl, rfl⟩
  go_wp2_with fail
  refine hK.out _ _ hH0 (fun _ => ?_)
  clear hK K
  try simp only [Act.put, List.setIfInBounds_toArray, List.set_cons_zero, List.set_cons_succ]
  refine wpAnyH_take (i := 30) (v := ?_) rfl (by kernel_rfl) (by kernel_rfl) (by kernel_rfl) (fun _ _ _ h => h) (Or.inl ⟨by go_simp, ?_⟩) hH0 ?_
  rotate_left
  · intro w' hSw
    go_simp
    try with_reducible rfl
  simp only [Act.put, List.setIfInBounds_toArray, List.set_cons_zero, List.set_cons_succ]
  refine wpAnyH_take (i := 31) (v := ?_) rfl (by kernel_rfl) (by kernel_rfl) (by kernel_rfl) (fun _ _ _ h => h) (Or.inl ⟨by rfl, ?_⟩) hH0 ?_
  rotate_left
  · intro w' hSw
    go_simp
    try with_reducible rfl
  simp only [Act.put, List.setIfInBounds_toArray, List.set_cons_zero, List.set_cons_succ]
  refine wpAnyH_take (i := 32) (v := ?_) rfl (by kernel_rfl) (by kernel_rfl) (by kernel_rfl) (fun _ _ _ h => h) (Or.inl ⟨by rfl, ?_⟩) hH0 ?_
  rotate_left
  · intro w' hSw
    go_simp
    try with_reducible rfl
  simp only [Act.put, List.setIfInBounds_toArray, List.set_cons_zero, List.set_cons_succ]
  refine wpAnyH_take (i := 33) (v := ?_) rfl (by kernel_rfl) (by kernel_rfl) (by kernel_rfl) (fun _ _ _ h => h) (Or.inl ⟨by go_simp, ?_⟩) hH0 ?_
  rotate_left
  · intro w' hSw
    go_simp
    try with_reducible rfl
  simp only [Act.put, List.setIfInBounds_toArray, List.set_cons_zero, List.set_cons_succ]
  refine wpAnyH_take (i := 35) (v := ?_) rfl (by kernel_rfl) (by kernel_rfl) (by kernel_rfl) (fun _ _ _ h => h) (Or.inl ⟨by go_simp, ?_⟩) hH0 ?_
  rotate_left
  · intro w' hSw
    go_simp
    try with_reducible rfl
  simp only [Act.put, List.setIfInBounds_toArray, List.set_cons_zero, List.set_cons_succ]
  refine wpAnyH_ready (rs := [34]) (by kernel_rfl) (by simp) ?_
  refine AllReadyH.cons rfl (fun K hK => ?_) AllReadyH.nil
  go_simp
  refine (trace_at _ HBI.out hH0 HTN.out).mono ?_
  rintro e wt1 ⟨A1, cap1, rfl, hT1, hkt1⟩
  go_wp2_with fail
  have hH1 := Keeps.trans hH0 hkt1 (fun _ _ h => h)
  refine hK.out _ _ hH1 (fun _ => ?_)
  clear hK K
  try simp only [Act.put, List.setIfInBounds_toArray, List.set_cons_zero, List.set_cons_succ]
  refine wpAnyH_ready (rs := [36]) (by kernel_rfl) (by simp) ?_
  refine AllReadyH.cons rfl (fun K hK => ?_) AllReadyH.nil
  go_simp
  refine (trace_at _ HDI.out hH1 HTN.out).mono ?_
  rintro e wt2 ⟨A2, cap2, rfl, hT2, hkt2⟩
  go_wp2_with fail
  have hH2 := Keeps.trans hH1 hkt2 (fun _ _ h => h)
  refine hK.out _ _ hH2 (fun _ => ?_)
  clear hK K
  try simp only [Act.put, List.setIfInBounds_toArray, List.set_cons_zero, List.set_cons_succ]
  refine wpAnyH_ready (rs := [37]) (by kernel_rfl) (by simp) ?_
  refine AllReadyH.cons rfl (fun K hK => ?_) AllReadyH.nil
  go_simp
  refine (sameTrace_two A1 A2 _ cap1 cap2 _ wt1 wt2 _ hT1 hT2 HACC.out HTN.out hkt2 (Keeps.refl _ _)).mono ?_
  rintro e ws ⟨rfl, hks⟩
  go_wp2_with fail
  have hH3 := Keeps.trans hH2 hks (fun _ _ h => h)
  refine hK.out _ _ hH3 (fun _ => ?_)
  clear hK K
  try simp only [Act.put, List.setIfInBounds_toArray, List.set_cons_zero, List.set_cons_succ]
  refine wpAnyH_take (i := 38) (v := ?_) rfl (by kernel_rfl) (by kernel_rfl) (by kernel_rfl) (fun _ _ _ h => h) (Or.inl ⟨by rfl, ?_⟩) hH3 ?_
  rotate_left
  · intro w' hSw
    go_simp
    try with_reducible rfl
  simp only [Act.put, List.setIfInBounds_toArray, List.set_cons_zero, List.set_cons_succ]
  refine wpAnyH_take (i := 39) (v := ?_) rfl (by kernel_rfl) (by kernel_rfl) (by kernel_rfl) (fun _ _ _ h => h) (Or.inl ⟨by rfl, ?_⟩) hH3 ?_
  rotate_left
  · intro w' hSw
    go_simp
    try with_reducible rfl
  simp only [Act.put, List.setIfInBounds_toArray, List.set_cons_zero, List.set_cons_succ]
  refine wpAnyH_take (i := 40) (v := ?_) rfl (by kernel_rfl) (by kernel_rfl) (by kernel_rfl) (fun _ _ _ h => h) (Or.inl ⟨by go_simp, ?_⟩) hH3 ?_
  rotate_left
  · intro w' hSw
    go_simp
    try with_reducible rfl
  simp only [Act.put, List.setIfInBounds_toArray, List.set_cons_zero, List.set_cons_succ]
  refine wpAnyH_take (i := 43) (v := ?_) rfl (by kernel_rfl) (by kernel_rfl) (by kernel_rfl) (fun _ _ _ h => h) (Or.inl ⟨by go_simp, ?_⟩) hH3 ?_
  rotate_left
  · intro w' hSw
    go_simp
    try with_reducible rfl
  simp only [Act.put, List.setIfInBounds_toArray, List.set_cons_zero, List.set_cons_succ]
  refine wpAnyH_ready (rs := [41]) (by kernel_rfl) (by simp) ?_
  refine AllReadyH.cons rfl (fun K hK => ?_) AllReadyH.nil
  go_simp
  refine (ramOf_at _ HBI.out hH3).mono ?_
  rintro e w' ⟨rfl, rfl⟩
  go_wp2_with fail
  refine hK.out _ _ hH3 (fun _ => ?_)
  clear hK K
  try simp only [Act.put, List.setIfInBounds_toArray, List.set_cons_zero, List.set_cons_succ]
  refine wpAnyH_ready (rs := [42]) (by kernel_rfl) (by simp) ?_
  refine AllReadyH.cons rfl (fun K hK => ?_) AllReadyH.nil
  go_simp
  refine (words_at _ HBI.out hH3).mono ?_
  rintro e wx1 ⟨g1, rfl, hra1, hkx1⟩
  go_wp2_with fail
  have hH4 := Keeps.trans hH3 hkx1 (fun _ _ h => h)
  refine hK.out _ _ hH4 (fun _ => ?_)
  clear hK K
  try simp only [Act.put, List.setIfInBounds_toArray, List.set_cons_zero, List.set_cons_succ]
  refine wpAnyH_ready (rs := [44]) (by kernel_rfl) (by simp) ?_
  refine AllReadyH.cons rfl (fun K hK => ?_) AllReadyH.nil
  go_simp
  refine (ramOf_at _ HDI.out hH4).mono ?_
  rintro e w' ⟨rfl, rfl⟩
  go_wp2_with fail
  refine hK.out _ _ hH4 (fun _ => ?_)
  clear hK K
  try simp only [Act.put, List.setIfInBounds_toArray, List.set_cons_zero, List.set_cons_succ]
  refine wpAnyH_ready (rs := [45]) (by kernel_rfl) (by simp) ?_
  refine AllReadyH.cons rfl (fun K hK => ?_) AllReadyH.nil
  go_simp
  refine (words_at _ HDI.out hH4).mono ?_
  rintro e wx2 ⟨g2, rfl, hra2, hkx2⟩
  go_wp2_with fail
  have hH5 := Keeps.trans hH4 hkx2 (fun _ _ h => h)
  refine hK.out _ _ hH5 (fun _ => ?_)
  clear hK K
  try simp only [Act.put, List.setIfInBounds_toArray, List.set_cons_zero, List.set_cons_succ]
  refine wpAnyH_ready (rs := [46]) (by kernel_rfl) (by simp) ?_
  refine AllReadyH.cons rfl (fun K hK => ?_) AllReadyH.nil
  go_simp
  refine (alike_two g1 g2 _ wx1 wx2 _ hra1 hra2 hkx2 (Keeps.refl _ _)).mono ?_
  rintro e wy ⟨rfl, hky⟩
  go_wp2_with fail
  have hH6 := Keeps.trans hH5 hky (fun _ _ h => h)
  refine hK.out _ _ hH6 (fun _ => ?_)
  clear hK K
  try simp only [Act.put, List.setIfInBounds_toArray, List.set_cons_zero, List.set_cons_succ]
  refine wpAnyH_ready (rs := [47]) (by kernel_rfl) (by simp) ?_
  refine AllReadyH.cons rfl (fun K hK => ?_) AllReadyH.nil
  go_simp
  refine hK.out _ _ hH6 (fun _ => ?_)
  clear hK K
  try simp only [Act.put, List.setIfInBounds_toArray, List.set_cons_zero, List.set_cons_succ]
  refine wpAnyH_ready (rs := [48]) (by kernel_rfl) (by simp) ?_
  refine AllReadyH.cons rfl (fun K hK => ?_) AllReadyH.nil
  go_simp
  refine hK.out _ _ hH6 (fun _ => ?_)
  clear hK K
  try simp only [Act.put, List.setIfInBounds_toArray, List.set_cons_zero, List.set_cons_succ]
  refine wpAnyH_ready (rs := [49]) (by kernel_rfl) (by simp) ?_
  refine AllReadyH.cons rfl (fun K hK => ?_) AllReadyH.nil
  go_simp
  refine hK.out _ _ hH6 (fun _ => ?_)
  clear hK K
  try simp only [Act.put, List.setIfInBounds_toArray, List.set_cons_zero, List.set_cons_succ]
  refine wpAnyH_done (by kernel_rfl) ?_ _
  go_wp2_with fail
  go_ret
  refine ⟨?_, HK8.out.trans hH6 (fun _ _ h => h)⟩
  go_simp
end Go.Proofs.YtlbdkcnbgdmpaaaDoor

/- CpuGoesLaw -/
/-
  CpuGoes: for every input the law returns true, and each argument reads behind the call as it read before. Condition: the listed variables hold what the program's text lays in them (the card ties that to the text).
-/
namespace Go.Proofs.YtlbdkcnbgdmpaaaDoor.cpuGoes
open Go.ChangeShapes Go.WideShapes Go.ChangeAt Go.RowKit
set_option linter.unusedVariables false

theorem door_met (os : Os) (args : Array Value) : laidMetH Tryd.prog Rows.cpuGoesRow.laid ((World.doorLaid Tryd.prog 400 os).forCall (fun _ _ => 0) ⟨#[], args, []⟩).memory :=
  laidMetH_of_parts3 (fuel := 8) (laidMet_of_run' 8 (by kernel_rfl) (by kernel_rfl)) (by kernel_rfl) (by kernel_rfl)

set_option maxRecDepth 100000 in
theorem lifted (os : Os) (started : os.Started) (H : Type) (enc : TypeId × Value → H) :
    ReturnsInHanded {} Tryd.checked os 7 .any (fun w args => (Rows.cpuGoesSpec.pre enc Tryd.prog Tryd.f7 [] false w args ∧ laidMetH Tryd.prog Rows.cpuGoesRow.laid w) ∧ sizedMet enc Tryd.prog Tryd.f7 (OpenSpec.ofChange Rows.cpuGoesSpec) false w args)
      (Rows.cpuGoesSpec.post enc Tryd.prog Tryd.f7 false true false false) := by
  refine returnsInHanded_of_change_and (C := Tryd.checked) (X := fun w _ => laidMetH Tryd.prog Rows.cpuGoesRow.laid w) (fun _ _ _ hh h => h.of_heap hh) Tryd.own started (by kernel_rfl) Tryd.func7
    (ChangeSpec.witness_shaped (enc := enc) (C := Tryd.checked) (os := os) (X := fun w _ => laidMetH Tryd.prog Rows.cpuGoesRow.laid w) false (World.doorLaid Tryd.prog 400 os) #[.slice none 0 0, .int .u32 0, .int .i64 0, .int .i64 0] 8 rfl (World.shaped_of_RefB (by kernel_rfl) (by kernel_rfl)) (by kernel_rfl) (by kernel_rfl) (by kernel_rfl) (door_met os _)) ?_
  intro W base args ds gs before hval0 hW _ _ hL _
  have hval : ∀ (j : Nat) t v, Tryd.f7.params[j]? = some t → args[j]? = some v → Value.okWide Tryd.prog W .any base t v := hval0
  have hW' := hW
  obtain ⟨p, q, hA0, hV, rfl, hfz, hnd⟩ := hW
  have hA : DataW.TrodAll enc Tryd.prog W 0 (fun _ => true) true Tryd.f7.params.toList args.toList ds p := hA0
  rw [Tryd.params7] at hA hval
  obtain ⟨v0, vs0, d0, ds0, p0, q0, hargs, rfl, rfl, h0, r0⟩ := trodAll_cons hA
  obtain ⟨v1, vs1, d1, ds1, p1, q1, rfl, rfl, rfl, h1, r1⟩ := trodAll_cons r0
  obtain ⟨v2, vs2, d2, ds2, p2, q2, rfl, rfl, rfl, h2, r2⟩ := trodAll_cons r1
  obtain ⟨v3, vs3, d3, ds3, p3, q3, rfl, rfl, rfl, h3, r3⟩ := trodAll_cons r2
  obtain ⟨rfl, rfl, rfl⟩ := trodAll_nil r3
  obtain rfl : args = #[v0, v1, v2, v3] := by cases args; simp_all
  obtain ⟨rfl, rfl⟩ := trodVars_none hV
  have hlt0 : ∀ x ∈ p0, x.block < W.heap.size := fun x hx => hW'.lt x (by simp [hx])
  obtain ⟨A0, len0, cap0, ws0, rfl, hR0, hcm0, hr0⟩ := open_words Tryd.underlying22 Tryd.underlying23 Tryd.cells_u32 (hval 0 22 v0 rfl rfl) h0 hlt0
  have hc0 : cap0 ≤ 9223372036854775807 := by unfold maxLen at hcm0; omega
  obtain ⟨a1, rfl, rfl, rfl, w1⟩ := open_int Tryd.underlying23 (hval 1 23 v1 rfl rfl) h1
  obtain ⟨a2, rfl, rfl, rfl, w2⟩ := open_int Tryd.underlying3 (hval 2 3 v2 rfl rfl) h2
  obtain ⟨a3, rfl, rfl, rfl, w3⟩ := open_int Tryd.underlying3 (hval 3 3 v3 rfl rfl) h3
  obtain ⟨ea, E⟩ := errs3 hL
  refine (cpuGoes_any len0 cap0 A0 a1 a2 a3 W ws0 ea E hR0 hc0 hr0 (rng_u32 w1)).mono fun e W' ⟨he, hk⟩ => ?_
  subst he
  exact ⟨_, rfl, law_post Tryd.laidOut (fun t ht => by
      rw [Tryd.params7] at ht
      simp at ht
      rcases ht with rfl | rfl | rfl <;> exact ⟨by kernel_rfl, of_decide_eq_true (by kernel_rfl)⟩) (by kernel_rfl) Tryd.underlying4 rfl hW' rfl (hk.below (Nat.le_refl _) (fun _ _ h => h.elim))⟩

theorem said : Rows.CpuGoesSaid :=
  OpenClaim.holds_of_wide 7 Tryd.f7 rfl rfl rfl rfl rfl rfl rfl ⟨rfl, rfl, rfl, rfl, rfl⟩ rfl rfl rfl rfl rfl (by kernel_rfl) Tryd.func7 (by kernel_rfl)
    (of_decide_eq_true (by kernel_rfl)) (by unfold Func.isWrapper; rw [if_neg (of_decide_eq_false (by kernel_rfl))]; exact ⟨rfl, rfl⟩)
    (fun os started H enc _ => lifted os started H enc)

theorem plain (f : FuncId) (fn : Func) (hf : Tryd.pinned.checked.prog.funcNamed "changeling/changelinglaw2.CpuGoes" = some f) (hfn : Tryd.pinned.checked.prog.funcs[f]? = some fn) :
    Rows.cpuGoesCard.stood.looks = Tryd.pinned.checked.prog.looks [] ∧ ∀ (j : Nat) t, fn.params[j]? = some t → Tryd.pinned.checked.prog.wantsStandIn t = false := by
  obtain rfl : f = 7 := Option.some.inj ((show Tryd.prog.funcNamed "changeling/changelinglaw2.CpuGoes" = some 7 by kernel_rfl).symm.trans hf) |>.symm
  obtain rfl : fn = Tryd.f7 := (Option.some.inj (Tryd.func7.symm.trans hfn)).symm
  refine ⟨by kernel_rfl, fun j t ht => ?_⟩
  rw [Tryd.params7] at ht
  have hm := Array.mem_of_getElem? ht
  simp at hm
  rcases hm with rfl | rfl | rfl
  · exact (show Tryd.prog.wantsStandIn 22 = false by kernel_rfl)
  · exact (show Tryd.prog.wantsStandIn 23 = false by kernel_rfl)
  · exact (show Tryd.prog.wantsStandIn 3 = false by kernel_rfl)

theorem card : Rows.CpuGoesCardSaid :=
  Claim7.holds_tied_plain_at .later [] _ _ _ _ said (fun _ h => by cases h) (by kernel_rfl) (fun _ h => by cases h) cpuGoes_row_tie rfl ⟨rfl, rfl⟩ (by kernel_rfl) rfl plain (by kernel_rfl)
end Go.Proofs.YtlbdkcnbgdmpaaaDoor.cpuGoes
namespace Go.Proofs.YtlbdkcnbgdmpaaaDoor
theorem cpuGoes_card : Rows.CpuGoesCardSaid := cpuGoes.card
end Go.Proofs.YtlbdkcnbgdmpaaaDoor
