import Derived.Test.YtlbdkcnbgdmpaaaDoorTakesz5
import Derived.Test.YtlbdkcnbgdmpaaaDoorTakesz2
import Derived.Test.YtlbdkcnbgdmpaaaDoorTakesz12
import Derived.Test.YtlbdkcnbgdmpaaaDoorTakesz11
import Derived.Deep.MidRow
import Derived.Test.YtlbdkcnbgdmpaaaDoorTakesz7
import Derived.ChangeShapes
import Derived.Test.YtlbdkcnbgdmpaaaDoorTakesz0
import Derived.ProofKit
import Derived.OpenShut

/- AsBus -/
/- The walks of coded, sameTrace, asBus, Copy of a bus; new buses. -/
namespace Go.Proofs.YtlbdkcnbgdmpaaaDoor
open Go.RowKit Go.Deep
set_option linter.unusedVariables false

theorem coded_any (c : Nat) (hc : c ≤ 10) (w : World) (ea : Nat → Addr) (E : ErrsAll w ea) :
    Calls Tryd.prog 16 #[errOf ea c, .int .i64 c] w fun e w' => e = .returned (.bool true) ∧ Keeps (fun _ => False) w w' := by
  by_cases h0 : c = 0
  · subst h0
    show Calls _ _ #[.nilIface, .int .i64 0] w _
    go_enter Tryd.func16, Tryd.ntmps16
    go_wp2_with fail
    refine (code_nil _).mono ?_
    rintro e w' ⟨rfl, rfl⟩
    go_wp2_with fail
    go_ret
    exact ⟨rfl, Keeps.refl _ _⟩
  · rw [errOf_ne h0]
    have h1 : 1 ≤ c := by omega
    have HE := Lib.hid E
    clear h0 E
    unfold errV
    go_enter Tryd.func16, Tryd.ntmps16
    go_wp2_with fail
    refine (code_sent c h1 hc _ ea HE.out).mono ?_
    rintro e w' ⟨rfl, hk⟩
    go_wp2_with fail
    go_ret
    exact ⟨rfl, hk⟩

/-- a slice of accesses as it lies -/
def TrAt (w : World) (A : Option Addr) (n cap : Nat) (tr : List Value) : Prop := n ≤ cap ∧ cap ≤ maxLen ∧ (n = 0 ∨ ∃ g, A = some ⟨g, 0, none⟩ ∧ ∀ j u, tr[j]? = some u → w.cell? ⟨g, j, none⟩ = some u)
theorem TrAt.of_owns {w : World} {base : Nat} {e : TypeId} {v : Value} {n : Nat} {xs : List Value} (h : w.ownsRow base e 4 v n xs) : ∃ A cap, v = .slice A n cap ∧ TrAt w A n cap xs := by
  by_cases h0 : n = 0
  · rcases h.2 with ⟨h1, h2⟩ | ⟨g, cap, cur, h1, h2, h3, h4, h5, _⟩
    · exact ⟨none, 0, by rw [h1, h2], by omega, by omega, .inl h0⟩
    · exact ⟨_, cap, h1, h4, h5, .inl h0⟩
  · obtain ⟨g, cap, h1, _, h3, h4, h5⟩ := owns_some h (by omega)
    exact ⟨_, cap, h1, h3, h4, .inr ⟨g, rfl, h5⟩⟩
theorem TrAt.keep {w w' : World} {A : Option Addr} {n cap : Nat} {tr : List Value} (h : TrAt w A n cap tr) (k : Keeps (fun _ => False) w w') : TrAt w' A n cap tr := by
  obtain ⟨h1, h2, h3 | ⟨g, h3, h4⟩⟩ := h
  · exact ⟨h1, h2, .inl h3⟩
  · exact ⟨h1, h2, .inr ⟨g, h3, fun j u hu => k.cell' (h4 j u hu) (fun f => f)⟩⟩

set_option maxRecDepth 100000 in
set_option maxHeartbeats 1000000 in
theorem sameTrace_same (A B : Option Addr) (n ca cb : Nat) (tr : List Value) (w : World) (h1 : TrAt w A n ca tr) (h2 : TrAt w B n cb tr) (hacc : AccRow tr n) (hn : n < 1000000) :
    Calls Tryd.prog 30 #[.slice A n ca, .slice B n cb] w fun e w' => e = .returned (.bool true) ∧ Keeps (fun _ => False) w w' := by
  have b1 := h1.1
  have b2 := h2.1
  have b3 : ca ≤ 9223372036854775807 := by have := h1.2.1; unfold maxLen at this; omega
  have b4 : cb ≤ 9223372036854775807 := by have := h2.2.1; unfold maxLen at this; omega
  have H1 := Lib.hid h1
  have H2 := Lib.hid h2
  have HA := Lib.hid hacc
  clear h1 h2 hacc
  go_enter Tryd.func30, Tryd.ntmps30
  go_wp2_with fail
  go_loopw [5] (fun s5 wr => ∃ i : Nat, i ≤ n ∧ s5 = .int .i64 i ∧ Keeps (fun _ => False) w wr) (fun s5 _ => n - (intOf s5).toNat)
  case atStart => exact ⟨0, by omega, rfl, Keeps.refl _ w⟩
  case round =>
    obtain ⟨i, hi, rfl, hK⟩ := hrel
    by_cases hlt : i < n
    · obtain ⟨c, s, a, v, e1, e2, e3, e4⟩ := HA.out.2 i hlt
      obtain ⟨ga, rfl, hca⟩ : ∃ g, A = some ⟨g, 0, none⟩ ∧ ∀ j u, tr[j]? = some u → wr.cell? ⟨g, j, none⟩ = some u := by
        obtain ⟨_, _, h3 | h3⟩ := H1.out.keep hK
        · omega
        · exact h3
      obtain ⟨gb, rfl, hcb⟩ : ∃ g, B = some ⟨g, 0, none⟩ ∧ ∀ j u, tr[j]? = some u → wr.cell? ⟨g, j, none⟩ = some u := by
        obtain ⟨_, _, h3 | h3⟩ := H2.out.keep hK
        · omega
        · exact h3
      have p1 := hca _ _ e1
      have p2 := hca _ _ e2
      have p3 := hca _ _ e3
      have p4 := hca _ _ e4
      have r1 := hcb _ _ e1
      have r2 := hcb _ _ e2
      have r3 := hcb _ _ e3
      have r4 := hcb _ _ e4
      clear hca hcb e1 e2 e3 e4
      go_wp2_with fail
      go_quiet (fail)
      go_wp2_with fail
      go_roundw
      case rel => exact ⟨i + 1, by omega, by go_num, hK.drewN _⟩
      case measure => simp [intOf]; omega
    · obtain rfl : i = n := by omega
      go_wp2_with fail
      go_ret
      exact ⟨rfl, hK⟩

/-- a new bus' state -/
def s0 (n : Nat) (ws : Nat → Int) : Sb := ⟨ramOf n ws, [], 0, 0, []⟩
theorem bus_new (len cap : Nat) (A : Option Addr) (w : World) (ws : Nat → Int) (hR : Reads w A len cap (fun i => .int .u32 (ws i))) (hc : cap ≤ 9223372036854775807) (hr : ∀ i, i < len → 0 ≤ ws i ∧ ws i < 4294967296) :
    Calls Tryd.prog 23 #[.slice A len cap] w fun e w' => ∃ b O, e = .returned (.pointer (some ⟨b, 0, none⟩)) ∧ BInv b O w' (s0 (min len 4096) ws) ∧ Keeps (fun _ => False) w w' ∧ ∀ k, O k → w.heap.size ≤ k := by
  refine (busNew_any len cap A w ws hR hc hr).mono fun e w' ⟨b, r, pb, pw, ph, he, h⟩ => ⟨b, fun k => k = b ∨ k = r ∨ k = pb ∨ k = pw ∨ k = ph, he, ⟨r, pb, pw, ph, 16384, .slice none 0 0, .slice none 0 0, ?_⟩, h.keeps, fun k hk => by have := h.new; omega⟩
  exact {
    bus := h.bus
    ram := h.ram
    watch := h.watch
    hits := h.hits
    own := by simp
    own1 := fun k hk => by cases hk
    own2 := fun k hk => by cases hk
    sep := h.apart
    lt := fun k hk => by
      have g1 := (Array.getElem?_eq_some_iff.1 h.bus.box).1
      have g2 := (Array.getElem?_eq_some_iff.1 h.ram.box).1
      have g3 := h.ram.bytes.lt
      have g4 := (Array.getElem?_eq_some_iff.1 h.watch).1
      have g5 := (Array.getElem?_eq_some_iff.1 h.hits).1
      omega
    acc := ⟨rfl, fun i hi => by cases hi⟩ }
/-- memories that are alike -/
theorem alike_ram (a wb : Nat) (m : Nat → Int) (w wc : World) (hr : wc.rowIs a 23 4096 (fun i => .int .u32 (be m (4 * i) 4))) (hw : RowTo w wb 23 4096 (fun i => .int .u32 (be m (4 * i) 4))) (hk : Keeps (fun _ => False) w wc) :
    Calls Tryd.prog 14 #[.slice (some ⟨a, 0, none⟩) 4096 4096, .slice (some ⟨wb, 0, none⟩) 4096 4096] wc fun e w' => e = .returned (.int .i64 1) ∧ Keeps (fun _ => False) wc w' :=
  alike_same a wb 4096 4096 4096 (fun i => be m (4 * i) 4) wc (by omega) (by omega) (by omega) (fun i hi => hr.cell hi) (fun i hi => (hk.rowTo hw (fun h => h)).cell hi)
end Go.Proofs.YtlbdkcnbgdmpaaaDoor

/- Waits -/
/- The closed fact stepped; the walk of the law CpuWaits. -/
namespace Go.Proofs.YtlbdkcnbgdmpaaaDoor
open Go.RowKit Go.Deep
set_option linter.unusedVariables false

/-- the instruction of stepped -/
def addi7 : Cd.Ins := ⟨36, 0, 1, 0, 7⟩
theorem dec7 : Cd.decOf 604045319 = addi7 := by kernel_rfl
theorem ok7 : Cd.Ok addi7 := dec7 ▸ Cd.ok_dec _
theorem do_addi7 (s : Cp.St) (B : Sb) (nx : Int) : Cp.doIt addi7 s B nx false = ⟨(Cp.atOnce addi7 s).1, (Cp.atOnce addi7 s).2, B, nx, false⟩ := rfl
set_option maxRecDepth 100000 in
set_option maxHeartbeats 2000000 in
theorem do_goes7 (sb b : Nat) (O : Nat → Prop) (s : Cp.St) (B : Sb) (ea : Nat → Addr) (hs : Cp.Rng s) (hOs : ¬ O sb) : DoGoes sb b O s B ea addi7 := by
  intro x w E X hS hB hxs hOx
  have HS := Lib.hid hS
  have HX := Lib.hid X
  have HB := Lib.hid hB
  have HG := Lib.hid hs
  obtain ⟨_, _, c2, _, _, _, _, _, _⟩ := X.cells
  have HT := Lib.hid (show ((⟨(Cd.kindS (Cd.kd 36)).toArray⟩ : ByteArray).toList == [98, 114, 97, 110, 99, 104]) = false ∧ ((⟨(Cd.kindS (Cd.kd 36)).toArray⟩ : ByteArray).toList == [108, 111, 97, 100]) = false ∧ ((⟨(Cd.kindS (Cd.kd 36)).toArray⟩ : ByteArray).toList == [115, 116, 111, 114, 101]) = false ∧ ((⟨(Cd.kindS (Cd.kd 36)).toArray⟩ : ByteArray).toList == [116, 114, 97, 112]) = false by decide +kernel)
  have HF := Lib.hid (show ((⟨(Cd.row 36).fields.toArray⟩ : ByteArray).toList == [83, 84, 105]) = true by decide +kernel)
  clear X hS hB E hs
  go_enter Tryd.func58, Tryd.ntmps58
  go_wp2_with fail
  refine (Kind_any 36 (by omega) _).mono ?_
  rintro e w1 ⟨rfl, hk1⟩
  have HS1 := Lib.hid (HS.out.keep hk1 (fun h => h))
  have HX1 := Lib.hid (HX.out.keep hk1 (fun h => h))
  have HB1 := Lib.hid (HB.out.keep hk1 (fun _ _ h => h))
  have HK1 := Lib.hid hk1
  clear c2 hk1
  have c2 := HX1.out.cells.2.2.1
  obtain ⟨t1, t2, t3, t4⟩ := HT.out
  generalize (⟨(Cd.kindS (Cd.kd 36)).toArray⟩ : ByteArray) = ks at *
  go_wp2_with fail
  refine (Fields_any 36 (by omega) _).mono ?_
  rintro e w2 ⟨rfl, hk2⟩
  have HS2 := Lib.hid (HS1.out.keep hk2 (fun h => h))
  have HX2 := Lib.hid (HX1.out.keep hk2 (fun h => h))
  have HB2 := Lib.hid (HB1.out.keep hk2 (fun _ _ h => h))
  have HK2 := Lib.hid (HK1.out.trans hk2 (fun _ _ h => h))
  clear c2 hk2 t1 t2 t3 t4
  have c2 := HX2.out.cells.2.2.1
  have t5 := HF.out
  generalize (⟨(Cd.row 36).fields.toArray⟩ : ByteArray) = fs at *
  go_wp2_with fail
  refine (atOnce_any x sb b addi7 _ _ s w2 HX2.out HS2.out HG.out ok7 (by decide) hxs _ (Lib.hid rfl)).mono ?_
  intro e w3 h
  have H := Lib.hid h
  obtain rfl := h.e
  clear h c2
  go_wp2_with fail
  go_ret
  rw [do_addi7]
  exact ⟨rfl, H.out.st, HX2.out.keep H.out.k hxs, O, HB2.out.keep H.out.k (fun k hk e => hOs (e ▸ hk)), Grew.refl _ _, Keeps.trans (HK2.out.mono (fun _ _ h => h.elim)) H.out.k (fun k _ h => .inl h)⟩

theorem rng_new (pc : Int) (h : 0 ≤ pc ∧ pc < 4294967296) : Cp.Rng ⟨fun _ => 0, 0, 0, pc, Cp.u (pc + 4), false, 0, 0, 0, 0, 0, 0⟩ :=
  ⟨fun _ _ => Cp.W_0, Cp.W_0, Cp.W_0, h, Cp.W_u _, Cp.W_0, Cp.W_0, Cp.W_0, Cp.W_0, Cp.W_0, ⟨Int.le_refl _, (show (0 : Int) < 4611686018427387904 by decide)⟩⟩
theorem rightC4' (a : Int) (h0 : 0 ≤ a) (h1 : a % 4 = 0) (h2 : a < 16384) : rightC a 4 = 0 := by
  unfold rightC
  rw [if_neg (by omega), if_neg (by omega), if_neg (by omega)]
/-- the state of stepped before and behind -/
def st0 (pc : Int) : Cp.St := ⟨fun _ => 0, 0, 0, pc, Cp.u (pc + 4), false, 0, 0, 0, 0, 0, 0⟩
def bus7 : Sb := s0 (min 1 4096) (fun _ => 604045319)
theorem bus7_word : be bus7.m (0 : Int).toNat 4 = 604045319 := by kernel_rfl
def st7 : Cp.St := { Cp.setR (st0 0) 1 7 with pc := 4, next := 8, slot := false, count := 1 }
theorem ins7 : Cp.ins addi7 (st0 0) bus7 = (-1, { Cp.setR (st0 0) 1 7 with pc := 4, next := 8, slot := false }, bus7) := rfl
set_option maxRecDepth 100000 in
set_option maxHeartbeats 2000000 in
theorem stepped_any (w : World) (ea : Nat → Addr) (E : Errs3 w ea) :
    Calls Tryd.prog 22 #[] w fun e w' => e = .returned (.bool true) ∧ Keeps (fun _ => False) w w' := by
  have HE := Lib.hid E
  clear E
  go_enter Tryd.func22, Tryd.ntmps22
  go_wp2_with fail
  refine (cpuNew_any 0 _ (by omega)).mono ?_
  rintro e w1 ⟨rfl, hS1, hk1⟩
  have HS1 := Lib.hid (show StAt w1 w.heap.size (st0 0) from hS1)
  have HK1 := Lib.hid hk1
  clear hS1 hk1
  have HSL := Lib.hid HS1.out.lt
  go_wp2_with fail
  have ka := (Keeps.refl (fun _ => False) w1).alloc (.cells #[.int .u32 604045319] 23)
  refine (bus_new 1 1 _ _ (fun _ => 604045319) ⟨by omega, .inr ⟨_, _, rfl, by simp, fun i hi => ?_⟩⟩ (by omega) (fun _ _ => by omega)).mono ?_
  · obtain rfl : i = 0 := by omega
    simp [World.cell?_alloc_new]
  rintro e w2 ⟨b, O, rfl, hB, hk2, hO⟩
  have hk12 := ka.trans hk2 (fun _ _ h => h)
  have HS2 := Lib.hid (HS1.out.keep hk12 (fun h => h))
  have HB2 := Lib.hid (show BInv b O w2 bus7 from hB)
  have HK2 := Lib.hid (HK1.out.trans hk12 (fun _ _ h => h))
  have HE2 := Lib.hid (HE.out.keep HK2.out ⟨fun h => h, fun h => h, fun h => h⟩)
  have hs1 : (w1.alloc (.cells #[.int .u32 604045319] 23)).heap.size = w1.heap.size + 1 := by simp
  have hOs : ¬ O w.heap.size := fun h => by have := hO _ h; have := HSL.out; omega
  have hOw : ∀ k, O k → w.heap.size ≤ k := fun k h => by have := hO _ h; have := HSL.out; omega
  have HOW := Lib.hid hOw
  clear hB hk2 hk12 ka hO hs1 hOw
  generalize hsb : w.heap.size = sb at *
  have HSB := Lib.hid hsb
  clear hsb
  have hone := one_ins sb b O (st0 0) bus7 w2 ea HE2.out HS2.out HB2.out (rng_new 0 (by omega)) hOs rfl (rightC4' 0 (by omega) (by omega) (by omega)) 604045319 bus7_word (by omega) addi7 dec7 (do_goes7 sb b O (st0 0) bus7 ea (rng_new 0 (by omega)) hOs) _ (Lib.hid rfl)
  rw [ins7] at hone
  have hrng : Cp.Rng { Cp.setR (st0 0) 1 7 with pc := 4, next := 8, slot := false } := by
    refine ⟨fun k hk => ?_, Cp.W_0, Cp.W_0, (show Cp.W 4 by unfold Cp.W; omega), (show Cp.W 8 by unfold Cp.W; omega), Cp.W_0, Cp.W_0, Cp.W_0, Cp.W_0, Cp.W_0, ⟨Int.le_refl _, (show (0 : Int) < 4611686018427387904 by decide)⟩⟩
    show Cp.W (if k = 1 then 7 else 0)
    unfold Cp.W
    split <;> omega
  have hst := step_any sb b O (st0 0) bus7 w2 (-1, { Cp.setR (st0 0) 1 7 with pc := 4, next := 8, slot := false }, bus7) hrng (.inl rfl) hOs HS2.out.lt hone (-1, st7, bus7) (Lib.hid (by rw [if_pos rfl]; rfl))
  have HST := Lib.hid hst
  clear hst hone hrng
  go_wp2_with fail
  refine HST.out.mono ?_
  intro e w3 h
  obtain rfl := h.e
  have hS3 := h.st
  obtain ⟨_, _, _, hK3⟩ := h.k
  have HK3 := Lib.hid (HK2.out.trans hK3 (fun k hk h => by
    rcases h with h | h
    · have := HSB.out; omega
    · have := HOW.out k h; have := HSB.out; omega))
  obtain ⟨_, _, s34, s35, _, _, _, _, _, _, s42⟩ := hS3.cells
  have r1 := hS3.reg 1 (by omega)
  clear h hS3 hK3
  have r1' : w3.cell? ⟨sb, 1, none⟩ = some (.int .u32 7) := r1
  have s34' : w3.cell? ⟨sb, 34, none⟩ = some (.int .u32 4) := s34
  have s35' : w3.cell? ⟨sb, 35, none⟩ = some (.int .u32 8) := s35
  have s42' : w3.cell? ⟨sb, 42, none⟩ = some (.int .i64 1) := s42
  clear r1 s34 s35 s42
  go_wp2_with fail
  go_ret
  exact ⟨rfl, HK3.out⟩
end Go.Proofs.YtlbdkcnbgdmpaaaDoor

/- StPut -/
/- A state of the processor copied: loaded whole, stored whole into a new block. -/
namespace Go.Proofs.YtlbdkcnbgdmpaaaDoor
open Go.RowKit Go.Deep
set_option linter.unusedVariables false

theorem stL_len (s : Cp.St) : (stL s).length = 43 := by simp [stL, regs, restC]
theorem size_st : (Tryd.prog.info? 53).map (·.size) = some 43 := by kernel_rfl
theorem StAt.range {w : World} {sb : Nat} {s : Cp.St} (h : StAt w sb s) : w.rangeAt sb 0 (stL s) := fun j v hv => by
  unfold World.cell?
  rw [h]
  simpa using hv
theorem stL_one (s : Cp.St) : (stL s).toArray.all (·.oneCell') = true := by
  refine all_oneCell_toArray fun v hv => ?_
  unfold stL at hv
  rcases List.mem_append.1 hv with h | h
  · unfold regs at h
    obtain ⟨k, _, rfl⟩ := List.mem_map.1 h
    rfl
  · unfold restC at h
    simp only [List.mem_cons, List.not_mem_nil, or_false] at h
    rcases h with rfl | rfl | rfl | rfl | rfl | rfl | rfl | rfl | rfl | rfl | rfl <;> rfl
/-- THE LOAD of a whole state -/
theorem wpList_load_st {ops : Array Oper} {rest : List Oper} {op : Oper} {a : Act} {w : World} {Q : Exit → Act → World → Prop} (hgd : op.guard = none) (x : Operand) (ho : op.op = .load 53 x) (sb : Nat) (s : Cp.St) (h : StAt w sb s)
    (hx : a.eval x = .pointer (some ⟨sb, 0, none⟩)) (hk : wpList Tryd.prog ops Q rest (a.put op.dst (.agg (stL s).toArray)) w) : wpList Tryd.prog ops Q (op :: rest) a w :=
  wpList_load_mid hgd _ x ho sb 0 hx (stL s) _ h.range Tryd.underlying53 rfl (by rw [stL_len]; exact size_st) hk
theorem size_regs : (Tryd.prog.info? 51).map (·.size) = some 32 := by kernel_rfl
theorem StAt.rangeR {w : World} {sb : Nat} {s : Cp.St} (h : StAt w sb s) : w.rangeAt sb 0 (regs s.R) := fun j v hv => by
  have hj : j < 32 := by have := (List.getElem?_eq_some_iff.1 hv).1; rwa [regs_len] at this
  refine h.range j v ?_
  unfold stL
  rw [List.getElem?_append_left (by rw [regs_len]; exact hj)]
  exact hv
/-- the load of the registers -/
theorem wpList_load_regs {ops : Array Oper} {rest : List Oper} {op : Oper} {a : Act} {w : World} {Q : Exit → Act → World → Prop} (hgd : op.guard = none) (x : Operand) (ho : op.op = .load 51 x) (sb : Nat) (s : Cp.St) (R : Nat → Int) (hR : s.R = R) (h : StAt w sb s)
    (hx : a.eval x = .pointer (some ⟨sb, 0, none⟩)) (hk : wpList Tryd.prog ops Q rest (a.put op.dst (.agg (regs R).toArray)) w) : wpList Tryd.prog ops Q (op :: rest) a w := by
  subst hR
  exact wpList_load_mid hgd _ x ho sb 0 hx (regs s.R) _ h.rangeR Tryd.underlying51 rfl (by rw [regs_len]; exact size_regs) hk
theorem wpList_bin_regs {ops : Array Oper} {rest : List Oper} {op : Oper} {a : Act} {w : World} {Q : Exit → Act → World → Prop} (hgd : op.guard = none) (o : BinOp) (hoo : o = .neq ∨ o = .eql) (t' : TypeId) (x y : Operand) (ho : op.op = .binOp o 51 x y t') (R : Nat → Int) (hR : ∀ k, k < 32 → Cp.W (R k))
    (hx : a.eval x = .agg (regs R).toArray) (hy : a.eval y = .agg (regs R).toArray) (hk : wpList Tryd.prog ops Q rest (a.put op.dst (.bool (if o = .eql then true else false))) w) : wpList Tryd.prog ops Q (op :: rest) a w :=
  wpList_plain hgd fun _ hK => wp_bin_agg o hoo _ t' x y ho _ hx hy eqg_regs (equal_regs w R hR) (hK _ _ hk)
theorem wpList_bin_st {ops : Array Oper} {rest : List Oper} {op : Oper} {a : Act} {w : World} {Q : Exit → Act → World → Prop} (hgd : op.guard = none) (o : BinOp) (hoo : o = .neq ∨ o = .eql) (t' : TypeId) (x y : Operand) (ho : op.op = .binOp o 53 x y t') (s : Cp.St) (hs : Cp.Rng s)
    (hx : a.eval x = .agg (stL s).toArray) (hy : a.eval y = .agg (stL s).toArray) (hk : wpList Tryd.prog ops Q rest (a.put op.dst (.bool (if o = .eql then true else false))) w) : wpList Tryd.prog ops Q (op :: rest) a w :=
  wpList_plain hgd fun _ hK => wp_bin_agg o hoo _ t' x y ho _ hx hy eqg_st (equal_st w s hs) (hK _ _ hk)
theorem wpList_neq_regs {ops : Array Oper} {rest : List Oper} {op : Oper} {a : Act} {w : World} {Q : Exit → Act → World → Prop} (hgd : op.guard = none) (t' : TypeId) (x y : Operand) (ho : op.op = .binOp .neq 51 x y t') (R : Nat → Int) (hR : ∀ k, k < 32 → Cp.W (R k))
    (hx : a.eval x = .agg (regs R).toArray) (hy : a.eval y = .agg (regs R).toArray) (hk : wpList Tryd.prog ops Q rest (a.put op.dst (.bool false)) w) : wpList Tryd.prog ops Q (op :: rest) a w :=
  wpList_bin_regs hgd .neq (.inl rfl) t' x y ho R hR hx hy hk
theorem setCells_block {b : Nat} {T : TypeId} {f : Nat × Nat} : ∀ (vs : List Value) (o : Nat) (w : World) (cs : Array Value), w.heap[b]? = some (.cells cs T f) →
    ∃ cs', (w.setCells b o vs).heap[b]? = some (.cells cs' T f) ∧ cs'.size = cs.size ∧ ∀ j, cs'[j]? = if o ≤ j ∧ j < o + vs.length ∧ j < cs.size then vs[j - o]? else cs[j]?
  | [], o, w, cs, h => ⟨cs, h, rfl, fun j => by rw [if_neg (by simp; omega)]⟩
  | v :: r, o, w, cs, h => by
    obtain ⟨cs', h1, h2, h3⟩ := setCells_block r (o + 1) (w.setCell ⟨b, o, none⟩ v) _ (set_block h o v)
    refine ⟨cs', h1, by rw [h2]; simp, fun j => ?_⟩
    rw [h3 j]
    simp only [Array.size_setIfInBounds, List.length_cons]
    by_cases h4 : o + 1 ≤ j ∧ j < o + 1 + r.length ∧ j < cs.size
    · rw [if_pos h4, if_pos (by omega), show j - o = (j - (o + 1)) + 1 by omega, List.getElem?_cons_succ]
    · rw [if_neg h4]
      by_cases h5 : o = j
      · subst h5
        by_cases h6 : o < cs.size
        · rw [if_pos (by omega)]
          simp [h6]
        · rw [if_neg (by omega), Array.getElem?_eq_none (by simp; omega), Array.getElem?_eq_none (by omega)]
      · rw [if_neg (by omega), Array.getElem?_setIfInBounds_ne h5]
theorem keeps_setCells (b : Nat) : ∀ (vs : List Value) (o : Nat) (w : World), Keeps (· = b) w (w.setCells b o vs)
  | [], _, w => Keeps.refl _ w
  | v :: r, o, w => (Keeps.one w b o v).trans (keeps_setCells b r (o + 1) _) (fun _ _ h => h)
/-- a state stored whole -/
theorem StAt.put {w : World} {b : Nat} {cs : Array Value} (h : w.heap[b]? = some (.cells cs 53 (0, 0))) (hc : cs.size = 43) (s : Cp.St) : StAt (w.setCells b 0 (stL s)) b s := by
  obtain ⟨cs', h1, h2, h3⟩ := setCells_block (stL s) 0 w cs h
  have he : cs' = (stL s).toArray := Array.ext_getElem? fun j => by
    rw [h3 j, stL_len, hc]
    by_cases hj : j < 43
    · rw [if_pos (by omega)]
      simp
    · rw [if_neg (by omega), Array.getElem?_eq_none (by omega), List.getElem?_toArray, List.getElem?_eq_none (by rw [stL_len]; omega)]
  subst he
  exact h1
theorem wpList_store_st {ops : Array Oper} {rest : List Oper} {op : Oper} {a : Act} {w : World} {Q : Exit → Act → World → Prop} (hgd : op.guard = none) (x y : Operand) (ho : op.op = .store 53 x y) (b : Nat) (cs : Array Value) (s : Cp.St) (h : w.heap[b]? = some (.cells cs 53 (0, 0))) (hc : cs.size = 43)
    (hx : a.eval x = .pointer (some ⟨b, 0, none⟩)) (hy : a.eval y = .agg (stL s).toArray) (hk : ∀ w', StAt w' b s → Keeps (· = b) w w' → wpList Tryd.prog ops Q rest (a.put op.dst undef) w') : wpList Tryd.prog ops Q (op :: rest) a w :=
  wpList_store_mid hgd _ x y ho b 0 (stL s).toArray hx hy (fun j hj => by
    have hj2 : j < 43 := by simpa [stL_len] using hj
    refine ⟨?_, frozen_of_block h _⟩
    unfold World.cell?
    rw [h]
    simp [hc, hj2]) (by simpa [stL_len] using size_st) (stL_one s) (hk _ (StAt.put h hc s) (keeps_setCells b _ 0 w))
end Go.Proofs.YtlbdkcnbgdmpaaaDoor

/- CpuTakes -/
/- The walk of the law CpuTakes. -/
namespace Go.Proofs.YtlbdkcnbgdmpaaaDoor
open Go.RowKit Go.Deep
set_option linter.unusedVariables false

def busZ : Sb := s0 (min 0 4096) (fun _ => 0)
theorem keeps5 (w : World) (b o1 o2 o3 o4 o5 : Nat) (v1 v2 v3 v4 v5 : Value) : Keeps (· = b) w (((((w.setCell ⟨b, o1, none⟩ v1).setCell ⟨b, o2, none⟩ v2).setCell ⟨b, o3, none⟩ v3).setCell ⟨b, o4, none⟩ v4).setCell ⟨b, o5, none⟩ v5) :=
  ((((Keeps.one w b o1 v1).trans (Keeps.one _ b o2 v2) (fun _ _ h => h)).trans (Keeps.one _ b o3 v3) (fun _ _ h => h)).trans (Keeps.one _ b o4 v4) (fun _ _ h => h)).trans (Keeps.one _ b o5 v5) (fun _ _ h => h)
/-- the state that the law begins with -/
def stT (s : Cp.St) (slot : Bool) : Cp.St := { s with R := fun j => if j = 0 then 0 else s.R j, pc := 64, next := 68, slot := slot, status := 0 }
/-- the bus that it begins with -/
def busT (v : Int) : Sb := { busZ with m := stTo (stTo busZ.m 64 4 v 4) 384 4 1107296280 4 }

theorem rngT (s : Cp.St) (slot : Bool) (h : Cp.Rng s) : Cp.Rng (stT s slot) :=
  ⟨fun k hk => by
    show Cp.W (if k = 0 then 0 else s.R k)
    split
    · exact Cp.W_0
    · exact h.R k hk, h.hi, h.lo, (show Cp.W 64 by unfold Cp.W; omega), (show Cp.W 68 by unfold Cp.W; omega), Cp.W_0, h.cause, h.epc, h.bad, h.compare, h.count⟩
theorem busT_384 (v : Int) : be (busT v).m 384 4 = 1107296280 := be_stTo (m := stTo busZ.m 64 4 v 4) (a := 384) (n := 4) (by omega) (by omega)
/-- the state behind an exception -/
def stE (s : Cp.St) (slot : Bool) (e bad : Int) : Cp.St := ⟨(stT s slot).R, s.hi, s.lo, 384, 388, false, 2, if slot then 4 * e + 2147483648 else 4 * e, if slot then 60 else 64, bad, s.compare, s.count + 1⟩
theorem stE_R (s : Cp.St) (slot : Bool) (e bad : Int) : (stE s slot e bad).R = (stT s slot).R := rfl
/-- and behind its return -/
theorem stE_back (s : Cp.St) (slot : Bool) (e bad v : Int) : Cp.step (stE s slot e bad) (busT v) = (-1, { stE s slot e bad with pc := (stE s slot e bad).epc, next := Cp.u ((stE s slot e bad).epc + 4), status := 0, count := (stE s slot e bad).count + 1 }, busT v) :=
  Cp.takes_back _ _ rfl rfl rfl (busT_384 v)

set_option maxRecDepth 100000 in
set_option maxHeartbeats 4000000 in
theorem cpuTakes_any (s : Cp.St) (v : Int) (slot : Bool) (w : World) (ea : Nat → Addr) (E : Errs3 w ea) (hs : 0 ≤ s.count → s.count < 4611686018427387904 → Cp.Rng s) (hv : 0 ≤ v ∧ v < 4294967296) :
    Calls Tryd.prog 5 #[.agg (stL s).toArray, .int .u32 v, .bool slot] w fun e w' => e = .returned (.bool true) ∧ Keeps (fun _ => False) w w' := by
  have HS0 := Lib.hid (show StAt (w.alloc (.cells (stL s).toArray 53 (0, 0))) w.heap.size s from blk_alloc_new w _)
  have HK0 := Lib.hid ((Keeps.refl (fun _ => False) w).alloc (.cells (stL s).toArray 53 (0, 0)))
  have HE := Lib.hid (E.keep HK0.out ⟨fun h => h, fun h => h, fun h => h⟩)
  have HE0 := Lib.hid E
  clear E
  by_cases h1 : s.count < 0
  · go_enter Tryd.func5, Tryd.ntmps5
    go_wp2_with fail
    refine (stepped_any _ ea HE.out).mono ?_
    rintro e w1 ⟨rfl, hk1⟩
    have c42 := (HS0.out.keep hk1 (fun h => h)).cells.2.2.2.2.2.2.2.2.2.2
    go_wp2_with fail
    go_ret
    exact ⟨rfl, HK0.out.trans hk1 (fun _ _ h => h)⟩
  by_cases h2 : 1099511627776 < s.count
  · go_enter Tryd.func5, Tryd.ntmps5
    go_wp2_with fail
    refine (stepped_any _ ea HE.out).mono ?_
    rintro e w1 ⟨rfl, hk1⟩
    have c42 := (HS0.out.keep hk1 (fun h => h)).cells.2.2.2.2.2.2.2.2.2.2
    go_wp2_with fail
    go_ret
    exact ⟨rfl, HK0.out.trans hk1 (fun _ _ h => h)⟩
  have HG := Lib.hid (hs (by omega) (by omega))
  have HC := Lib.hid (show 0 ≤ s.count ∧ s.count ≤ 1099511627776 by omega)
  have t1 : decide (s.count < 0) = false := decide_eq_false h1
  have t2 : decide (1099511627776 < s.count) = false := decide_eq_false h2
  clear h1 h2
  clear hs
  obtain ⟨sb, hsb⟩ : ∃ sb, w.heap.size = sb := ⟨_, rfl⟩
  have HSB := Lib.hid hsb
  rw [hsb] at HS0
  go_enter Tryd.func5, Tryd.ntmps5
  go_wp2_with fail
  refine (stepped_any _ ea HE.out).mono ?_
  rintro e w1 ⟨rfl, hk1⟩
  have HS1 := Lib.hid (HS0.out.keep hk1 (fun h => h))
  have HK1 := Lib.hid (HK0.out.trans hk1 (fun _ _ h => h))
  have HE1 := Lib.hid (HE.out.keep hk1 ⟨fun h => h, fun h => h, fun h => h⟩)
  clear HS0 HK0 HE hk1 hsb
  have c0 := HS1.out.reg 0 (by omega)
  obtain ⟨left, left_1, c34, c35, c36, c37, left_2, left_3, left_4, left_5, c42⟩ := HS1.out.cells
  have f0 := HS1.out.frozen 0
  clear left left_1 left_2 left_3 left_4 left_5
  have f34 := HS1.out.frozen 34
  have f35 := HS1.out.frozen 35
  have f36 := HS1.out.frozen 36
  have f37 := HS1.out.frozen 37
  have HS4 := Lib.hid (((((HS1.out.setReg 0 (by omega) 0).set 2 (.int .u32 64) (s' := { s with R := fun j => if j = 0 then 0 else s.R j, pc := 64 }) rfl rfl).set 3 (.int .u32 68) (s' := { s with R := fun j => if j = 0 then 0 else s.R j, pc := 64, next := 68 }) rfl rfl).set 4 (.bool slot) (s' := { s with R := fun j => if j = 0 then 0 else s.R j, pc := 64, next := 68, slot := slot }) rfl rfl).set 5 (.int .u32 0) (s' := stT s slot) rfl rfl)
  have HK4 := Lib.hid (keeps5 w1 sb 0 34 35 36 37 (.int .u32 0) (.int .u32 64) (.int .u32 68) (.bool slot) (.int .u32 0))
  go_wp2_with fail
  clear c0 c34 c35 c36 c37 c42 f0 f34 f35 f36 f37
  have HS4' : Hid (StAt (((((w1.setCell ⟨sb, 0, none⟩ (.int .u32 0)).setCell ⟨sb, 34, none⟩ (.int .u32 64)).setCell ⟨sb, 35, none⟩ (.int .u32 68)).setCell ⟨sb, 36, none⟩ (.bool slot)).setCell ⟨sb, 37, none⟩ (.int .u32 0)) sb (stT s slot)) := HS4
  clear HS4
  generalize (((((w1.setCell ⟨sb, 0, none⟩ (.int .u32 0)).setCell ⟨sb, 34, none⟩ (.int .u32 64)).setCell ⟨sb, 35, none⟩ (.int .u32 68)).setCell ⟨sb, 36, none⟩ (.bool slot)).setCell ⟨sb, 37, none⟩ (.int .u32 0)) = w4 at *
  refine (bus_new 0 0 none _ (fun _ => 0) ⟨by omega, .inl rfl⟩ (by omega) (fun _ _ => by omega)).mono ?_
  rintro e w5 ⟨b, O, rfl, hB, hk5, hO⟩
  have HS5 := Lib.hid (HS4'.out.keep hk5 (fun h => h))
  have HK5 := Lib.hid (Keeps.trans HK4.out hk5 (fun _ _ h => h.elim))
  have hOs : ¬ O sb := fun h => by have := hO _ h; have := HS4'.out.lt; omega
  have HO := Lib.hid (fun j (h : O j) => show w1.heap.size ≤ j by have := hO _ h; have := HK4.out.size; omega)
  have HOs := Lib.hid hOs
  obtain ⟨r, pb, pw, ph, cp, ov, tv, hB⟩ := hB
  have hb0 : w5.cell? ⟨b, 0, none⟩ = some (.pointer (some ⟨r, 0, none⟩)) := by simp [World.cell?, hB.bus.box]
  have HB5 := Lib.hid (show BIn b r pb pw ph cp ov tv O w5 busZ from hB)
  clear HS4' HK4 hB hk5 hO hOs
  go_wp2_with fail
  refine (ramOf_any b r w5 hb0).mono ?_
  rintro e w' ⟨rfl, rfl⟩
  go_wp2_with fail
  refine (ram_store_on b r pb pw ph cp ov tv O w5 busZ HB5.out 64 4 v (by omega) hv (by decide)).mono ?_
  rintro e w6 ⟨rfl, hB6, hk6⟩
  have hb6 : w6.cell? ⟨b, 0, none⟩ = some (.pointer (some ⟨r, 0, none⟩)) := by simp [World.cell?, hB6.bus.box]
  have HB6 := Lib.hid hB6
  have HS6 := Lib.hid (HS5.out.keep hk6 HOs.out)
  have HK6 := Lib.hid hk6
  clear hb0 hB6 hk6
  go_wp2_with fail
  refine (ramOf_any b r w6 hb6).mono ?_
  rintro e w' ⟨rfl, rfl⟩
  go_wp2_with fail
  refine (ram_store_on b r pb pw ph cp ov tv O w6 _ HB6.out 384 4 1107296280 (by omega) (by omega) (by decide)).mono ?_
  rintro e w7 ⟨rfl, hB7, hk7⟩
  have HB7 := Lib.hid (show BInv b O w7 (busT v) from ⟨r, pb, pw, ph, cp, ov, tv, hB7⟩)
  have HS7 := Lib.hid (HS6.out.keep hk7 HOs.out)
  have HK7 := Lib.hid (HK6.out.trans hk7 (fun _ _ h => h))
  clear hb6 hB7 hk7 HB6 HS6 HK6 HB5 HS5
  have HWS := Lib.hid HK1.out.size
  have HKW := Lib.hid (show Keeps (fun _ => False) w w7 from (HK1.out.trans HK5.out (fun j hj e => by have := HSB.out; omega)).trans HK7.out (fun j hj e => by have := HO.out j e; have := HWS.out; omega))
  have HSX := Lib.hid (show sb < w7.heap.size from HS7.out.lt)
  clear HK5 HK7 HE1 HS1
  go_wp2_with (first
    | (with_reducible refine wpList_load_st rfl _ rfl sb (stT s slot) HS7.out rfl ?_)
    | (with_reducible refine wpList_store_st rfl _ _ rfl _ _ (stT s slot) (blk_alloc_new _ _) (by simp) rfl rfl ?_))
  intro w8 hS8 hk8
  have hk8' := ((Keeps.refl (fun _ => False) w7).alloc _).trans hk8 (fun j hj e => absurd (show j = w7.heap.size from e) (Nat.ne_of_lt hj))
  have HS8 := Lib.hid hS8
  have HK8 := Lib.hid hk8'
  clear hS8 hk8 hk8'
  go_wp2_with fail
  have HXO := Lib.hid (show ¬ O w7.heap.size from fun h => Nat.lt_irrefl _ (HB7.out.lt _ h))
  have HXW := Lib.hid (show w.heap.size ≤ w7.heap.size from HKW.out.size)
  have HXS := Lib.hid (show w7.heap.size ≠ sb by have := HSX.out; omega)
  generalize w7.heap.size = xb at *
  have HB8 := Lib.hid (HB7.out.keep HK8.out (fun _ _ h => h))
  have HT8 := Lib.hid (HS7.out.keep HK8.out (fun h => h))
  have HKW8 := Lib.hid (HKW.out.trans HK8.out (fun _ _ h => h))
  have HRG := Lib.hid (rngT s slot HG.out)
  clear HB7 HS7 HK8 HKW
  have HNX := Lib.hid (Cp.nxt_step (stT s slot) (busT v) HRG.out HB8.out.brng (by have := HC.out; show s.count < _; omega))
  have HTK := Lib.hid (Cp.takes_one (stT s slot) (busT v) HRG.out rfl rfl rfl)
  refine (step_all xb b O (stT s slot) (busT v) w8 ea (HE0.out.keep HKW8.out ⟨fun h => h, fun h => h, fun h => h⟩) HS8.out HB8.out HRG.out (by show ([] : List UInt8).length < _; decide) (by show 0 < _; decide) HXO.out HS8.out.lt).mono ?_
  intro e w9 h
  have H := Lib.hid h
  clear h
  obtain ⟨O', hB9, hG9, hK9⟩ := H.out.k
  have HB9 := Lib.hid hB9
  have HG9 := Lib.hid hG9
  have HK9 := Lib.hid hK9
  clear hB9 hG9 hK9
  have HKW9 := Lib.hid (HKW8.out.trans HK9.out (fun j hj e => by
    rcases e with e | e
    · have := HXW.out; omega
    · have := HO.out j e; have := HWS.out; omega))
  have HT9 := Lib.hid (HT8.out.keep HK9.out (fun e => e.elim (fun e => HXS.out e.symm) HOs.out))
  have he := H.out.e
  by_cases hg : (Cp.step (stT s slot) (busT v)).1 = -1
  · rw [hg] at he
    subst he
    have hp := HTK.out.1 hg
    have hc := HNX.out.2.1
    have c34 : w9.cell? ⟨xb, 34, none⟩ = some (.int .u32 68) := by
      have := H.out.st.cells.2.2.1
      rw [hp] at this
      exact this
    have c42 : w9.cell? ⟨xb, 42, none⟩ = some (.int .i64 (s.count + 1)) := by
      have := H.out.st.cells.2.2.2.2.2.2.2.2.2.2
      rw [hc] at this
      exact this
    have d42 : w9.cell? ⟨sb, 42, none⟩ = some (.int .i64 s.count) := HT9.out.cells.2.2.2.2.2.2.2.2.2.2
    have hcc := HC.out
    clear hp hc hg
    go_wp2_with fail
    go_ret
    exact ⟨rfl, HKW9.out⟩
  · obtain ⟨hbus, bad, hst⟩ := HTK.out.2 hg
    have hr := HNX.out.2.2.2.1
    have hS9 := H.out.st
    have hrng9 := HNX.out.1
    rw [hst] at hS9 hrng9
    rw [hbus] at HB9
    clear hst hbus HNX HTK H
    generalize (Cp.step (stT s slot) (busT v)).1 = e0 at *
    subst he
    have he0 : 0 ≤ e0 ∧ e0 < 32 := hr.resolve_left hg
    clear hr hg
    have HOX := Lib.hid (show ¬ O' xb from fun h => by
      rcases HG9.out xb h with h | h
      · exact HXO.out h
      · have := HS8.out.lt; omega)
    cases slot
    · have HS9 := Lib.hid (show StAt w9 xb (stE s false e0 bad) from hS9)
      have HR9 := Lib.hid (show Cp.Rng (stE s false e0 bad) from hrng9)
      clear hS9 hrng9
      have c32 : w9.cell? ⟨xb, 32, none⟩ = some (.int .u32 s.hi) := HS9.out.cells.1
      have c33 : w9.cell? ⟨xb, 33, none⟩ = some (.int .u32 s.lo) := HS9.out.cells.2.1
      have c34 : w9.cell? ⟨xb, 34, none⟩ = some (.int .u32 384) := HS9.out.cells.2.2.1
      have c36 : w9.cell? ⟨xb, 36, none⟩ = some (.bool false) := HS9.out.cells.2.2.2.2.1
      have c37 : w9.cell? ⟨xb, 37, none⟩ = some (.int .u32 2) := HS9.out.cells.2.2.2.2.2.1
      have c38 : w9.cell? ⟨xb, 38, none⟩ = some (.int .u32 (4 * e0)) := HS9.out.cells.2.2.2.2.2.2.1
      have c39 : w9.cell? ⟨xb, 39, none⟩ = some (.int .u32 64) := HS9.out.cells.2.2.2.2.2.2.2.1
      have d32 : w9.cell? ⟨sb, 32, none⟩ = some (.int .u32 s.hi) := HT9.out.cells.1
      have d33 : w9.cell? ⟨sb, 33, none⟩ = some (.int .u32 s.lo) := HT9.out.cells.2.1
      go_wp2_with (first
        | (with_reducible refine wpList_load_regs rfl _ rfl xb (stE s false e0 bad) (stT s false).R (stE_R s false e0 bad) HS9.out rfl ?_)
        | (with_reducible refine wpList_load_regs rfl _ rfl sb (stT s false) (stT s false).R rfl HT9.out rfl ?_)
        | (with_reducible refine wpList_neq_regs rfl _ _ _ rfl (stT s false).R HRG.out.R rfl rfl ?_))
      clear c32 c33 c34 c36 c37 c38 c39 d32 d33
      refine (step_all xb b O' (stE s false e0 bad) (busT v) w9 ea (HE0.out.keep HKW9.out ⟨fun h => h, fun h => h, fun h => h⟩) HS9.out HB9.out HR9.out (by show ([] : List UInt8).length < _; decide) (by show 0 < _; decide) HOX.out HS9.out.lt).mono ?_
      intro e w10 h
      rw [stE_back] at h
      have H10 := Lib.hid h
      obtain rfl := h.e
      clear h
      obtain ⟨O2, hB10, _, hK10⟩ := H10.out.k
      have HK10 := Lib.hid (HKW9.out.trans hK10 (fun j hj e => by
        rcases e with e | e
        · have := HXW.out; omega
        · rcases HG9.out j e with e | e
          · have := HO.out j e; have := HWS.out; omega
          · have := HKW8.out.size; omega))
      have HT10 := Lib.hid (HT9.out.keep hK10 (fun e => by
        rcases e with e | e
        · exact HXS.out e.symm
        · rcases HG9.out sb e with e | e
          · exact HOs.out e
          · have := HT8.out.lt; omega))
      clear hB10 hK10
      have c34 : w10.cell? ⟨xb, 34, none⟩ = some (.int .u32 64) := H10.out.st.cells.2.2.1
      have c35 : w10.cell? ⟨xb, 35, none⟩ = some (.int .u32 68) := H10.out.st.cells.2.2.2.1
      have c37 : w10.cell? ⟨xb, 37, none⟩ = some (.int .u32 0) := H10.out.st.cells.2.2.2.2.2.1
      have c42 : w10.cell? ⟨xb, 42, none⟩ = some (.int .i64 (s.count + 1 + 1)) := H10.out.st.cells.2.2.2.2.2.2.2.2.2.2
      have d42 : w10.cell? ⟨sb, 42, none⟩ = some (.int .i64 s.count) := HT10.out.cells.2.2.2.2.2.2.2.2.2.2
      have hcc := HC.out
      clear H10
      go_wp2_with fail
      go_ret
      exact ⟨by go_num, HK10.out⟩
    · have HS9 := Lib.hid (show StAt w9 xb (stE s true e0 bad) from hS9)
      have HR9 := Lib.hid (show Cp.Rng (stE s true e0 bad) from hrng9)
      clear hS9 hrng9
      have c32 : w9.cell? ⟨xb, 32, none⟩ = some (.int .u32 s.hi) := HS9.out.cells.1
      have c33 : w9.cell? ⟨xb, 33, none⟩ = some (.int .u32 s.lo) := HS9.out.cells.2.1
      have c34 : w9.cell? ⟨xb, 34, none⟩ = some (.int .u32 384) := HS9.out.cells.2.2.1
      have c36 : w9.cell? ⟨xb, 36, none⟩ = some (.bool false) := HS9.out.cells.2.2.2.2.1
      have c37 : w9.cell? ⟨xb, 37, none⟩ = some (.int .u32 2) := HS9.out.cells.2.2.2.2.2.1
      have c38 : w9.cell? ⟨xb, 38, none⟩ = some (.int .u32 (4 * e0 + 2147483648)) := HS9.out.cells.2.2.2.2.2.2.1
      have c39 : w9.cell? ⟨xb, 39, none⟩ = some (.int .u32 60) := HS9.out.cells.2.2.2.2.2.2.2.1
      have d32 : w9.cell? ⟨sb, 32, none⟩ = some (.int .u32 s.hi) := HT9.out.cells.1
      have d33 : w9.cell? ⟨sb, 33, none⟩ = some (.int .u32 s.lo) := HT9.out.cells.2.1
      go_wp2_with (first
        | (with_reducible refine wpList_load_regs rfl _ rfl xb (stE s true e0 bad) (stT s true).R (stE_R s true e0 bad) HS9.out rfl ?_)
        | (with_reducible refine wpList_load_regs rfl _ rfl sb (stT s true) (stT s true).R rfl HT9.out rfl ?_)
        | (with_reducible refine wpList_neq_regs rfl _ _ _ rfl (stT s true).R HRG.out.R rfl rfl ?_))
      clear c32 c33 c34 c36 c37 c38 c39 d32 d33
      refine (step_all xb b O' (stE s true e0 bad) (busT v) w9 ea (HE0.out.keep HKW9.out ⟨fun h => h, fun h => h, fun h => h⟩) HS9.out HB9.out HR9.out (by show ([] : List UInt8).length < _; decide) (by show 0 < _; decide) HOX.out HS9.out.lt).mono ?_
      intro e w10 h
      rw [stE_back] at h
      have H10 := Lib.hid h
      obtain rfl := h.e
      clear h
      obtain ⟨O2, hB10, _, hK10⟩ := H10.out.k
      have HK10 := Lib.hid (HKW9.out.trans hK10 (fun j hj e => by
        rcases e with e | e
        · have := HXW.out; omega
        · rcases HG9.out j e with e | e
          · have := HO.out j e; have := HWS.out; omega
          · have := HKW8.out.size; omega))
      have HT10 := Lib.hid (HT9.out.keep hK10 (fun e => by
        rcases e with e | e
        · exact HXS.out e.symm
        · rcases HG9.out sb e with e | e
          · exact HOs.out e
          · have := HT8.out.lt; omega))
      clear hB10 hK10
      have c34 : w10.cell? ⟨xb, 34, none⟩ = some (.int .u32 60) := H10.out.st.cells.2.2.1
      have c35 : w10.cell? ⟨xb, 35, none⟩ = some (.int .u32 64) := H10.out.st.cells.2.2.2.1
      have c37 : w10.cell? ⟨xb, 37, none⟩ = some (.int .u32 0) := H10.out.st.cells.2.2.2.2.2.1
      have c42 : w10.cell? ⟨xb, 42, none⟩ = some (.int .i64 (s.count + 1 + 1)) := H10.out.st.cells.2.2.2.2.2.2.2.2.2.2
      have d42 : w10.cell? ⟨sb, 42, none⟩ = some (.int .i64 s.count) := HT10.out.cells.2.2.2.2.2.2.2.2.2.2
      have hcc := HC.out
      clear H10
      go_wp2_with fail
      go_ret
      exact ⟨by go_num, HK10.out⟩
end Go.Proofs.YtlbdkcnbgdmpaaaDoor

/- OpenSt -/
/- What an argument of type api.State holds. -/
namespace Go.Proofs.YtlbdkcnbgdmpaaaDoor
open Go.RowKit Go.Deep
set_option linter.unusedVariables false

def tysSt : List TypeId := (List.replicate 32 23) ++ [23, 23, 23, 23, 4, 23, 23, 23, 23, 23, 3]
theorem cellTypes_state : Tryd.prog.cellTypes Tryd.prog.depth 53 = some tysSt := by kernel_rfl
theorem cellsOf_state : Tryd.prog.cellsOf 53 = 43 := by kernel_rfl
theorem cell_int {P : Program} {w : World} {r : Reach} {base : Nat} {t : TypeId} {k : IntKind} {v : Value} (ht : P.underlying t = some (.int k)) (h : Cell.okWide P w r base t v) : ∃ n, v = .int k n ∧ k.has n := by
  unfold Cell.okWide Cell.ok at h
  rw [ht] at h
  cases v <;> simp_all
theorem cell_bool {P : Program} {w : World} {r : Reach} {base : Nat} {t : TypeId} {v : Value} (ht : P.underlying t = some .bool) (h : Cell.okWide P w r base t v) : ∃ b, v = .bool b := by
  unfold Cell.okWide Cell.ok at h
  rw [ht] at h
  cases v <;> simp_all
set_option maxRecDepth 100000 in
theorem cell_u32 {w : World} {r : Reach} {base : Nat} {v : Value} (h : Cell.okWide Tryd.prog w r base 23 v) : ∃ n, v = .int .u32 n ∧ Cp.W n := by
  obtain ⟨n, h1, h2⟩ := cell_int Tryd.underlying23 h
  refine ⟨n, h1, ?_⟩
  unfold IntKind.has at h2
  have e1 : IntKind.u32.min = 0 := by decide
  have e2 : IntKind.u32.max = 4294967295 := by decide
  rw [e1, e2] at h2
  unfold Cp.W
  omega
def numAt (cs : List Value) (k : Nat) : Int := match cs[k]? with | some (.int _ n) => n | _ => 0
def boolAt (cs : List Value) (k : Nat) : Bool := match cs[k]? with | some (.bool b) => b | _ => false
def stOf (cs : List Value) : Cp.St := ⟨fun k => numAt cs k, numAt cs 32, numAt cs 33, numAt cs 34, numAt cs 35, boolAt cs 36, numAt cs 37, numAt cs 38, numAt cs 39, numAt cs 40, numAt cs 41, numAt cs 42⟩
set_option maxRecDepth 100000 in
theorem open_state {w : World} {r : Reach} {base : Nat} {v : Value} (h : Value.okWide Tryd.prog w r base 53 v) : ∃ s : Cp.St, v = .agg (stL s).toArray ∧ (0 ≤ s.count → s.count < 4611686018427387904 → Cp.Rng s) := by
  unfold Value.okWide at h
  rw [Tryd.underlying53] at h
  obtain ⟨⟨cs⟩, rfl, hsz, ts, hts, _, hall⟩ := h
  rw [cellTypes_state] at hts
  obtain rfl := Option.some.inj hts
  rw [cellsOf_state] at hsz
  have hl : cs.length = 43 := hsz
  have hc : ∀ k (hk : k < 43), ∃ u, tysSt[k]? = some u ∧ Cell.okWide Tryd.prog w r base u (cs[k]'(by omega)) := by
    intro k hk
    obtain ⟨u, h1, h2⟩ := hall k (cs[k]'(by omega)) (by simp [hl, hk])
    rw [show tysSt.length = 43 from rfl, Nat.mod_eq_of_lt hk] at h1
    exact ⟨u, h1, h2⟩
  have hu : ∀ k, k < 43 → k ≠ 36 → k ≠ 42 → cs[k]? = some (.int .u32 (numAt cs k)) ∧ Cp.W (numAt cs k) := by
    intro k hk h36 h42
    obtain ⟨u, h1, h2⟩ := hc k hk
    have : u = 23 := by
      have h3 : ∀ j : Fin 43, j.val ≠ 36 → j.val ≠ 42 → tysSt[j.val]? = some 23 := by decide
      have := h3 ⟨k, hk⟩ h36 h42
      rw [this] at h1
      exact (Option.some.inj h1).symm
    subst this
    obtain ⟨n, h3, h4⟩ := cell_u32 h2
    have h5 : cs[k]? = some (.int .u32 n) := by rw [List.getElem?_eq_getElem (by omega), h3]
    have h6 : numAt cs k = n := by unfold numAt; rw [h5]
    rw [h6]
    exact ⟨h5, h4⟩
  have h36 : cs[36]? = some (.bool (boolAt cs 36)) := by
    obtain ⟨u, h1, h2⟩ := hc 36 (by omega)
    obtain rfl : 4 = u := Option.some.inj h1
    obtain ⟨b, h3⟩ := cell_bool Tryd.underlying4 h2
    have h5 : cs[36]? = some (.bool b) := by rw [List.getElem?_eq_getElem (by omega), h3]
    have h6 : boolAt cs 36 = b := by unfold boolAt; rw [h5]
    rw [h6]
    exact h5
  have h42 : cs[42]? = some (.int .i64 (numAt cs 42)) := by
    obtain ⟨u, h1, h2⟩ := hc 42 (by omega)
    obtain rfl : 3 = u := Option.some.inj h1
    obtain ⟨n, h3, _⟩ := cell_int Tryd.underlying3 h2
    have h5 : cs[42]? = some (.int .i64 n) := by rw [List.getElem?_eq_getElem (by omega), h3]
    have h6 : numAt cs 42 = n := by unfold numAt; rw [h5]
    rw [h6]
    exact h5
  refine ⟨stOf cs, ?_, fun c1 c2 => ⟨fun k hk => (hu k (by omega) (by omega) (by omega)).2, (hu 32 (by omega) (by omega) (by omega)).2, (hu 33 (by omega) (by omega) (by omega)).2, (hu 34 (by omega) (by omega) (by omega)).2, (hu 35 (by omega) (by omega) (by omega)).2, (hu 37 (by omega) (by omega) (by omega)).2, (hu 38 (by omega) (by omega) (by omega)).2, (hu 39 (by omega) (by omega) (by omega)).2, (hu 40 (by omega) (by omega) (by omega)).2, (hu 41 (by omega) (by omega) (by omega)).2, c1, c2⟩⟩
  congr 2
  apply List.ext_getElem?
  intro i
  by_cases hi : i < 32
  · unfold stL
    rw [List.getElem?_append_left (by rw [regs_len]; exact hi), (hu i (by omega) (by omega) (by omega)).1]
    simp [regs, hi, stOf]
  · by_cases h43 : 43 ≤ i
    · rw [List.getElem?_eq_none (by omega), List.getElem?_eq_none (by rw [show (stL (stOf cs)).length = 43 by simp [stL, regs, restC]]; omega)]
    · unfold stL
      rw [List.getElem?_append_right (by rw [regs_len]; omega), regs_len]
      have hi2 : i = 32 ∨ i = 33 ∨ i = 34 ∨ i = 35 ∨ i = 36 ∨ i = 37 ∨ i = 38 ∨ i = 39 ∨ i = 40 ∨ i = 41 ∨ i = 42 := by omega
      rcases hi2 with rfl | rfl | rfl | rfl | rfl | rfl | rfl | rfl | rfl | rfl | rfl
      all_goals first
        | exact h36
        | exact h42
        | exact (hu _ (by decide) (by decide) (by decide)).1
end Go.Proofs.YtlbdkcnbgdmpaaaDoor

/- Frame -/
/- The frame of every law: what reads before the call reads so behind it, where nothing below the heap's old size has turned; how words that come in are opened. No program in sight but its tables. -/
namespace Go.Proofs.YtlbdkcnbgdmpaaaDoor
open Go.ChangeShapes Go.WideShapes Go.ChangeAt Go.RowKit
set_option linter.unusedVariables false

theorem trodAll_stays {H : Type} {enc : TypeId × Value → H} {P : Program} (hl : laidOutB P = true) {W W' : World} (hb : Below W.heap.size W W') :
    ∀ (ts : List TypeId) (vs : List Value) (ds : List (DataW H)) (ps : List MemPlace), (∀ t ∈ ts, P.readableRec t = true ∧ t < P.types.size) → (∀ x ∈ ps, x.block < W.heap.size) →
      DataW.TrodAll enc P W 0 (fun _ => true) true ts vs ds ps → DataW.TrodAll enc P W' 0 (fun b => decide (b < W.heap.size)) true ts vs ds ps
  | [], vs, ds, ps, _, _, h => by
    obtain ⟨rfl, rfl, rfl⟩ := trodAll_nil h
    exact trodAll_mk0
  | t :: ts, vs, ds, ps, hts, hlt, h => by
    obtain ⟨v, vs', d, ds', p, q, rfl, rfl, rfl, h0, r0⟩ := trodAll_cons h
    obtain ⟨h1, h2⟩ := hts t (by simp)
    exact trodAll_cons_mk (Below.trod hl h1 h2 h0 hb (fun x hx => hlt x (by simp [hx])))
      (trodAll_stays hl hb ts vs' ds' q (fun u hu => hts u (by simp [hu])) (fun x hx => hlt x (by simp [hx])) r0)

/-- a law's end: true, and its arguments as they were -/
theorem law_post {H : Type} {enc : TypeId × Value → H} {P : Program} {f : Func} {s : ChangeSpec} {W W' : World} {args : Array Value} {ds gs : List (DataW H)} {before : List MemPlace} {tb : TypeId}
    (hl : laidOutB P = true) (hts : ∀ t ∈ f.params.toList, P.readableRec t = true ∧ t < P.types.size) (hres : f.resultTypes = #[tb]) (htb : P.underlying tb = some .bool) (hv : s.vars = [])
    (hW : DataW.Whole enc P f.params.toList s.vars false W args.toList ds gs before) (hs : s.fn H (ds ++ gs) = { results := [.lit (.bool true)], args := ds }) (hb : Below W.heap.size W W') :
    s.post enc P f false true false false W args (.bool true) W' := by
  have hW' := hW
  obtain ⟨p, q, hA, hV, rfl, hfz, hnd⟩ := hW
  have hlt : ∀ x ∈ p ++ q, x.block < W.heap.size := fun x hx => hW'.lt x hx
  refine ⟨ds, gs, p ++ q, [], p, [], hW', ?_, ?_, ?_, hb.frame _, fun h => by cases h⟩
  · rw [hs, hres]; exact trodAll_mk1 (shut_bool htb true)
  · rw [hs]; exact trodAll_stays hl hb _ _ _ _ hts (fun x hx => hlt x (by simp [hx])) hA
  · rw [hs, hv]; rfl

/-- what is written of a word: it lies in its bounds -/
theorem rng_u32 {a : Int} (h : (Lit.int .u32 a).wf = true) : 0 ≤ a ∧ a < 4294967296 := by
  simp [Lit.wf, IntKind.min, IntKind.max, IntKind.signed, IntKind.bits] at h; omega

/-- WORDS THAT CAME IN, to be read -/
theorem open_words {H : Type} {enc : TypeId × Value → H} {P : Program} {W : World} {base : Nat} {ts te : TypeId} {v : Value} {d : DataW H} {ps : List MemPlace} (ht : P.underlying ts = some (.slice te)) (he : P.underlying te = some (.int .u32)) (hc : P.cellsOf te = 1)
    (hval : Value.okWide P W .any base ts v) (h : DataW.Trod enc P W 0 (fun _ => true) true ts v d ps) (hlt : ∀ x ∈ ps, x.block < W.heap.size) :
    ∃ (A : Option Addr) (len cap : Nat) (ws : Nat → Int), v = .slice A len cap ∧ Reads W A len cap (fun i => .int .u32 (ws i)) ∧ cap ≤ maxLen ∧ ∀ i, i < len → 0 ≤ ws i ∧ ws i < 4294967296 := by
  obtain ⟨a0, len, cap, rfl⟩ := okWide_slice ht hval
  obtain ⟨fuel, hf⟩ := h
  rcases open_ints ht he hc hf with ⟨hcs, hx⟩ | ⟨a, len', cap', zs, hcs, _, hl, hm, hz, hx, hcell, hwz⟩
  · simp [Value.cells] at hcs
    obtain ⟨rfl, rfl, rfl⟩ := hcs
    exact ⟨none, 0, 0, fun _ => 0, rfl, ⟨Nat.le_refl _, .inl rfl⟩, Nat.zero_le _, fun i hi => by omega⟩
  · simp [Value.cells] at hcs
    obtain ⟨rfl, rfl, rfl⟩ := hcs
    simp only [if_true] at hz
    obtain ⟨b, off, spot⟩ := a
    have hws : ∀ i, i < len → 0 ≤ zs.getD i 0 ∧ zs.getD i 0 < 4294967296 := by
      intro i hi
      have hlt : i < zs.length := by omega
      have e : zs.getD i 0 = zs[i] := by simp [List.getD, hlt]
      have hm := hwz zs[i] (List.getElem_mem _)
      rw [e]
      simp [Lit.wf, IntKind.min, IntKind.max, IntKind.signed, IntKind.bits] at hm
      omega
    by_cases h0 : cap = 0
    · exact ⟨some ⟨b, off, spot⟩, len, cap, fun _ => 0, rfl, ⟨hl, .inl h0⟩, hm, fun i hi => by omega⟩
    · have hspot : spot = none := by simpa [Addr.add] using World.cell?_spot (hcell 0 (by omega))
      subst hspot
      refine ⟨some ⟨b, off, none⟩, len, cap, fun i => zs.getD i 0, rfl, ⟨hl, .inr ⟨b, off, rfl, ?_, fun i hi => ?_⟩⟩, hm, hws⟩
      · have := World.block_lt_of_cell? W _ (hcell 0 (by omega))
        simpa [Addr.add] using this
      · have := hcell i (by omega)
        simpa [Addr.add_lit] using this
end Go.Proofs.YtlbdkcnbgdmpaaaDoor
