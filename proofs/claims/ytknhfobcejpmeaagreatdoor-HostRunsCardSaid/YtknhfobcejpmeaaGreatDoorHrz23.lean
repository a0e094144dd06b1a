import Derived.Test.YtknhfobcejpmeaaGreatDoorHrz09
import Derived.Test.YtknhfobcejpmeaaGreatDoorHrz18
import Derived.Test.YtknhfobcejpmeaaGreatDoorHrz20
import Derived.Test.YtknhfobcejpmeaaGreatDoorHrz14
import Derived.Test.YtknhfobcejpmeaaGreatDoorHrz19

/- PlanBox -/
/- A plan in a block of its own. -/
namespace Go.Proofs.YtknhfobcejpmeaaGreatDoor
open Go.RowKit Go.Deep
set_option linter.unusedVariables false
set_option linter.unusedSimpArgs false

theorem size_plan : (Tryz.prog.info? 35).map (·.size) = some 3 := by kernel_rfl
theorem results_plan {fn : Func} {p u : Tmp} (h : fn.results = #[.cell p 35, .tmp u]) (tmps : Array Value) (w : World) (g : Nat) (cs : Array Value) (hp : tmps.getD p undef = .pointer (some ⟨g, 0, none⟩)) (hg : w.heap[g]? = some (.cells cs 35 (0, 0))) (hc : cs.size = 3) :
    (results fn tmps).run Tryz.prog w = .ok (.tuple #[.agg cs, tmps.getD u undef]) w := by
  rw [results_cell_tmp h, hp]
  have := run_loadVar_row (P := Tryz.prog) w g 35 35 cs (0, 0) _ hg Tryz.underlying35 rfl (by rw [hc]; exact size_plan)
  simp [asAddr, this]
/-- a plan in a block of its own -/
structure PlanBox (w : World) (x : Nat) (pc many : Int) (A : Option Addr) (n cap : Nat) : Prop where
  blk : w.heap[x]? = some (.cells (codeC pc many A n cap) 35 (0, 0))
theorem PlanBox.lt {w : World} {x : Nat} {pc many : Int} {A : Option Addr} {n cap : Nat} (h : PlanBox w x pc many A n cap) : x < w.heap.size := (Array.getElem?_eq_some_iff.1 h.blk).1
theorem PlanBox.keep {S : Nat → Prop} {w w' : World} {x : Nat} {pc many : Int} {A : Option Addr} {n cap : Nat} (h : PlanBox w x pc many A n cap) (k : Keeps S w w') (hs : ¬ S x) : PlanBox w' x pc many A n cap := ⟨(k.block x h.lt hs).trans h.blk⟩
theorem PlanBox.cells {w : World} {x : Nat} {pc many : Int} {A : Option Addr} {n cap : Nat} (h : PlanBox w x pc many A n cap) :
    w.cell? ⟨x, 0, none⟩ = some (.int .u32 pc) ∧ w.cell? ⟨x, 1, none⟩ = some (.int .i64 many) ∧ w.cell? ⟨x, 2, none⟩ = some (.slice A n cap) ∧ w.frozen? ⟨x, 0, none⟩ = false ∧ w.frozen? ⟨x, 1, none⟩ = false ∧ w.frozen? ⟨x, 2, none⟩ = false := by
  have hb := h.blk
  unfold codeC at hb
  refine ⟨?_, ?_, ?_, frozen_of_block hb 0, frozen_of_block hb 1, frozen_of_block hb 2⟩ <;> (unfold World.cell?; rw [hb]; rfl)
theorem PlanBox.put {w : World} {x : Nat} {pc many pc' many' : Int} {A A' : Option Addr} {n cap n' cap' : Nat} (h : PlanBox w x pc many A n cap) :
    PlanBox (((w.setCell ⟨x, 0, none⟩ (.int .u32 pc')).setCell ⟨x, 1, none⟩ (.int .i64 many')).setCell ⟨x, 2, none⟩ (.slice A' n' cap')) x pc' many' A' n' cap' ∧
      Keeps (· = x) w (((w.setCell ⟨x, 0, none⟩ (.int .u32 pc')).setCell ⟨x, 1, none⟩ (.int .i64 many')).setCell ⟨x, 2, none⟩ (.slice A' n' cap')) :=
  ⟨⟨(set3c h.blk).1⟩, (set3c h.blk).2⟩
theorem PlanBox.new (w : World) (pc many : Int) (A : Option Addr) (n cap : Nat) : PlanBox (w.alloc (.cells #[.int .u32 pc, .int .i64 many, .slice A n cap] 35)) w.heap.size pc many A n cap := ⟨blk_alloc_new _ _⟩
end Go.Proofs.YtknhfobcejpmeaaGreatDoor

/- HostRunE -/
/- The walk of host.Run: what is not right. Its text is turned from XEval's by a program (NOTES). -/
namespace Go.Proofs.YtknhfobcejpmeaaGreatDoor
open Go.RowKit Go.Deep
set_option linter.unusedVariables false
set_option linter.unusedSimpArgs false

structure HrunBox (w wr : World) (x rb : Nat) (pc many : Int) (A : Option Addr) (n cap : Nat) : Prop where
  code : PlanBox wr x pc many A n cap
  res : EndBox wr rb false 0
  k : Keeps (fun _ => False) w wr
  low : w.heap.size ≤ x ∧ w.heap.size ≤ rb
theorem HrunBox.new (w : World) (pc many : Int) (A : Option Addr) (n cap : Nat) :
    HrunBox w ((w.alloc (.cells #[.int .u32 pc, .int .i64 many, .slice A n cap] 35)).alloc (.cells #[.bool false, .int .i64 0] 56)) w.heap.size (w.heap.size + 1) pc many A n cap := by
  have h1 := PlanBox.new w pc many A n cap
  have h2 := EndBox.new (w.alloc (.cells #[.int .u32 pc, .int .i64 many, .slice A n cap] 35)) false 0
  rw [nblk_alloc] at h2
  exact ⟨h1.keep ((Keeps.refl (fun _ => False) _).alloc _) (fun h => h), h2, ((Keeps.refl _ _).alloc _).alloc _, by omega⟩
theorem HrunBox.keep {w wr w' : World} {x rb : Nat} {pc many : Int} {A : Option Addr} {n cap : Nat} (h : HrunBox w wr x rb pc many A n cap) (k : Keeps (fun _ => False) wr w') : HrunBox w w' x rb pc many A n cap :=
  ⟨h.code.keep k (fun h => h), h.res.keep k (fun h => h), h.k.trans k (fun _ _ h => h), h.low⟩
theorem ErrsR.quietR {w w' : World} {ea : Nat → Addr} (E : ErrsR w ea) (k : Keeps (fun _ => False) w w') : ErrsR w' ea := E.quiet k
theorem ErrsAll.toRh {w : World} {ea : Nat → Addr} (E : ErrsAll w ea) : ErrsR w ea := ⟨E.toC, E.cell 7 (by omega) (by omega)⟩
set_option maxHeartbeats 4000000 in
set_option maxRecDepth 100000 in
theorem hrun_bad (pc many : Int) (A : Option Addr) (n cap : Nat) (rows : List (List Ir.Op)) (sa ra : Addr) (w : World) (ea : Nat → Addr) (E : ErrsR w ea) (V : RowsAt w A n cap rows) (hc : cap ≤ 9223372036854775807) (hf : (Ir.planFault many rows).1 ≠ 0) :
    Calls Tryz.prog 21 #[.agg #[.int .u32 pc, .int .i64 many, .slice A n cap], .pointer (some sa), .pointer (some ra)] w fun e w' => (∃ ev, e = .returned (.tuple #[.agg (endC false 0), ev]) ∧ FaultIs w' ea (Ir.planFault many rows) ev) ∧ Keeps (fun _ => False) w w' := by
  have HE := Lib.hid E
  have HV := Lib.hid V
  have HN := Lib.hid (HrunBox.new w pc many A n cap)
  have HCK := Lib.hid (fun w E V => planCheck_any pc many A n cap rows w ea E V hc)
  have HF := Lib.hid hf
  clear E V hf
  go_enter Tryz.func21, Tryz.ntmps21
  go_upto_region 1 with fail
  have hN := HN.out
  clear HN
  generalize (w.alloc _).alloc _ = w1 at *
  generalize w.heap.size + 1 = rb at *
  obtain ⟨x, hx⟩ : ∃ x, w.heap.size = x := ⟨_, rfl⟩
  rw [hx] at hN ⊢
  clear hx
  have HB1 := Lib.hid hN
  obtain ⟨c0, c1, c2, _⟩ := hN.code.cells
  clear hN
  go_wp2_with fail
  refine (HCK.out w1 (HE.out.quietR HB1.out.k) (HV.out.quiet HB1.out.k)).mono ?_
  rintro e w2 ⟨⟨v, rfl, hv⟩, hk2⟩
  have HB2 := Lib.hid (HB1.out.keep hk2)
  have HFV := Lib.hid hv
  have hp := hv.parts
  clear c0 c1 c2 hk2 hv
  rcases hp with ⟨h0, rfl⟩ | ⟨h0, t, u, rfl⟩
  · exact absurd h0 HF.out
  · obtain ⟨r0, r1, g0, g1⟩ := HB2.out.res.cells
    obtain ⟨hq1, hq2⟩ := HB2.out.res.put (t' := false) (a' := 0)
    have HP := Lib.hid hq1
    have HPK := Lib.hid hq2
    clear h0 hq1 hq2
    go_wp2_with fail
    refine bodyPost_ret (results_end rfl _ _ rb false 0 rfl HP.out) rfl ⟨⟨_, rfl, ?_⟩, ?_⟩
    · exact HFV.out.otherE HB2.out.res HPK.out
    · exact HB2.out.k.trans HPK.out (fun b hb e => by have e : b = rb := e; have := HB2.out.low; omega)
set_option maxHeartbeats 4000000 in
set_option maxRecDepth 100000 in
theorem hrun_unready (pc many : Int) (A : Option Addr) (n cap : Nat) (rows : List (List Ir.Op)) (sb : Nat) (ra : Addr) (s : Cp.St) (w : World) (ea : Nat → Addr) (E : ErrsR w ea) (E3 : Errs3 w ea) (V : RowsAt w A n cap rows) (hc : cap ≤ 9223372036854775807) (hf : (Ir.planFault many rows).1 = 0) (hS : StAt w sb s) (hpc : 0 ≤ pc ∧ pc < 4294967296) (hr : Ir.ready s pc = false) :
    Calls Tryz.prog 21 #[.agg #[.int .u32 pc, .int .i64 many, .slice A n cap], .pointer (some ⟨sb, 0, none⟩), .pointer (some ra)] w fun e w' => e = .returned (.tuple #[.agg (endC false 0), errV ea 9]) ∧ Keeps (fun _ => False) w w' := by
  have HE := Lib.hid E
  have HE3 := Lib.hid E3
  have HV := Lib.hid V
  have HS := Lib.hid hS
  have HN := Lib.hid (HrunBox.new w pc many A n cap)
  have HCK := Lib.hid (fun w E V => planCheck_any pc many A n cap rows w ea E V hc)
  have HF := Lib.hid hf
  clear E V hf E3 hS
  go_enter Tryz.func21, Tryz.ntmps21
  go_upto_region 1 with fail
  have hN := HN.out
  clear HN
  generalize (w.alloc _).alloc _ = w1 at *
  generalize w.heap.size + 1 = rb at *
  obtain ⟨x, hx⟩ : ∃ x, w.heap.size = x := ⟨_, rfl⟩
  rw [hx] at hN ⊢
  clear hx
  have HB1 := Lib.hid hN
  obtain ⟨c0, c1, c2, _⟩ := hN.code.cells
  clear hN
  go_wp2_with fail
  refine (HCK.out w1 (HE.out.quietR HB1.out.k) (HV.out.quiet HB1.out.k)).mono ?_
  rintro e w2 ⟨⟨v, rfl, hv⟩, hk2⟩
  have HB2 := Lib.hid (HB1.out.keep hk2)
  obtain rfl : v = .nilIface := by
    rcases hv.parts with h | h
    · exact h.2
    · exact absurd HF.out h.1
  clear c0 c1 c2 hk2 hv
  obtain ⟨c0, c1, c2, _⟩ := HB2.out.code.cells
  have HRY := Lib.hid (ready_any sb s pc w2 (HS.out.keep HB2.out.k (fun h => h)) hpc)
  rw [hr] at HRY
  go_wp2_with fail
  refine HRY.out.mono ?_
  rintro e w3 ⟨rfl, rfl⟩
  obtain ⟨r0, r1, g0, g1⟩ := HB2.out.res.cells
  have he := HE3.out.keep HB2.out.k ⟨fun h => h, fun h => h, fun h => h⟩
  have he2 := he.align
  have hne : 1 ≠ rb := by
    rintro rfl
    rw [r0] at he2
    cases he2
  clear he c0 c1 c2
  go_upto_region 7 with fail
  go_region_held3 (fun w' => Keeps (· = rb) w2 w' ∧ w'.cell? ⟨1, 0, none⟩ = some (.iface 275 (.pointer (some (ea 9)))))
    (first | (refine ⟨?_, ?_⟩ <;> first | ((repeat (first | (with_reducible assumption) | (with_reducible (exact Keeps.refl _ _)) | (with_reducible (apply Keeps.drew)) | (refine Keeps.setCell (S := fun x => x = rb) (a := ⟨rb, _, none⟩) ?_ (fun _ => rfl) _))); done) | (refine Keeps.cell' (S := (· = rb)) (w := w2) ?_ (by assumption) hne; (repeat (first | (with_reducible assumption) | (with_reducible (exact Keeps.refl _ _)) | (with_reducible (apply Keeps.drew)) | (refine Keeps.setCell (S := fun x => x = rb) (a := ⟨rb, _, none⟩) ?_ (fun _ => rfl) _))); done)) | (trace_state; fail))
    (fail)
  rename_i hh
  have HKH := Lib.hid hh.1
  clear hh r0 r1 g0 g1 he2 hne
  obtain ⟨hq1, hq2⟩ := HB2.out.res.put (t' := false) (a' := 0)
  have HP := Lib.hid (hq1.keep ((Keeps.refl (fun _ => False) _).drew) (fun h => h))
  clear hq1 hq2
  go_wp2_with fail
  refine bodyPost_ret (results_end rfl _ _ rb false 0 rfl HP.out) rfl ⟨rfl, ?_⟩
  exact HB2.out.k.trans HKH.out (fun b hb e => by have e : b = rb := e; have := HB2.out.low; omega)
set_option maxHeartbeats 4000000 in
set_option maxRecDepth 100000 in
theorem hrun_nil (pc many : Int) (A : Option Addr) (n cap : Nat) (w : World) (ea : Nat → Addr) (E : ErrsAll w ea) :
    Calls Tryz.prog 21 #[.agg #[.int .u32 pc, .int .i64 many, .slice A n cap], .pointer none, .pointer none] w fun e w' => e = .returned (.tuple #[.agg (endC false 0), errV ea 3]) ∧ Keeps (fun _ => False) w w' := by
  have HE := Lib.hid E
  have HN := Lib.hid (HrunBox.new w pc many A n cap)
  clear E
  go_enter Tryz.func21, Tryz.ntmps21
  go_upto_region 1 with fail
  have hN := HN.out
  clear HN
  generalize (w.alloc _).alloc _ = w1 at *
  generalize w.heap.size + 1 = rb at *
  obtain ⟨x, hx⟩ : ∃ x, w.heap.size = x := ⟨_, rfl⟩
  rw [hx] at hN ⊢
  clear hx
  have HB1 := Lib.hid hN
  clear hN
  obtain ⟨r0, r1, g0, g1⟩ := HB1.out.res.cells
  have he2 : w1.cell? ⟨0, 0, none⟩ = some (.iface 275 (.pointer (some (ea 3)))) := (HE.out.quiet HB1.out.k).cell 3 (by omega) (by omega)
  have hne : 0 ≠ rb := by
    rintro rfl
    rw [r0] at he2
    cases he2
  go_upto_region 2 with fail
  go_region_held3 (fun w' => Keeps (· = rb) w1 w' ∧ w'.cell? ⟨0, 0, none⟩ = some (.iface 275 (.pointer (some (ea 3)))))
    (first | (refine ⟨?_, ?_⟩ <;> first | ((repeat (first | (with_reducible assumption) | (with_reducible (exact Keeps.refl _ _)) | (with_reducible (apply Keeps.drew)) | (refine Keeps.setCell (S := fun x => x = rb) (a := ⟨rb, _, none⟩) ?_ (fun _ => rfl) _))); done) | (refine Keeps.cell' (S := (· = rb)) (w := w1) ?_ (by assumption) hne; (repeat (first | (with_reducible assumption) | (with_reducible (exact Keeps.refl _ _)) | (with_reducible (apply Keeps.drew)) | (refine Keeps.setCell (S := fun x => x = rb) (a := ⟨rb, _, none⟩) ?_ (fun _ => rfl) _))); done)) | (trace_state; fail))
    (fail)
  rename_i hh
  have HKH := Lib.hid hh.1
  clear hh r0 r1 g0 g1 he2 hne
  obtain ⟨hq1, hq2⟩ := HB1.out.res.put (t' := false) (a' := 0)
  have HP := Lib.hid (hq1.keep ((Keeps.refl (fun _ => False) _).drew) (fun h => h))
  clear hq1 hq2
  go_wp2_with fail
  refine bodyPost_ret (results_end rfl _ _ rb false 0 rfl HP.out) rfl ⟨rfl, ?_⟩
  exact HB1.out.k.trans HKH.out (fun b hb e => by have e : b = rb := e; have := HB1.out.low; omega)
end Go.Proofs.YtknhfobcejpmeaaGreatDoor

/- HostRunL -/
/- A plan whose fault is none, plainly. -/
namespace Go.Proofs.YtknhfobcejpmeaaGreatDoor
open Go.RowKit
set_option linter.unusedVariables false
namespace Ir
structure PGood (many : Int) (rows : List (List Op)) : Prop where
  range : 1 ≤ many ∧ many ≤ 24
  len : rows.length ≤ 200
  row : ∀ l ∈ rows, l.length ≤ 4 ∧ ∀ o ∈ l, opErr o many = 0
theorem opErrs_all0 {many : Int} : ∀ {l : List Op}, opErrs many l = 0 → ∀ o ∈ l, opErr o many = 0
  | [], _, o, h => by cases h
  | p :: r, h, o, ho => by
    unfold opErrs at h
    split at h
    · rename_i hp
      exact absurd h hp
    · rename_i hp
      rcases List.mem_cons.1 ho with rfl | ho
      · simpa using hp
      · exact opErrs_all0 h o ho
theorem rowErr_row {many : Int} {l : List Op} {last : Bool} (h : rowErr many l last = 0) : l.length ≤ 4 ∧ ∀ o ∈ l, opErr o many = 0 := by
  unfold rowErr at h
  split at h
  · cases h
  rename_i h1
  split at h
  · rename_i h2
    exact absurd h h2
  rename_i h2
  exact ⟨by omega, opErrs_all0 (by simpa using h2)⟩
theorem rowsErr_no {many : Int} {n : Nat} : ∀ (rows : List (List Op)) (i : Nat), (match rowsErr many n i rows with | some (c, _) => c ≠ 0 | none => ∀ l ∈ rows, l.length ≤ 4 ∧ ∀ o ∈ l, opErr o many = 0)
  | [], _ => fun l h => by cases h
  | l :: r, i => by
    unfold rowsErr
    by_cases h : rowErr many l (decide (i + 1 = n)) ≠ 0
    · rw [if_pos h]
      exact h
    · rw [if_neg h]
      have hr := rowsErr_no (many := many) (n := n) r (i + 1)
      cases hq : rowsErr many n (i + 1) r with
      | some p =>
        rw [hq] at hr
        exact hr
      | none =>
        rw [hq] at hr
        intro q hq
        rcases List.mem_cons.1 hq with rfl | hq
        · exact rowErr_row (by simpa using h)
        · exact hr q hq
theorem pgood_of {many : Int} {rows : List (List Op)} (h : (planFault many rows).1 = 0) : PGood many rows := by
  unfold planFault at h
  split at h
  · cases h
  rename_i h1
  split at h
  · cases h
  rename_i h2
  split at h
  · cases h
  have hr := rowsErr_no (many := many) (n := rows.length) rows 0
  cases hq : rowsErr many rows.length 0 rows with
  | some p =>
    rw [hq] at h hr
    exact absurd h hr
  | none =>
    rw [hq] at hr
    exact ⟨by omega, by omega, hr⟩
theorem planFault_ok {many : Int} {rows : List (List Op)} (h : (planFault many rows).1 = 0) : planFault many rows = (0, -1) := by
  unfold planFault at h ⊢
  split at h
  · cases h
  rename_i h1
  split at h
  · cases h
  rename_i h2
  split at h
  · cases h
  rename_i h3
  rw [if_neg h1, if_neg h2, if_neg h3]
  have hr := rowsErr_no (many := many) (n := rows.length) rows 0
  cases hq : rowsErr many rows.length 0 rows with
  | some p =>
    rw [hq] at h hr
    exact absurd h hr
  | none =>
    rw [hq] at h
    dsimp only at h ⊢
    split at h
    · cases h
    · rename_i h4
      rw [if_neg h4]
theorem opErr_at {o : Op} {many : Int} (h : opErr o many = 0) : 0 ≤ o.at_ := by
  unfold opErr at h
  split at h
  · cases h
  split at h
  · cases h
  rename_i h2
  rw [Bool.not_eq_false] at h2
  simp only [Bool.and_eq_true, decide_eq_true_eq] at h2
  exact h2.1.2
theorem leaveTo_rng : ∀ (l : List RRes) (c : Option Int), (∀ r ∈ l, 0 ≤ r.addr ∧ r.addr < 4294967296) → (∀ p, c = some p → 0 ≤ p ∧ p < 4294967296) → ∀ p, leaveTo c l = some p → 0 ≤ p ∧ p < 4294967296
  | [], _, _, hc, p, h => hc p h
  | r :: l, c, hl, hc, p, h => leaveTo_rng l _ (fun q hq => hl q (List.mem_cons_of_mem _ hq)) (fun q hq => by
    split at hq
    · injection hq with hq
      subst hq
      exact hl r (List.mem_cons_self ..)
    · exact hc q hq) p h
theorem hostTrap_mem {X m : Nat → Int} {W : Int → Bool} {a : Int} : ∀ {l : List Op}, trapOf X m W l = some a → ∃ o ∈ l, o.at_ = a
  | [], h => by cases h
  | o :: r, h => by
    unfold trapOf at h
    split at h
    · injection h with h
      exact ⟨o, List.mem_cons_self .., h⟩
    · obtain ⟨p, hp, he⟩ := hostTrap_mem h
      exact ⟨p, List.mem_cons_of_mem _ hp, he⟩
end Ir
end Go.Proofs.YtknhfobcejpmeaaGreatDoor

/- HostRun -/
/- The walk of host.Run of a right plan. Printed by gen/hostrun.py. -/
namespace Go.Proofs.YtknhfobcejpmeaaGreatDoor
open Go.RowKit Go.Deep
set_option linter.unusedVariables false
set_option linter.unusedSimpArgs false

set_option maxHeartbeats 8000000 in
set_option maxRecDepth 100000 in
theorem hrun_run (pc many : Int) (A : Option Addr) (n cap : Nat) (rows : List (List Ir.Op)) (sb r pb pw ph cp : Nat) (s : Cp.St) (m : Nat → Int) (W : Int → Bool) (w : World) (ea : Nat → Addr) (E : ErrsR w ea) (E3 : Errs3 w ea) (V : RowsAt w A n cap rows) (hc : cap ≤ 9223372036854775807) (hf : (Ir.planFault many rows).1 = 0) (hok : ∀ l ∈ rows, ∀ o ∈ l, OpOk o)
    (hS : StAt w sb s) (hRng : Cp.Rng s) (R : RamAt w r pb pw ph cp m) (hW : WatchAt w pw W) (hpc : 0 ≤ pc ∧ pc < 4294967296) (hr : Ir.ready s pc = true) (hsep : sb ≠ r ∧ sb ≠ pb ∧ sb ≠ pw) :
    Calls Tryz.prog 21 #[.agg #[.int .u32 pc, .int .i64 many, .slice A n cap], .pointer (some ⟨sb, 0, none⟩), .pointer (some ⟨r, 0, none⟩)] w (EvalIs w sb r pb pw ph cp s m many (Ir.hostGo m W (Ir.mc0 s) rows)) := by
  have V0 := V.len
  have hncap := V.le
  have HE := Lib.hid E
  have HE3 := Lib.hid E3
  have HV := Lib.hid V
  have HS := Lib.hid hS
  have HN := Lib.hid (HrunBox.new w pc many A n cap)
  have HCK := Lib.hid (fun w E V => planCheck_any pc many A n cap rows w ea E V hc)
  have HG := Lib.hid (Ir.pgood_of hf)
  have HF := Lib.hid hf
  clear E V hf E3 hS
  have HOK := Lib.hid hok
  have HR := Lib.hid R
  have HW := Lib.hid hW
  have HSEP := Lib.hid hsep
  have HL := Lib.hid V0
  have HRNG := Lib.hid hRng
  clear hok R hW hsep V0 hRng
  go_enter Tryz.func21, Tryz.ntmps21
  go_upto_region 1 with fail
  have hN := HN.out
  clear HN
  generalize (w.alloc _).alloc _ = w1 at *
  generalize w.heap.size + 1 = rb at *
  obtain ⟨x, hx⟩ : ∃ x, w.heap.size = x := ⟨_, rfl⟩
  rw [hx] at hN ⊢
  clear hx
  have HB1 := Lib.hid hN
  obtain ⟨c0, c1, c2, _⟩ := hN.code.cells
  clear hN
  go_wp2_with fail
  refine (HCK.out w1 (HE.out.quiet HB1.out.k) (HV.out.quiet HB1.out.k)).mono ?_
  rintro e w2 ⟨⟨v, rfl, hv⟩, hk2⟩
  have HB2 := Lib.hid (HB1.out.keep hk2)
  obtain rfl : v = .nilIface := by
    rcases hv.parts with h | h
    · exact h.2
    · exact absurd HF.out h.1
  clear c0 c1 c2 hk2 hv
  obtain ⟨c0, c1, c2, _⟩ := HB2.out.code.cells
  have HRY := Lib.hid (ready_any sb s pc w2 (HS.out.keep HB2.out.k (fun h => h)) hpc)
  rw [hr] at HRY
  go_wp2_with fail
  refine HRY.out.mono ?_
  rintro e w3 ⟨rfl, rfl⟩
  have HNM := Lib.hid (newMachine_any sb r s w2 (HS.out.keep HB2.out.k (fun h => h)))
  clear c0 c1 c2
  go_wp2_with fail
  refine HNM.out.mono ?_
  rintro e w4 ⟨mb, rfl, hM4, hk4⟩
  obtain ⟨B, hB⟩ : ∃ B, w2.heap.size = B := ⟨_, rfl⟩
  rw [hB] at hM4
  have HM4 := Lib.hid hM4
  have HB4 := Lib.hid (HB2.out.keep hk4)
  have HBW := Lib.hid (show B ≤ w4.heap.size by rw [← hB]; exact hk4.size)
  have HLT := Lib.hid (show sb < B ∧ pb < B ∧ r < B ∧ pw < B ∧ rb < B ∧ x < B by
    have h1 := HS.out.keep HB2.out.k (fun h => h)
    have h2 := HR.out.keep HB2.out.k (fun h => h) (fun h => h)
    have h3 := HW.out.keep HB2.out.k (fun h => h)
    rw [← hB]
    exact ⟨h1.lt, h2.bytes.lt, (Array.getElem?_eq_some_iff.1 h2.box).1, h3.lt, HB2.out.res.lt, HB2.out.code.lt⟩)
  have HWB := Lib.hid (show w.heap.size ≤ B by rw [← hB]; exact HB2.out.k.size)
  clear hM4 hk4 hB
  obtain ⟨c0, c1, c2, _⟩ := HB4.out.code.cells
  go_wp2_with fail
  go_loopw [42] (fun s42 wr => ∃ i : Nat, i ≤ n ∧ s42 = .int .i64 i ∧ ∃ c : Ir.Mc, MachAt wr B mb r c ∧ Ir.McOk W c ∧ c.ws.length ≤ 4 * i ∧ Ir.hostGo m W (Ir.mc0 s) rows = Ir.hostGo m W c (rows.drop i) ∧ Keeps (fun b => B ≤ b) w4 wr) (fun s42 _ => n - (intOf s42).toNat)
  case atStart => exact ⟨0, by omega, rfl, Ir.mc0 s, HM4.out, Ir.mc0_ok W HRNG.out, by simp [Ir.mc0], rfl, Keeps.refl _ _⟩
  case round =>
    obtain ⟨i, hi, rfl, c, hM, hOk, hlen, hres, hK⟩ := hrel
    have HM := Lib.hid hM
    have HMK := Lib.hid hOk
    have HRES := Lib.hid hres
    have HK := Lib.hid hK
    have HLEN := Lib.hid hlen
    clear hM hOk hres hK hlen c0 c1 c2
    have hsepB : ∀ b, b < B → ¬ B ≤ b := fun b h => Nat.not_le.2 h
    have HNB := Lib.hid hsepB
    clear hsepB
    have HCB := Lib.hid (HB4.out.code.keep HK.out (HNB.out x HLT.out.2.2.2.2.2))
    have HEB := Lib.hid (HB4.out.res.keep HK.out (HNB.out rb HLT.out.2.2.2.2.1))
    have HKI := Lib.hid (show Keeps (fun _ => False) w wr from HB4.out.k.trans HK.out (fun b hb h => by have := HWB.out; omega))
    by_cases hlt : i < n
    · obtain ⟨ob, oo, Ai, ci, rfl, e0, e1, e2⟩ := (HV.out.quiet HKI.out).get hlt
      have hil : i < rows.length := by rw [HL.out]; exact hlt
      have hi63 : (i : Int) < n := by omega
      have hmem : rows.getD i [] ∈ rows := by
        rw [List.getD_eq_getElem?_getD, List.getElem?_eq_getElem hil]
        exact List.getElem_mem hil
      have HDR := Lib.hid (show rows.drop i = rows.getD i [] :: rows.drop (i + 1) by
        rw [List.drop_eq_getElem_cons hil, List.getD_eq_getElem?_getD, List.getElem?_eq_getElem hil]
        rfl)
      have HGR := Lib.hid (HG.out.row _ hmem)
      have HIN := Lib.hid (show ∀ o ∈ rows.getD i [], Ir.OpIn o from fun o ho => Ir.opIn_of ((HG.out.row _ hmem).2 o ho) ⟨(HOK.out _ hmem o ho).imm.1, Int.lt_of_le_sub_one (HOK.out _ hmem o ho).imm.2⟩)
      have HN200 := Lib.hid (show n ≤ 200 by have := HG.out.len; have := HL.out; omega)
      obtain ⟨l, hl⟩ : ∃ l, rows.getD i [] = l := ⟨_, rfl⟩
      rw [hl] at e0 e1 HDR HGR HIN
      clear hl hmem hil
      have HRO := Lib.hid (row_any B mb r pb pw ph cp c m W Ai l.length ci l wr ea (HE3.out.keep HKI.out ⟨fun h => h, fun h => h, fun h => h⟩) HM.out (HR.out.keep HKI.out (fun h => h) (fun h => h)) (HW.out.keep HKI.out (fun h => h)) HMK.out e1 e2 HIN.out (by have := HGR.out.1; omega) (by have := HLEN.out; have := HN200.out; omega) (Nat.le_trans HBW.out HK.out.size))
      have HPR := Lib.hid (pend_rng HR.out.rng c.ws)
      have HHR := Lib.hid (fun (h : Ir.trapOf c.X (Ir.pend m c.ws) W l = none) => Ir.hostRow_ok (X := c.X) (m := Ir.pend m c.ws) (W := W) HMK.out.X HPR.out l c HMK.out (fun o ho => ⟨HIN.out o ho, Ir.trapOf_no h o ho⟩))
      have HLR := Lib.hid (Ir.leaveTo_rng (l.map (Ir.resOf c.X (Ir.pend m c.ws) W)) none (fun q hq => by
        obtain ⟨o, ho, rfl⟩ := List.mem_map.1 hq
        exact (Ir.res_rng (W := W) HMK.out.X HPR.out (HIN.out o ho)).2) (fun p hp => by cases hp))
      have HTM := Lib.hid (fun a (h : Ir.trapOf c.X (Ir.pend m c.ws) W l = some a) => show 0 ≤ a from by
        obtain ⟨o, ho, rfl⟩ := Ir.hostTrap_mem h
        exact Ir.opErr_at (HGR.out.2 o ho))
      have HRES2 := Lib.hid (show Ir.hostGo m W (Ir.mc0 s) rows = match Ir.trapOf c.X (Ir.pend m c.ws) W l with
          | some a => .trap a
          | none => match Ir.leaveTo none (l.map (Ir.resOf c.X (Ir.pend m c.ws) W)) with
            | some pc => .leave pc (Ir.hostRow c (Ir.resPairs c.X (Ir.pend m c.ws) W l))
            | none => Ir.hostGo m W (Ir.hostRow c (Ir.resPairs c.X (Ir.pend m c.ws) W l)) (rows.drop (i + 1)) by rw [HRES.out, HDR.out]; rfl)
      unfold RowAns at HRO
      obtain ⟨ll, hll⟩ : ∃ x, l.length = x := ⟨_, rfl⟩
      rw [hll] at e0 HRO
      have HLL := Lib.hid hll
      clear hll
      obtain ⟨_, d1, d2, _⟩ := HCB.out.cells
      go_wp2_with fail
      refine HRO.out.mono ?_
      intro e w5 h5
      cases ht : Ir.trapOf c.X (Ir.pend m c.ws) W l with
      | some a =>
        rw [ht] at h5 HRES2
        obtain ⟨rfl, hk5⟩ := h5
        have ha0 := HTM.out a ht
        have hge : decide (0 ≤ a) = true := decide_eq_true ha0
        have HD := Lib.hid (show Ir.hostGo m W (Ir.mc0 s) rows = .trap a from HRES2.out)
        clear HRES2 ht ha0
        have HKF := Lib.hid (HKI.out.trans hk5 (fun _ _ h => h))
        have HE7 := Lib.hid (HEB.out.keep hk5 (fun h => h))
        clear hk5 d1 d2 e0
        obtain ⟨r0, r1, g0, g1⟩ := HE7.out.cells
        obtain ⟨hq1, hq2⟩ := HE7.out.put (t' := true) (a' := a)
        have HP := Lib.hid hq1
        have HPK := Lib.hid hq2
        clear hq1 hq2
        go_wp2_with fail
        refine bodyPost_ret (results_end rfl _ _ rb true a rfl HP.out) rfl ?_
        rw [HD.out]
        exact ⟨rfl, HKF.out.trans HPK.out (fun b hb e => by have e : b = rb := e; have := HB4.out.low; omega)⟩
      | none =>
        have hr2 := HHR.out ht
        rw [ht] at h5 HRES2
        obtain ⟨rfl, hM5, hk5⟩ := h5
        dsimp only at HRES2
        obtain ⟨c2, hc2⟩ : ∃ x, Ir.hostRow c (Ir.resPairs c.X (Ir.pend m c.ws) W l) = x := ⟨_, rfl⟩
        rw [hc2] at hM5 hr2 HRES2
        have HM5 := Lib.hid hM5
        have HR2 := Lib.hid hr2
        have HK5 := Lib.hid (HK.out.trans hk5 (fun _ _ h => h))
        have HKF := Lib.hid (show Keeps (fun _ => False) w w5 from HKI.out.trans hk5 (fun b hb h => by have h : B ≤ b := h; have := HWB.out; omega))
        have HC5 := Lib.hid (HCB.out.keep hk5 (HNB.out x HLT.out.2.2.2.2.2))
        have HE5 := Lib.hid (HEB.out.keep hk5 (HNB.out rb HLT.out.2.2.2.2.1))
        clear ht hc2 hM5 hk5 hr2 d1 d2 e0
        obtain ⟨q, hq⟩ : ∃ q, Ir.leaveTo none (l.map (Ir.resOf c.X (Ir.pend m c.ws) W)) = q := ⟨_, rfl⟩
        rw [hq] at HRES2 HLR ⊢
        clear hq
        have hge : decide ((0 : Int) ≤ -1) = false := by decide
        cases q with
        | some wpc =>
          have HD := Lib.hid (show Ir.hostGo m W (Ir.mc0 s) rows = .leave wpc c2 from HRES2.out)
          have HWR := Lib.hid (HLR.out wpc rfl)
          clear HRES2 HLR
          unfold Ir.lvOf
          dsimp only
          have HLE := Lib.hid (leave_any B mb r sb pb pw ph cp c2 m W s wpc many w5 HM5.out (HR.out.keep HKF.out (fun h => h) (fun h => h)) (HW.out.keep HKF.out (fun h => h)) (HS.out.keep HKF.out (fun h => h)) HR2.out.1 HWR.out HRNG.out.count (by have := HG.out.range; omega)
            ⟨by have := HLT.out.1; have := HM5.out.low; omega, HSEP.out.1, HSEP.out.2.1, HSEP.out.2.2⟩ HLT.out.1 HLT.out.2.1 HLT.out.2.2.1 (Nat.le_trans HBW.out HK5.out.size))
          obtain ⟨_, d1, _, _⟩ := HC5.out.cells
          go_wp2_with fail
          refine HLE.out.mono ?_
          rintro e w8 ⟨rfl, hS8, hR8, hk8⟩
          have HS8 := Lib.hid hS8
          have HR8 := Lib.hid hR8
          have HK8 := Lib.hid hk8
          have HNR := Lib.hid (show sb ≠ rb ∧ pb ≠ rb ∧ r ≠ rb from by
            have h1 := HS.out.lt
            have h2 := HR.out.bytes.lt
            have h3 := (Array.getElem?_eq_some_iff.1 HR.out.box).1
            have h4 := HB4.out.low.2
            omega)
          have HE8 := Lib.hid (HE5.out.keep hk8 (fun h => by have := HNR.out; omega))
          clear d1 hS8 hR8 hk8
          obtain ⟨r0, r1, g0, g1⟩ := HE8.out.cells
          obtain ⟨hq1, hq2⟩ := HE8.out.put (t' := false) (a' := 0)
          have HP := Lib.hid hq1
          have HPK := Lib.hid hq2
          clear hq1 hq2
          go_wp2_with fail
          refine bodyPost_ret (results_end rfl _ _ rb false 0 rfl HP.out) rfl ?_
          rw [HD.out]
          refine ⟨rfl, HS8.out.keep HPK.out HNR.out.1, HR8.out.keep HPK.out HNR.out.2.2 HNR.out.2.1, ?_⟩
          exact ((HKF.out.mono (T := fun b => b = sb ∨ b = pb) (fun _ _ h => h.elim)).trans HK8.out (fun _ _ h => h)).trans HPK.out (fun b hb e => by have e : b = rb := e; have := HB4.out.low; omega)
        | none =>
          have HD := Lib.hid (show Ir.hostGo m W (Ir.mc0 s) rows = Ir.hostGo m W c2 (rows.drop (i + 1)) from HRES2.out)
          clear HRES2 HLR
          unfold Ir.lvOf
          dsimp only
          go_wp2_with fail
          go_roundw
          case rel => exact ⟨i + 1, by omega, by go_num, c2, HM5.out, HR2.out.1, by have := HR2.out.2; have := HLEN.out; have := HGR.out.1; have := HLL.out; omega, HD.out, HK5.out⟩
          case measure => simp [intOf]; omega
    · obtain rfl : i = n := by omega
      have HFE := Lib.hid (show Ir.hostGo m W (Ir.mc0 s) rows = .fell c by
        rw [HRES.out, List.drop_eq_nil_of_le (by rw [HL.out]; exact Nat.le_refl _)]
        rfl)
      have HEF := Lib.hid (HEB.out)
      obtain ⟨r0, r1, g0, g1⟩ := HEF.out.cells
      obtain ⟨hq1, hq2⟩ := HEF.out.put (t' := false) (a' := 0)
      have HP := Lib.hid hq1
      have HPK := Lib.hid hq2
      clear hq1 hq2
      go_wp2_with fail
      refine bodyPost_ret (results_end rfl _ _ rb false 0 rfl HP.out) rfl ?_
      rw [HFE.out]
      exact ⟨rfl, HKI.out.trans HPK.out (fun b hb e => by have e : b = rb := e; have := HB4.out.low; omega)⟩
/-- WHAT A HOST's RUN OF A RIGHT PLAN LEAVES -/
theorem hrun_out (pc many : Int) (A : Option Addr) (n cap : Nat) (rows : List (List Ir.Op)) (sb r pb pw ph : Nat) (s : Cp.St) (m : Nat → Int) (W : Int → Bool) (w : World) (ea : Nat → Addr) (E : ErrsAll w ea) (V : RowsAt w A n cap rows) (hc : cap ≤ 9223372036854775807) (hf : (Ir.planFault many rows).1 = 0) (hok : ∀ l ∈ rows, ∀ o ∈ l, OpOk o)
    (hS : StAt w sb s) (hRng : Cp.Rng s) (R : RamAt w r pb pw ph 16384 m) (hW : WatchAt w pw W) (hpc : 0 ≤ pc ∧ pc < 4294967296) (hr : Ir.ready s pc = true) (hsep : sb ≠ r ∧ sb ≠ pb ∧ sb ≠ pw) (eo : Ir.EO) (heo : Ir.eoOf s m many (Ir.runRows W (Ir.mc0 s).X m rows) = eo) :
    Calls Tryz.prog 21 #[.agg #[.int .u32 pc, .int .i64 many, .slice A n cap], .pointer (some ⟨sb, 0, none⟩), .pointer (some ⟨r, 0, none⟩)] w fun e w' => e = .returned (.tuple #[.agg (endC eo.t eo.a), .nilIface]) ∧ StAt w' sb eo.s ∧ RamAt w' r pb pw ph 16384 eo.m ∧ Keeps (fun b => b = sb ∨ b = pb) w w' := by
  subst heo
  have hg := Ir.hostGo_runRows m W rows (Ir.mc0 s)
  rw [show Ir.pend m (Ir.mc0 s).ws = m from rfl] at hg
  rw [← hg]
  refine (hrun_run pc many A n cap rows sb r pb pw ph 16384 s m W w ea E.toRh E.three V hc hf hok hS hRng R hW hpc hr hsep).mono ?_
  intro e w' h
  cases he : Ir.hostGo m W (Ir.mc0 s) rows with
  | trap a =>
    rw [he] at h
    exact ⟨h.1, hS.keep h.2 (fun h => h), R.keep h.2 (fun h => h) (fun h => h), h.2.mono (fun _ _ h => h.elim)⟩
  | leave pc c =>
    rw [he] at h
    exact h
  | fell c =>
    rw [he] at h
    exact ⟨h.1, hS.keep h.2 (fun h => h), R.keep h.2 (fun h => h) (fun h => h), h.2.mono (fun _ _ h => h.elim)⟩
/-- a host's run of a plan or a state that is not right -/
theorem hrun_err (pc many : Int) (A : Option Addr) (n cap : Nat) (rows : List (List Ir.Op)) (sb : Nat) (ra : Addr) (s : Cp.St) (w : World) (ea : Nat → Addr) (E : ErrsAll w ea) (V : RowsAt w A n cap rows) (hc : cap ≤ 9223372036854775807) (hS : StAt w sb s) (hpc : 0 ≤ pc ∧ pc < 4294967296) (f : Nat × Int)
    (hf : (Ir.planFault many rows).1 ≠ 0 ∧ f = Ir.planFault many rows ∨ (Ir.planFault many rows).1 = 0 ∧ Ir.ready s pc = false ∧ f = (9, -1)) :
    Calls Tryz.prog 21 #[.agg #[.int .u32 pc, .int .i64 many, .slice A n cap], .pointer (some ⟨sb, 0, none⟩), .pointer (some ra)] w fun e w' => ∃ ev, e = .returned (.tuple #[.agg (endC false 0), ev]) ∧ FaultIs w' ea f ev ∧ Keeps (fun _ => False) w w' := by
  rcases hf with ⟨h1, rfl⟩ | ⟨h1, h2, rfl⟩
  · refine (hrun_bad pc many A n cap rows _ _ w ea E.toRh V hc h1).mono ?_
    rintro e w' ⟨⟨ev, he, hv⟩, hk⟩
    exact ⟨ev, he, hv, hk⟩
  · refine (hrun_unready pc many A n cap rows sb ra s w ea E.toRh E.three V hc h1 hS hpc h2).mono ?_
    rintro e w' ⟨he, hk⟩
    exact ⟨_, he, .bare rfl (by decide), hk⟩
end Go.Proofs.YtknhfobcejpmeaaGreatDoor
