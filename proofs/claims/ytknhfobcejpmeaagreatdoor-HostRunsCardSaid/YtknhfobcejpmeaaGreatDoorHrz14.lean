import Derived.Test.YtknhfobcejpmeaaGreatDoorHrz12
import Derived.Test.YtknhfobcejpmeaaGreatDoorHrz13
import Derived.Test.YtknhfobcejpmeaaGreatDoorMach
import Derived.Test.YtknhfobcejpmeaaGreatDoorHrz09
import Derived.Test.YtknhfobcejpmeaaGreatDoorHrz08
import Derived.Test.YtknhfobcejpmeaaGreatDoorHrz01
import Derived.LoopTactic
import Derived.Test.YtknhfobcejpmeaaGreatDoorHrz04
import Derived.Test.YtknhfobcejpmeaaGreatDoorAlike
import Derived.Test.YtknhfobcejpmeaaGreatDoorRunDefs
import Derived.Test.YtknhfobcejpmeaaGreatDoorHrz05

/- Coded -/
/- The walks of the law's coded, faulted, model; of Eval without a state. -/
namespace Go.Proofs.YtknhfobcejpmeaaGreatDoor
open Go.RowKit Go.Deep
set_option linter.unusedVariables false
set_option linter.unusedSimpArgs false

theorem ErrsAll.toC {w : World} {ea : Nat → Addr} (E : ErrsAll w ea) : ErrsC w ea := ⟨E.cell 2 (by omega) (by omega), E.cell 3 (by omega) (by omega), E.cell 4 (by omega) (by omega), E.cell 8 (by omega) (by omega)⟩
set_option maxHeartbeats 1000000 in
theorem coded_any (c : Nat) (h1 : 1 ≤ c) (h2 : c ≤ 10) (w : World) (ea : Nat → Addr) (E : ErrsAll w ea) :
    Calls Tryz.prog 22 #[errV ea c, .int .i64 c] w fun e w' => e = .returned (.bool true) ∧ Keeps (fun _ => False) w w' := by
  have HC := Lib.hid (code_sent c h1 h2 w ea E)
  unfold errV at HC ⊢
  clear E
  go_enter Tryz.func22, Tryz.ntmps22
  go_wp2_with fail
  refine HC.out.mono ?_
  rintro e w1 ⟨rfl, hk⟩
  have HK := Lib.hid hk
  clear hk
  go_wp2_with fail
  go_ret
  exact ⟨rfl, HK.out⟩
set_option maxHeartbeats 2000000 in
theorem faulted_any (f : Nat × Int) (hf : f.1 = 0 ∨ (1 ≤ f.1 ∧ f.1 ≤ 10)) (v : Value) (w : World) (ea : Nat → Addr) (E : ErrsAll w ea) (F : FaultIs w ea f v) :
    Calls Tryz.prog 12 #[v, faultV f] w fun e w' => e = .returned (.bool true) ∧ Keeps (fun _ => False) w w' := by
  obtain ⟨c, a⟩ := f
  have HB := Lib.hid (FaultBox.new w c a)
  have HK0 := Lib.hid ((Keeps.refl (fun _ => False) w).alloc (.cells #[.int .i64 c, .int .i64 a] 44))
  have HE := Lib.hid E
  clear E
  unfold faultV
  dsimp only
  simp only at hf F
  rcases F with ⟨h0, rfl⟩ | ⟨h0, h1, rfl⟩ | ⟨h0, h1, b, rfl, hb0, hb1⟩
  · obtain rfl : c = 0 := h0
    go_enter Tryz.func12, Tryz.ntmps12
    go_upto_region 1 with fail
    obtain ⟨c0, c1, _, _⟩ := HB.out.cells
    have HK1 := Lib.hid HK0.out
    generalize w.alloc _ = w1 at *
    generalize w.heap.size = x at *
    go_wp2_with fail
    refine (code_nil _).mono ?_
    rintro e w2 ⟨rfl, rfl⟩
    go_wp2_with fail
    go_ret
    exact ⟨rfl, HK1.out⟩
  · have h0 : c ≠ 0 := h0
    have h1 : a = -1 := h1
    subst h1
    have hc1 : 1 ≤ c := by omega
    have hc2 : c ≤ 10 := by omega
    have t0 : ((c : Int) == 0) = false := by simp; omega
    have HC := Lib.hid (fun w' (k : Keeps (fun _ => False) w w') => code_sent c hc1 hc2 w' ea (HE.out.quiet k))
    unfold errV at HC ⊢
    clear hf h0 hc1 hc2
    go_enter Tryz.func12, Tryz.ntmps12
    go_upto_region 1 with fail
    have HC1 := Lib.hid (HC.out _ HK0.out)
    have HB1 := Lib.hid HB.out
    have HK1 := Lib.hid HK0.out
    clear HC HB HK0
    generalize w.alloc _ = w1 at *
    obtain ⟨x, hx⟩ : ∃ x, w.heap.size = x := ⟨_, rfl⟩
    rw [hx] at HB1 ⊢
    clear hx
    go_wp2_with fail
    refine HC1.out.mono ?_
    rintro e w2 ⟨rfl, hk⟩
    obtain ⟨c0, c1, _, _⟩ := (HB1.out.keep hk (fun h => h)).cells
    have HK2 := Lib.hid (HK1.out.trans hk (fun _ _ h => h))
    clear hk
    go_wp2_with fail
    go_ret
    exact ⟨rfl, HK2.out⟩
  · have h0 : c ≠ 0 := h0
    have hc1 : 1 ≤ c := by omega
    have hc2 : c ≤ 10 := by omega
    have t0 : ((c : Int) == 0) = false := by simp; omega
    have HC := Lib.hid (fun w' (k : Keeps (fun _ => False) w w') => code_fault c hc1 hc2 b a w' ea (HE.out.quiet k) (k.cell' hb0 (fun h => h)) (k.cell' hb1 (fun h => h)))
    clear hf h0 h1 hc1 hc2 hb0 hb1
    go_enter Tryz.func12, Tryz.ntmps12
    go_upto_region 1 with fail
    have HC1 := Lib.hid (HC.out _ HK0.out)
    have HB1 := Lib.hid HB.out
    have HK1 := Lib.hid HK0.out
    clear HC HB HK0
    generalize w.alloc _ = w1 at *
    obtain ⟨x, hx⟩ : ∃ x, w.heap.size = x := ⟨_, rfl⟩
    rw [hx] at HB1 ⊢
    clear hx
    go_wp2_with fail
    refine HC1.out.mono ?_
    rintro e w2 ⟨rfl, hk⟩
    obtain ⟨c0, c1, _, _⟩ := (HB1.out.keep hk (fun h => h)).cells
    have HK2 := Lib.hid (HK1.out.trans hk (fun _ _ h => h))
    clear hk
    go_wp2_with fail
    go_ret
    exact ⟨rfl, HK2.out⟩
/-- what model answers -/
def ModelIs (w : World) (n : Nat) (ws : Nat → Int) (page : Int) (e : Ending) (w' : World) : Prop :=
  ∃ q wb tb hb, e = .returned (.pointer (some ⟨q, 0, none⟩)) ∧ RefAt w' q wb tb hb (ramOf (min n 4096) ws) (fun p => watchF page p) (fun _ => false) ∧ (w.heap.size ≤ q ∧ w.heap.size ≤ wb ∧ w.heap.size ≤ tb ∧ w.heap.size ≤ hb) ∧ Keeps (fun _ => False) w w'
set_option maxHeartbeats 2000000 in
set_option maxRecDepth 100000 in
theorem model_any (s : Cp.St) (A : Option Addr) (n cap : Nat) (page : Int) (ws : Nat → Int) (w : World) (hR : Reads w A n cap (fun i => .int .u32 (ws i))) (hc : cap ≤ 9223372036854775807) (hr : ∀ i, i < n → 0 ≤ ws i ∧ ws i < 4294967296) :
    Calls Tryz.prog 26 #[.agg (placeL s A n cap page).toArray] w (ModelIs w n ws page) := by
  have HRD := Lib.hid hR
  have HRR := Lib.hid hr
  have HN := Lib.hid (PlaceAt.new w s A n cap page)
  have HK := Lib.hid ((Keeps.refl (fun _ => False) w).alloc (.cells (placeL s A n cap page).toArray 29))
  clear hR hr
  go_enter Tryz.func26, Tryz.ntmps26
  go_upto_region 1 with fail
  have HP1 := Lib.hid HN.out
  obtain ⟨t43, t44⟩ := HN.out.tail
  have HK1 := Lib.hid HK.out
  clear HN HK
  generalize w.alloc _ = w1 at *
  obtain ⟨x, hx⟩ : ∃ x, w.heap.size = x := ⟨_, rfl⟩
  rw [hx] at t43 t44 HP1 ⊢
  have HX := Lib.hid hx
  clear hx
  go_wp2_with fail
  refine (refNew_any n cap A w1 ws (HRD.out.keep HK1.out (fun _ _ _ h => h)) hc HRR.out).mono ?_
  rintro e w2 ⟨q, wb, tb, hb, rfl, hR2, hnew, hk2⟩
  have HR2 := Lib.hid hR2
  have HNEW := Lib.hid (show w.heap.size ≤ q ∧ w.heap.size ≤ wb ∧ w.heap.size ≤ tb ∧ w.heap.size ≤ hb from by have := HK1.out.size; omega)
  have HK2 := Lib.hid (HK1.out.trans hk2 (fun _ _ h => h))
  have HP2 := Lib.hid (HP1.out.keep hk2 (fun h => h))
  clear hR2 hnew hk2 t43 t44
  obtain ⟨t43, t44⟩ := HP2.out.tail
  by_cases h : 0 ≤ page ∧ page < 64
  · obtain ⟨kp, rfl⟩ := Int.eq_ofNat_of_zero_le h.1
    have hkp : kp < 64 := by omega
    have t1 : decide ((0 : Int) ≤ (kp : Int)) = true := decide_eq_true h.1
    have t2 : decide ((kp : Int) < 64) = true := decide_eq_true h.2
    obtain ⟨h0, h64⟩ := h
    have c1 := cell_at HR2.out.raw.box 1
    have c4 := HR2.out.raw.watch.cell (i := kp) hkp
    have f1 := HR2.out.raw.watch.frozen kp
    have HW := Lib.hid (show RefAt (w2.setCell ⟨tb, kp, none⟩ (.bool true)).drew q wb tb hb (ramOf (min n 4096) ws) (fun p => watchF kp p) (fun _ => false) from
      ⟨((HR2.out.raw.setT kp true).drew).congrT (fun p hp => by
        unfold watchF
        by_cases e : p = kp
        · subst e
          rw [if_pos rfl]
          exact (decide_eq_true ⟨h0, h64, rfl⟩).symm
        · rw [if_neg e]
          exact (decide_eq_false (fun hh => e (by have := hh.2.2; omega))).symm) (fun _ _ => rfl), HR2.out.rng⟩)
    have HKF := Lib.hid (HK2.out.trans (Keeps.one w2 tb kp (.bool true)).drew (fun b hb e => by have e : b = tb := e; have := HNEW.out; omega))
    go_wp2_with fail
    go_still_tail 7, (by kernel_rfl)
    change wpList _ _ _ _ _ w2.drew
    go_wp2
    go_ret
    exact ⟨q, wb, tb, hb, rfl, HW.out, HNEW.out, HKF.out⟩
  · have HW := Lib.hid (show RefAt w2 q wb tb hb (ramOf (min n 4096) ws) (fun p => watchF page p) (fun _ => false) from
      ⟨HR2.out.raw.congrT (fun p hp => by
        unfold watchF
        exact (decide_eq_false (fun hh => h ⟨hh.1, hh.2.1⟩)).symm) (fun _ _ => rfl), HR2.out.rng⟩)
    by_cases h0 : 0 ≤ page
    · have t1 : decide (0 ≤ page) = true := decide_eq_true h0
      have t2 : decide (page < 64) = false := decide_eq_false (by omega)
      clear h
      go_wp2_with fail
      go_ret
      exact ⟨q, wb, tb, hb, rfl, HW.out, HNEW.out, HK2.out⟩
    · have t1 : decide (0 ≤ page) = false := decide_eq_false h0
      clear h
      go_wp2_with fail
      go_ret
      exact ⟨q, wb, tb, hb, rfl, HW.out, HNEW.out, HK2.out⟩
end Go.Proofs.YtknhfobcejpmeaaGreatDoor

/- TrapsL -/
/- What a right code's run answers, said plainly: it does not fall out of its end; register 0 stays. -/
namespace Go.Proofs.YtknhfobcejpmeaaGreatDoor
open Go.RowKit
set_option linter.unusedVariables false
namespace Ir
theorem ev_no_fell {m : Nat → Int} {W : Int → Bool} : ∀ (l : List Op) (c c' : Mc), l.length ≠ 0 → isOut (kn (l.getD (l.length - 1) nop).k) = true → evGo m W c l ≠ .fell c'
  | [], _, _, h, _ => absurd rfl h
  | o :: r, c, c', _, h => by
    intro he
    unfold evGo at he
    by_cases hr : r = []
    · subst hr
      have ho : isOut (kn o.k) = true := h
      unfold isOut at ho
      simp at ho
      have hl : leaves (kn o.k) = true := by unfold leaves; simp; omega
      rw [if_pos hl] at he
      have hg : ∃ pc, goesTo o (rg c.X o.a) = some pc := by
        unfold goesTo
        rw [if_neg (by omega)]
        rcases ho with ho | ho
        · rw [if_pos ho]; exact ⟨_, rfl⟩
        · rw [if_neg (by omega), if_pos ho]; exact ⟨_, rfl⟩
      obtain ⟨pc, hg⟩ := hg
      rw [hg] at he
      cases he
    · have hp : r.length ≠ 0 := by simpa using hr
      have h2 : isOut (kn (r.getD (r.length - 1) nop).k) = true := by
        have : (o :: r).getD ((o :: r).length - 1) nop = r.getD (r.length - 1) nop := by
          rw [show (o :: r).length - 1 = (r.length - 1) + 1 by rw [List.length_cons]; omega]
          rfl
        rwa [this] at h
      split at he
      · split at he
        · cases he
        · exact ev_no_fell r c c' hp h2 he
      · split at he
        · cases he
        · exact ev_no_fell r _ c' hp h2 he
theorem setX_zero {X : Nat → Int} {d v : Int} (h : 1 ≤ d) : setX X d v 0 = X 0 := by
  unfold setX
  rw [if_neg (by omega)]
theorem doOp_zero {m : Nat → Int} {W : Int → Bool} {c c' : Mc} {o : Op} (hi : OpIn o) (hl : leaves (kn o.k) = false) (h : doOp m W c o = some c') : c'.X 0 = c.X 0 := by
  have hk := hi.k
  unfold leaves at hl
  have hl := of_decide_eq_false hl
  unfold doOp at h
  split at h
  · cases h; exact setX_zero (hi.d (by omega)).1
  split at h
  · cases h; exact setX_zero (hi.d (by omega)).1
  split at h
  · split at h
    · cases h
    · cases h; rfl
  split at h
  · split at h
    · cases h; exact setX_zero (hi.d (by omega)).1
    · cases h
  split at h
  · split at h
    · cases h; rfl
    · cases h
  · cases h; exact setX_zero (hi.d (by omega)).1
theorem ev_zero {m : Nat → Int} {W : Int → Bool} : ∀ (l : List Op) (c c' : Mc) (pc : Int), (∀ o ∈ l, OpIn o) → evGo m W c l = .leave pc c' → c'.X 0 = c.X 0
  | [], _, _, _, _, h => by unfold evGo at h; cases h
  | o :: r, c, c', pc, hi, h => by
    unfold evGo at h
    split at h
    · split at h
      · cases h; rfl
      · exact ev_zero r c c' pc (fun o ho => hi o (List.mem_cons_of_mem _ ho)) h
    · rename_i hl
      split at h
      · cases h
      · rename_i c2 hd
        rw [ev_zero r c2 c' pc (fun o ho => hi o (List.mem_cons_of_mem _ ho)) h]
        exact doOp_zero (hi o (List.mem_cons_self ..)) (by simpa using hl) hd
end Ir
end Go.Proofs.YtknhfobcejpmeaaGreatDoor

/- Bettered -/
/- The walk of the law's bettered: a closed fact. -/
namespace Go.Proofs.YtknhfobcejpmeaaGreatDoor
open Go.RowKit Go.Deep
set_option linter.unusedVariables false
set_option linter.unusedSimpArgs false

theorem OpsAt.lit (w : World) (l : List Ir.Op) (T : TypeId) (n : Nat) (hn : l.length = n) : OpsAt (w.alloc (.cells (opsL l).toArray T)) (some ⟨w.heap.size, 0, none⟩) n n l := by
  refine ⟨hn, Nat.le_refl _, .inr ⟨_, 0, rfl, by simp, fun i hi => OpLies.of_cells fun q hq v hv => ?_⟩⟩
  have e := opsL_get l i q (by omega) hq
  rw [hv] at e
  unfold World.cell?
  rw [blk_alloc_new]
  simp only [Nat.zero_add]
  simpa using e
theorem OptIs.good {w : World} {ea : Nat → Addr} {pc many : Int} {l : List Ir.Op} {level : Int} {cv ev : Value} (h : OptIs w ea pc many l level cv ev) (h0 : (Ir.optFault many l level).1 = 0) :
    ev = .nilIface ∧ ∃ A cap, cv = .agg #[.int .u32 pc, .int .i64 many, .slice A (Ir.opt l level).length cap] ∧ OpsAt w A (Ir.opt l level).length cap (Ir.opt l level) ∧ cap ≤ 9223372036854775807 := by
  obtain ⟨h1, h2⟩ := h
  refine ⟨?_, ?_⟩
  · rcases h1 with h1 | h1 | h1
    · exact h1.2
    · exact absurd h0 h1.1
    · exact absurd h0 h1.1
  · rcases h2 with h2 | h2
    · exact absurd h0 h2.1
    · exact h2.2
/-- the code of the closed fact -/
def betL : List Ir.Op := [⟨⟨#[115, 101, 116]⟩, 40, 0, 0, 7, 0⟩, ⟨⟨#[97, 100, 100]⟩, 6, 40, 40, 0, 0⟩, ⟨⟨#[111, 117, 116]⟩, 0, 0, 0, 40, 0⟩]
theorem bet_fault : Ir.optFault 1 betL 2 = (0, -1) := by decide +kernel
theorem bet_fault1 : Ir.fault 1 betL = (0, -1) := by decide +kernel
theorem bet_known : Ir.known betL = 1 := by decide +kernel
theorem bet_len : (Ir.opt betL 2).length = 2 := by decide +kernel
theorem bet_fault2 : Ir.fault 1 (Ir.opt betL 2) = (0, -1) := by decide +kernel
theorem bet_known2 : Ir.known (Ir.opt betL 2) = 0 := by decide +kernel
theorem bet_dead2 : Ir.deads (Ir.opt betL 2) = 0 := by decide +kernel
theorem bet_ok : ∀ o ∈ betL, OpOk o := by
  intro o ho
  simp only [betL, List.mem_cons, List.not_mem_nil, or_false] at ho
  rcases ho with rfl | rfl | rfl <;> exact ⟨by unfold i64R; decide, by unfold i64R; decide, by unfold i64R; decide, by unfold u32R; decide, by unfold i64R; decide⟩
end Go.Proofs.YtknhfobcejpmeaaGreatDoor

/- Evaluated -/
/- The walk of the law's evaluated: a closed fact. -/
namespace Go.Proofs.YtknhfobcejpmeaaGreatDoor
open Go.RowKit Go.Deep
set_option linter.unusedVariables false
set_option linter.unusedSimpArgs false

/-- the code of the closed fact, and its state -/
def evL : List Ir.Op := [⟨⟨#[115, 101, 116]⟩, 5, 0, 0, 7, 0⟩, ⟨⟨#[97, 100, 100]⟩, 6, 5, 5, 0, 0⟩, ⟨⟨#[111, 117, 116]⟩, 0, 0, 0, 40, 0⟩]
def ev0 : Cp.St := ⟨fun _ => 0, 0, 0, 0, 4, false, 0, 0, 0, 0, 0, 0⟩
theorem ev_fault : Ir.fault 1 evL = (0, -1) := by decide +kernel
theorem ev_ok : ∀ o ∈ evL, OpOk o := by
  intro o ho
  simp only [evL, List.mem_cons, List.not_mem_nil, or_false] at ho
  rcases ho with rfl | rfl | rfl <;> exact ⟨by unfold i64R; decide, by unfold i64R; decide, by unfold i64R; decide, by unfold u32R; decide, by unfold i64R; decide⟩
theorem ev_rng : Cp.Rng ev0 := by
  constructor <;> first | (intro k hk; show Cp.W 0; unfold Cp.W; omega) | (unfold ev0 Cp.W; simp) | (unfold ev0; simp)
theorem ev_ready : Ir.ready ev0 0 = true := by decide +kernel
def evX : Nat → Int := Ir.setX (Ir.setX (Ir.mc0 ev0).X 5 7) 6 (Ir.value 10 7 7 0)
theorem ev_run (m : Nat → Int) (W : Int → Bool) : Ir.evGo m W (Ir.mc0 ev0) evL = .leave 40 ⟨evX, []⟩ := by
  have k1 : Ir.kn ⟨#[115, 101, 116]⟩ = 1 := by decide +kernel
  have k2 : Ir.kn ⟨#[97, 100, 100]⟩ = 10 := by decide +kernel
  have k3 : Ir.kn ⟨#[111, 117, 116]⟩ = 8 := by decide +kernel
  unfold evL
  simp [Ir.evGo, k1, k2, k3, Ir.leaves, Ir.doOp, Ir.goesTo]
  refine ⟨?_, rfl⟩
  rw [evX, show Ir.rg (Ir.setX (Ir.mc0 ev0).X 5 7) 5 = 7 from rfl, show Ir.rg (Ir.setX (Ir.mc0 ev0).X 5 7) 6 = 0 from rfl]
theorem ev_six : evX 6 = 14 := by decide +kernel
def evS : Array Value := (stL ev0).toArray
theorem build_ev (w : World) : (Instr.build 26 #[(3, .int .u32 0), (4, .int .u32 4)]).run Tryz.prog w = .ok (.agg evS) w := by kernel_rfl
theorem wpList_build_ev {ops : Array Oper} {rest : List Oper} {o : Oper} {a : Act} {w : World} {Q : Exit → Act → World → Prop} (hgd : o.guard = none) (ho : o.op = .build 26 #[(3, .const (.int .u32 0)), (4, .const (.int .u32 4))])
    (h : wpList Tryz.prog ops Q rest (a.put o.dst (.agg (stL ev0).toArray)) w) : wpList Tryz.prog ops Q (o :: rest) a w := by
  refine wpList_plain hgd fun K' hK' => ?_
  unfold Oper.wp execOp
  simp only [ho, List.map_toArray, List.map_cons, List.map_nil]
  have e := build_ev w
  simp only [Sem.run_bind, Sem.run_pure, Act.eval, e, Result.andThen_ok, Functor.map, Sem.run_map]
  exact hK' _ _ h
end Go.Proofs.YtknhfobcejpmeaaGreatDoor

/- RunOut -/
/- What a run comes to, on both sides alike: an end, a state, memory. -/
namespace Go.Proofs.YtknhfobcejpmeaaGreatDoor
open Go.RowKit Go.Deep
set_option linter.unusedVariables false
set_option linter.unusedSimpArgs false

namespace Ir
/-- what is left behind a run -/
structure EO where
  t : Bool
  a : Int
  s : Cp.St
  m : Nat → Int
def eoOf (s : Cp.St) (m : Nat → Int) (many : Int) : REnd → EO
  | .trap a => ⟨true, a, s, m⟩
  | .leave pc X mm => ⟨false, 0, leaveSt s ⟨X, []⟩ pc many, mm⟩
  | .fell => ⟨false, 0, s, m⟩
theorem ev_rng {m : Nat → Int} (hm : ∀ j, j < 16384 → 0 ≤ m j ∧ m j < 256) {W : Int → Bool} : ∀ (l : List Op) (c : Mc) (pc : Int) (c' : Mc), McOk W c → (∀ o ∈ l, OpIn o) → evGo m W c l = .leave pc c' → McOk W c' ∧ (0 ≤ pc ∧ pc < 4294967296)
  | [], c, pc, c', _, _, h => by cases h
  | o :: r, c, pc, c', hc, hl, h => by
    have ho := hl o (List.mem_cons_self ..)
    have hr : ∀ p ∈ r, OpIn p := fun p hp => hl p (List.mem_cons_of_mem _ hp)
    unfold evGo at h
    split at h
    · split at h
      · rename_i pc' hg
        injection h with h1 h2
        subst h1 h2
        refine ⟨hc, ?_⟩
        unfold goesTo at hg
        split at hg
        · split at hg
          · injection hg with hg
            rw [← hg]
            exact ho.imm
          · cases hg
        · split at hg
          · injection hg with hg
            rw [← hg]
            exact ho.imm
          · split at hg
            · injection hg with hg
              rw [← hg]
              exact rg_ok hc ho.a
            · cases hg
      · exact ev_rng hm r c pc c' hc hr h
    · split at h
      · cases h
      · rename_i hnl _ c2 hd
        exact ev_rng hm r c2 pc c' (doOp_ok hm hc ho (by simpa using hnl) hd).1 hr h
theorem leaveSt_rng {s : Cp.St} (h : Cp.Rng s) {X : Nat → Int} {ws : List Wt} (hX : ∀ k, k < 64 → 0 ≤ X k ∧ X k < 4294967296) {pc many : Int} (hp : 0 ≤ pc ∧ pc < 4294967296) (hc : s.count ≤ 1099511627776) (hm : 0 ≤ many ∧ many ≤ 24) : Cp.Rng (leaveSt s ⟨X, ws⟩ pc many) :=
  ⟨fun k hk => hX k (by omega), hX 32 (by omega), hX 33 (by omega), hp, ⟨by show (0 : Int) ≤ (pc + 4) % 4294967296; omega, by show (pc + 4) % 4294967296 < 4294967296; omega⟩, h.status, h.cause, h.epc, h.bad, h.compare, by
    have := h.count
    show 0 ≤ s.count + many ∧ s.count + many < 4611686018427387904
    omega⟩
/-- how a right code ends -/
structure Ends (s : Cp.St) (m : Nat → Int) (W : Int → Bool) (many : Int) (l : List Op) : Prop where
  same : runRows W (mc0 s).X m (l.map fun o => [o]) = resEnd m (evGo m W (mc0 s) l)
  rng : Cp.Rng (eoOf s m many (resEnd m (evGo m W (mc0 s) l))).s
  fell : ∀ c, evGo m W (mc0 s) l ≠ .fell c
theorem ends_of {s : Cp.St} {m : Nat → Int} {W : Int → Bool} {many : Int} {l : List Op} (hs : Cp.Rng s) (hc : s.count ≤ 1099511627776) (hm : ∀ j, j < 16384 → 0 ≤ m j ∧ m j < 256) (hG : Good many l) (hin : ∀ o ∈ l, OpIn o) : Ends s m W many l := by
  have h1 := runRows_one m W l (mc0 s) hin
  refine ⟨h1, ?_, fun c => ev_no_fell l _ c hG.pos hG.last⟩
  cases he : evGo m W (mc0 s) l with
  | trap a => exact hs
  | leave pc c =>
    obtain ⟨h2, h3⟩ := ev_rng hm l _ pc c (mc0_ok W hs) hin he
    exact leaveSt_rng hs h2.X h3 hc (by have := hG.range; omega)
  | fell c => exact hs
end Ir
/-- what RunOf leaves -/
theorem RunIs.out {w w' : World} {sb q wb tb hb : Nat} {s : Cp.St} {m : Nat → Int} {wt ht : Nat → Bool} {many : Int} {r : Ir.REnd} {e : Ending} (h : RunIs w sb q tb hb s wt ht many r e w') (hS : StAt w sb s) (R : RefAt w q wb tb hb m wt ht) :
    ∃ f wb', e = .returned (.agg (rendC (Ir.eoOf s m many r).t (Ir.eoOf s m many r).a f)) ∧ StAt w' sb (Ir.eoOf s m many r).s ∧ RefAt w' q wb' tb hb (Ir.eoOf s m many r).m wt ht ∧ Keeps (fun b => b = sb ∨ b = q) w w' := by
  cases r with
  | trap a => exact ⟨_, wb, h.1, hS.keep h.2 (fun h => h), R.keep h.2 ⟨fun h => h, fun h => h, fun h => h, fun h => h⟩, h.2.mono (fun _ _ h => h.elim)⟩
  | leave pc X mm =>
    obtain ⟨h1, h2, ⟨wb', h3⟩, h4⟩ := h
    exact ⟨_, wb', h1, h2, h3, h4⟩
  | fell => exact ⟨_, wb, h.1, hS.keep h.2 (fun h => h), R.keep h.2 ⟨fun h => h, fun h => h, fun h => h, fun h => h⟩, h.2.mono (fun _ _ h => h.elim)⟩
end Go.Proofs.YtknhfobcejpmeaaGreatDoor

/- LongOps40 -/
/- The walk of LongOps at forty. -/
namespace Go.Proofs.YtknhfobcejpmeaaGreatDoor
open Go.RowKit Go.Deep
set_option linter.unusedVariables false
set_option linter.unusedSimpArgs false

set_option maxHeartbeats 1000000 in
set_option maxRecDepth 100000 in
theorem longOps40_any (A : Option Addr) (n cap : Nat) (l : List Ir.Op) (w : World) (V : OpsAt w A n cap l) (hc : cap ≤ 9223372036854775807) :
    Calls Tryz.prog 7 #[.slice A n cap, .int .i64 40] w fun e w' => ∃ r : Int, e = .returned (.int .i64 r) ∧ (r = 1 ∨ (r = 0 ∧ n ≤ 201)) ∧ Keeps (fun _ => False) w w' := by
  have HV := Lib.hid V
  have hn := V.le
  clear V
  by_cases h1 : 40 < n ∧ n ≠ 201
  · have t1 : decide ((40 : Int) < (n : Int)) = true := decide_eq_true (by omega)
    have t2 : ((n : Int) != 201) = true := by simp; omega
    clear h1
    go_enter Tryz.func7, Tryz.ntmps7
    go_wp2_with fail
    go_ret
    exact ⟨1, rfl, .inl rfl, Keeps.refl _ _⟩
  · have HN := Lib.hid (show n ≤ 201 by omega)
    by_cases h2 : 40 < n
    all_goals
      first
        | (have t1 : decide ((40 : Int) < (n : Int)) = true := decide_eq_true (by omega); have t2 : ((n : Int) != 201) = false := by (simp; omega))
        | (have t1 : decide ((40 : Int) < (n : Int)) = false := decide_eq_false (by omega))
      clear h1 h2
      go_enter Tryz.func7, Tryz.ntmps7
      go_wp2_with fail
      (try clear t1)
      (try clear t2)
      go_loopw [5] (fun s5 wr => ∃ i : Nat, i ≤ n ∧ s5 = .int .i64 i ∧ Keeps (fun _ => False) w wr) (fun s5 _ => n - (intOf s5).toNat)
      case atStart => exact ⟨0, by omega, rfl, Keeps.refl _ _⟩
      case round =>
        obtain ⟨i, hi, rfl, hK⟩ := hrel
        have HK := Lib.hid hK
        clear hK
        by_cases hlt : i < n
        · obtain ⟨bb, oo, rfl, e0, e1, e2, e3, e4, e5⟩ := (HV.out.quiet HK.out).get hlt
          obtain ⟨op, hop⟩ : ∃ op, l.getD i Ir.nop = op := ⟨_, rfl⟩
          rw [hop] at e0 e1 e2 e3 e4 e5
          clear hop
          cases hk : decide ((20 : Int) < (op.k.size : Int))
          · go_wp2_with fail
            go_roundw
            case rel => exact ⟨i + 1, by omega, by go_num, HK.out⟩
            case measure => simp [intOf]; omega
          · go_wp2_with fail
            go_ret
            exact ⟨1, rfl, .inl rfl, HK.out⟩
        · obtain rfl : i = n := by omega
          go_wp2_with fail
          go_ret
          exact ⟨0, rfl, .inr ⟨rfl, HN.out⟩, HK.out⟩
end Go.Proofs.YtknhfobcejpmeaaGreatDoor

/- IrRunsH -/
/- The walk of the law IrRuns. Printed by gen/irruns.py. -/
namespace Go.Proofs.YtknhfobcejpmeaaGreatDoor
open Go.RowKit Go.Deep
set_option linter.unusedVariables false
set_option linter.unusedSimpArgs false

/-- a state that a code may begin with, or not -/
def Ir.placedA (s : Cp.St) (pc : Int) (b : Bool) : Cp.St := { Ir.placed s pc with slot := b }
theorem placedA_rng {s : Cp.St} (h : Cp.Rng s) (pc : Int) (hp : 0 ≤ pc ∧ pc < 4294967296) (b : Bool) : Cp.Rng (Ir.placedA s pc b) :=
  ⟨fun k hk => by
    unfold Ir.placedA Ir.placed
    show Cp.W (if k = 0 then 0 else s.R k)
    split
    · exact ⟨by omega, by omega⟩
    · exact h.R k hk, h.hi, h.lo, hp, ⟨by show (0 : Int) ≤ (pc + 4) % 4294967296; omega, by show (pc + 4) % 4294967296 < 4294967296; omega⟩, h.status, h.cause, h.epc, h.bad, h.compare, h.count⟩
theorem placedA_ready (s : Cp.St) (pc : Int) : Ir.ready (Ir.placedA s pc false) pc = true := by
  unfold Ir.ready Ir.placedA Ir.placed
  simp
theorem placedA_unready (s : Cp.St) (pc : Int) : Ir.ready (Ir.placedA s pc true) pc = false := by
  unfold Ir.ready Ir.placedA Ir.placed
  simp
theorem range_keep {w w' : World} {b : Nat} {cs : List Value} (h : w.rangeAt b 0 cs) (k : Keeps (fun _ => False) w w') : w'.rangeAt b 0 cs := fun j v hv => k.cell' (h j v hv) (fun f => f)
theorem words_two (r pb pw ph : Nat) (m : Nat → Int) (w : World) (R : RamAt w r pb pw ph 16384 m) :
    Calls Tryz.prog 29 #[.pointer (some ⟨r, 0, none⟩)] w fun e w' => ∃ g, e = .returned (.slice (some ⟨g, 0, none⟩) 4096 4096) ∧ w'.rowIs g 22 4096 (fun k => .int .u32 (be m (4 * k) 4)) ∧ Keeps (fun _ => False) w w' :=
  (words_any r pb pw ph 16384 m w R).mono fun e w' h => ⟨_, h.1, h.2.1, h.2.2⟩
theorem yieldsIf_eql_agg {P : Program} {ops : Array Oper} {S : World → Prop} {op : Oper} {a : Act} (hw : Region.wanted op (yielded ops a.tmps) = true) (t t' : TypeId) (x y : Operand) (ho : op.op = .binOp .eql t x y t') (cs : Array Value) (hg : P.eqGuardType P.depth t = false)
    (he : ∀ w, (Op.equal t (.agg cs) (.agg cs)).run P w = .ok true w) (hx : a.eval x = .agg cs) (hy : a.eval y = .agg cs) : YieldsIf P ops S op (.bool true) a :=
  .inl ⟨hw, fun w _ => by
    unfold execOp
    simp only [ho, hx, hy]
    rw [Sem.run_bind, run_bin_agg .eql (.inr rfl) _ x y _ w hg (he w)]
    rfl⟩
theorem wpList_load_place {ops : Array Oper} {rest : List Oper} {op : Oper} {a : Act} {w : World} {Q : Exit → Act → World → Prop} (x : Operand) (ho : op.op = .load 29 x) (b : Nat) (s : Cp.St) (A : Option Addr) (n cap : Nat) (page : Int) (h : PlaceAt w b s A n cap page)
    (hx : a.eval x = .pointer (some ⟨b, 0, none⟩)) (hw : Region.wanted op (yielded ops a.tmps) = true) (hk : wpList Tryz.prog ops Q rest (a.put op.dst (.agg (placeL s A n cap page).toArray)) w) : wpList Tryz.prog ops Q (op :: rest) a w :=
  BigFrame.wpList_want hw fun _ hK => wp_load_mid _ x ho b 0 hx (placeL s A n cap page) _ h.range Tryz.underlying29 rfl (by
    rw [show (placeL s A n cap page).length = 45 by unfold placeL; rw [List.length_append, stL_len]; rfl]
    kernel_rfl) (hK _ _ hk)
theorem ramOf_rng (n : Nat) (ws : Nat → Int) : ∀ j, j < 16384 → 0 ≤ ramOf n ws j ∧ ramOf n ws j < 256 := fun j _ => by
  unfold ramOf Wb
  split <;> omega
theorem fault_small (many : Int) (l : List Ir.Op) : (Ir.fault many l).1 = 0 ∨ (1 ≤ (Ir.fault many l).1 ∧ (Ir.fault many l).1 ≤ 10) := by
  rcases Ir.fault_or many l with h | ⟨c, h1, h2, h3⟩
  · exact .inl h
  · exact .inr (by omega)
def eb0 (w : World) : Nat := w.heap.size
theorem fault_fine {many : Int} {l : List Ir.Op} (h : (Ir.fault many l).1 = 0) : Ir.fault many l = (0, -1) := Ir.fault_good (Ir.good_of_fault h)
end Go.Proofs.YtknhfobcejpmeaaGreatDoor

/- HostL -/
/- A host's run of rows, plainly: stores wait; it comes to what the document's run of rows comes to. No program in sight. -/
namespace Go.Proofs.YtknhfobcejpmeaaGreatDoor
open Go.RowKit
set_option linter.unusedVariables false
namespace Ir
/-- a machine behind an op's result -/
def hostOne (c : Mc) (p : Op × RRes) : Mc := ⟨applyX c.X p.1 p.2, if kn p.1.k = 6 then c.ws ++ [⟨p.2.addr, p.1.d, p.2.v⟩] else c.ws⟩
def hostRow : Mc → List (Op × RRes) → Mc
  | c, [] => c
  | c, p :: r => hostRow (hostOne c p) r
def resPairs (X m : Nat → Int) (W : Int → Bool) (l : List Op) : List (Op × RRes) := l.map fun o => (o, resOf X m W o)
def hostGo (m : Nat → Int) (W : Int → Bool) : Mc → List (List Op) → Res
  | c, [] => .fell c
  | c, l :: r =>
    match trapOf c.X (pend m c.ws) W l with
    | some a => .trap a
    | none =>
      match leaveTo none (l.map (resOf c.X (pend m c.ws) W)) with
      | some pc => .leave pc (hostRow c (resPairs c.X (pend m c.ws) W l))
      | none => hostGo m W (hostRow c (resPairs c.X (pend m c.ws) W l)) r
theorem hostOne_pend (m : Nat → Int) (c : Mc) (p : Op × RRes) : applyM (pend m c.ws) p.1 p.2 = pend m (hostOne c p).ws := by
  unfold applyM hostOne
  by_cases h : kn p.1.k = 6
  · rw [if_pos h]
    simp only [if_pos h]
    rw [pend_append]
  · rw [if_neg h]
    simp only [if_neg h]
theorem hostRow_apply (m : Nat → Int) : ∀ (l : List (Op × RRes)) (c : Mc), applyRow c.X (pend m c.ws) l = ((hostRow c l).X, pend m (hostRow c l).ws)
  | [], c => rfl
  | p :: r, c => by
    show applyRow (applyX c.X p.1 p.2) (applyM (pend m c.ws) p.1 p.2) r = _
    rw [hostOne_pend]
    exact hostRow_apply m r (hostOne c p)
/-- THE HOST COMES TO WHAT THE DOCUMENT SAYS -/
theorem hostGo_runRows (m : Nat → Int) (W : Int → Bool) : ∀ (rows : List (List Op)) (c : Mc), resEnd m (hostGo m W c rows) = runRows W c.X (pend m c.ws) rows
  | [], c => rfl
  | l :: r, c => by
    unfold hostGo runRows
    cases trapOf c.X (pend m c.ws) W l with
    | some a => rfl
    | none =>
      have h := hostRow_apply m (resPairs c.X (pend m c.ws) W l) c
      unfold resPairs at h
      unfold resPairs
      dsimp only
      rw [h]
      cases leaveTo none (l.map (resOf c.X (pend m c.ws) W)) with
      | some pc => rfl
      | none => exact hostGo_runRows m W r _
theorem hostRow_snoc : ∀ (l : List (Op × RRes)) (c : Mc) (p : Op × RRes), hostRow c (l ++ [p]) = hostOne (hostRow c l) p
  | [], _, _ => rfl
  | q :: r, c, p => hostRow_snoc r (hostOne c q) p
/-- what a store's result is, if it is no trap -/
theorem resOf_store {X m : Nat → Int} {W : Int → Bool} {o : Op} (h : kn o.k = 6) (ht : (resOf X m W o).trap = false) : rightC (resOf X m W o).addr o.d = 0 ∧ (resOf X m W o).addr = adr (rg X o.a) o.imm ∧ W ((resOf X m W o).addr / 256) = false := by
  unfold resOf at ht ⊢
  rw [if_neg (by omega), if_neg (by omega), if_neg (by omega), if_neg (by omega), if_pos h] at ht ⊢
  by_cases hr : rightC (adr (rg X o.a) o.imm) o.d = 0
  · rw [if_pos hr] at ht ⊢
    exact ⟨hr, rfl, ht⟩
  · rw [if_neg hr] at ht
    cases ht
/-- the ranges stay -/
theorem hostOne_ok {X m : Nat → Int} {W : Int → Bool} {c : Mc} {o : Op} (hc : McOk W c) (hX : ∀ k, k < 64 → 0 ≤ X k ∧ X k < 4294967296) (hm : ∀ j, j < 16384 → 0 ≤ m j ∧ m j < 256) (hi : OpIn o) (ht : (resOf X m W o).trap = false) : McOk W (hostOne c (o, resOf X m W o)) := by
  have hr := res_rng (W := W) hX hm hi
  constructor
  · intro k hk
    show 0 ≤ applyX c.X o (resOf X m W o) k ∧ applyX c.X o (resOf X m W o) k < 4294967296
    unfold applyX
    split
    · unfold setX
      split
      · exact hr.1
      · exact hc.X k hk
    · exact hc.X k hk
  · intro s hs
    unfold hostOne at hs
    dsimp only at hs
    split at hs
    · rename_i h6
      rw [List.mem_append, List.mem_singleton] at hs
      rcases hs with hs | rfl
      · exact hc.ws s hs
      · have := resOf_store h6 ht
        exact ⟨this.1, hr.2.1, hr.1, this.2.2⟩
    · exact hc.ws s hs
theorem hostOne_len (c : Mc) (p : Op × RRes) : (hostOne c p).ws.length ≤ c.ws.length + 1 := by
  unfold hostOne
  dsimp only
  split
  · simp
  · omega
theorem trapOf_no {X m : Nat → Int} {W : Int → Bool} : ∀ {l : List Op}, trapOf X m W l = none → ∀ o ∈ l, (resOf X m W o).trap = false
  | [], _, o, h => by cases h
  | p :: r, ht, o, h => by
    unfold trapOf at ht
    split at ht
    · cases ht
    · rename_i hp
      rcases List.mem_cons.1 h with rfl | h
      · simpa using hp
      · exact trapOf_no ht o h
theorem hostRow_ok {X m : Nat → Int} {W : Int → Bool} (hX : ∀ k, k < 64 → 0 ≤ X k ∧ X k < 4294967296) (hm : ∀ j, j < 16384 → 0 ≤ m j ∧ m j < 256) : ∀ (l : List Op) (c : Mc), McOk W c → (∀ o ∈ l, OpIn o ∧ (resOf X m W o).trap = false) → McOk W (hostRow c (resPairs X m W l)) ∧ (hostRow c (resPairs X m W l)).ws.length ≤ c.ws.length + l.length
  | [], c, hc, _ => ⟨hc, Nat.le_refl _⟩
  | o :: r, c, hc, h => by
    have h1 := h o (List.mem_cons_self ..)
    have h2 := hostRow_ok hX hm r (hostOne c (o, resOf X m W o)) (hostOne_ok hc hX hm h1.1 h1.2) (fun p hp => h p (List.mem_cons_of_mem _ hp))
    have h3 := hostOne_len c (o, resOf X m W o)
    refine ⟨h2.1, Nat.le_trans h2.2 ?_⟩
    rw [List.length_cons]
    omega
end Ir
end Go.Proofs.YtknhfobcejpmeaaGreatDoor
