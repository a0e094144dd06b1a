import Derived.Test.YtknhfobcejpmeaaGreatDoorPez10
import Derived.Test.YtknhfobcejpmeaaGreatDoorPez09
import Derived.Test.YtknhfobcejpmeaaGreatDoorPez15
import Derived.Test.YtknhfobcejpmeaaGreatDoorPez01
import Derived.LoopTactic
import Derived.Test.YtknhfobcejpmeaaGreatDoorPez04
import Derived.Test.YtknhfobcejpmeaaGreatDoorAlike

/- Bettered -/
/- The walk of the law's bettered: a closed fact. -/
namespace Go.Proofs.YtknhfobcejpmeaaGreatDoor
open Go.RowKit Go.Deep
set_option linter.unusedVariables false
set_option linter.unusedSimpArgs false

theorem OpsAt.lit (w : World) (l : List Ir.Op) (T : TypeId) (n : Nat) (hn : l.length = n) : OpsAt (w.alloc (.cells (opsL l).toArray T)) (some ⟨w.heap.size, 0, none⟩) n n l := by
  refine ⟨hn, Nat.le_refl _, .inr ⟨_, 0, rfl, by simp, fun i hi => OpLies.of_cells fun q hq v hv => ?_⟩⟩
  have e := opsL_get l i q (by omega) hq
  rw [hv] at e
  unfold World.cell?
  rw [blk_alloc_new]
  simp only [Nat.zero_add]
  simpa using e
theorem OptIs.good {w : World} {ea : Nat → Addr} {pc many : Int} {l : List Ir.Op} {level : Int} {cv ev : Value} (h : OptIs w ea pc many l level cv ev) (h0 : (Ir.optFault many l level).1 = 0) :
    ev = .nilIface ∧ ∃ A cap, cv = .agg #[.int .u32 pc, .int .i64 many, .slice A (Ir.opt l level).length cap] ∧ OpsAt w A (Ir.opt l level).length cap (Ir.opt l level) ∧ cap ≤ 9223372036854775807 := by
  obtain ⟨h1, h2⟩ := h
  refine ⟨?_, ?_⟩
  · rcases h1 with h1 | h1 | h1
    · exact h1.2
    · exact absurd h0 h1.1
    · exact absurd h0 h1.1
  · rcases h2 with h2 | h2
    · exact absurd h0 h2.1
    · exact h2.2
/-- the code of the closed fact -/
def betL : List Ir.Op := [⟨⟨#[115, 101, 116]⟩, 40, 0, 0, 7, 0⟩, ⟨⟨#[97, 100, 100]⟩, 6, 40, 40, 0, 0⟩, ⟨⟨#[111, 117, 116]⟩, 0, 0, 0, 40, 0⟩]
theorem bet_fault : Ir.optFault 1 betL 2 = (0, -1) := by decide +kernel
theorem bet_fault1 : Ir.fault 1 betL = (0, -1) := by decide +kernel
theorem bet_known : Ir.known betL = 1 := by decide +kernel
theorem bet_len : (Ir.opt betL 2).length = 2 := by decide +kernel
theorem bet_fault2 : Ir.fault 1 (Ir.opt betL 2) = (0, -1) := by decide +kernel
theorem bet_known2 : Ir.known (Ir.opt betL 2) = 0 := by decide +kernel
theorem bet_dead2 : Ir.deads (Ir.opt betL 2) = 0 := by decide +kernel
theorem bet_ok : ∀ o ∈ betL, OpOk o := by
  intro o ho
  simp only [betL, List.mem_cons, List.not_mem_nil, or_false] at ho
  rcases ho with rfl | rfl | rfl <;> exact ⟨by unfold i64R; decide, by unfold i64R; decide, by unfold i64R; decide, by unfold u32R; decide, by unfold i64R; decide⟩
end Go.Proofs.YtknhfobcejpmeaaGreatDoor

/- Evaluated -/
/- The walk of the law's evaluated: a closed fact. -/
namespace Go.Proofs.YtknhfobcejpmeaaGreatDoor
open Go.RowKit Go.Deep
set_option linter.unusedVariables false
set_option linter.unusedSimpArgs false

/-- the code of the closed fact, and its state -/
def evL : List Ir.Op := [⟨⟨#[115, 101, 116]⟩, 5, 0, 0, 7, 0⟩, ⟨⟨#[97, 100, 100]⟩, 6, 5, 5, 0, 0⟩, ⟨⟨#[111, 117, 116]⟩, 0, 0, 0, 40, 0⟩]
def ev0 : Cp.St := ⟨fun _ => 0, 0, 0, 0, 4, false, 0, 0, 0, 0, 0, 0⟩
theorem ev_fault : Ir.fault 1 evL = (0, -1) := by decide +kernel
theorem ev_ok : ∀ o ∈ evL, OpOk o := by
  intro o ho
  simp only [evL, List.mem_cons, List.not_mem_nil, or_false] at ho
  rcases ho with rfl | rfl | rfl <;> exact ⟨by unfold i64R; decide, by unfold i64R; decide, by unfold i64R; decide, by unfold u32R; decide, by unfold i64R; decide⟩
theorem ev_rng : Cp.Rng ev0 := by
  constructor <;> first | (intro k hk; show Cp.W 0; unfold Cp.W; omega) | (unfold ev0 Cp.W; simp) | (unfold ev0; simp)
theorem ev_ready : Ir.ready ev0 0 = true := by decide +kernel
def evX : Nat → Int := Ir.setX (Ir.setX (Ir.mc0 ev0).X 5 7) 6 (Ir.value 10 7 7 0)
theorem ev_run (m : Nat → Int) (W : Int → Bool) : Ir.evGo m W (Ir.mc0 ev0) evL = .leave 40 ⟨evX, []⟩ := by
  have k1 : Ir.kn ⟨#[115, 101, 116]⟩ = 1 := by decide +kernel
  have k2 : Ir.kn ⟨#[97, 100, 100]⟩ = 10 := by decide +kernel
  have k3 : Ir.kn ⟨#[111, 117, 116]⟩ = 8 := by decide +kernel
  unfold evL
  simp [Ir.evGo, k1, k2, k3, Ir.leaves, Ir.doOp, Ir.goesTo]
  refine ⟨?_, rfl⟩
  rw [evX, show Ir.rg (Ir.setX (Ir.mc0 ev0).X 5 7) 5 = 7 from rfl, show Ir.rg (Ir.setX (Ir.mc0 ev0).X 5 7) 6 = 0 from rfl]
theorem ev_six : evX 6 = 14 := by decide +kernel
def evS : Array Value := (stL ev0).toArray
theorem build_ev (w : World) : (Instr.build 26 #[(3, .int .u32 0), (4, .int .u32 4)]).run Tryz.prog w = .ok (.agg evS) w := by kernel_rfl
theorem wpList_build_ev {ops : Array Oper} {rest : List Oper} {o : Oper} {a : Act} {w : World} {Q : Exit → Act → World → Prop} (hgd : o.guard = none) (ho : o.op = .build 26 #[(3, .const (.int .u32 0)), (4, .const (.int .u32 4))])
    (h : wpList Tryz.prog ops Q rest (a.put o.dst (.agg (stL ev0).toArray)) w) : wpList Tryz.prog ops Q (o :: rest) a w := by
  refine wpList_plain hgd fun K' hK' => ?_
  unfold Oper.wp execOp
  simp only [ho, List.map_toArray, List.map_cons, List.map_nil]
  have e := build_ev w
  simp only [Sem.run_bind, Sem.run_pure, Act.eval, e, Result.andThen_ok, Functor.map, Sem.run_map]
  exact hK' _ _ h
end Go.Proofs.YtknhfobcejpmeaaGreatDoor

/- RunOut -/
/- What a run comes to, on both sides alike: an end, a state, memory. -/
namespace Go.Proofs.YtknhfobcejpmeaaGreatDoor
open Go.RowKit Go.Deep
set_option linter.unusedVariables false
set_option linter.unusedSimpArgs false

namespace Ir
/-- what is left behind a run -/
structure EO where
  t : Bool
  a : Int
  s : Cp.St
  m : Nat → Int
def eoOf (s : Cp.St) (m : Nat → Int) (many : Int) : REnd → EO
  | .trap a => ⟨true, a, s, m⟩
  | .leave pc X mm => ⟨false, 0, leaveSt s ⟨X, []⟩ pc many, mm⟩
  | .fell => ⟨false, 0, s, m⟩
theorem ev_rng {m : Nat → Int} (hm : ∀ j, j < 16384 → 0 ≤ m j ∧ m j < 256) {W : Int → Bool} : ∀ (l : List Op) (c : Mc) (pc : Int) (c' : Mc), McOk W c → (∀ o ∈ l, OpIn o) → evGo m W c l = .leave pc c' → McOk W c' ∧ (0 ≤ pc ∧ pc < 4294967296)
  | [], c, pc, c', _, _, h => by cases h
  | o :: r, c, pc, c', hc, hl, h => by
    have ho := hl o (List.mem_cons_self ..)
    have hr : ∀ p ∈ r, OpIn p := fun p hp => hl p (List.mem_cons_of_mem _ hp)
    unfold evGo at h
    split at h
    · split at h
      · rename_i pc' hg
        injection h with h1 h2
        subst h1 h2
        refine ⟨hc, ?_⟩
        unfold goesTo at hg
        split at hg
        · split at hg
          · injection hg with hg
            rw [← hg]
            exact ho.imm
          · cases hg
        · split at hg
          · injection hg with hg
            rw [← hg]
            exact ho.imm
          · split at hg
            · injection hg with hg
              rw [← hg]
              exact rg_ok hc ho.a
            · cases hg
      · exact ev_rng hm r c pc c' hc hr h
    · split at h
      · cases h
      · rename_i hnl _ c2 hd
        exact ev_rng hm r c2 pc c' (doOp_ok hm hc ho (by simpa using hnl) hd).1 hr h
theorem leaveSt_rng {s : Cp.St} (h : Cp.Rng s) {X : Nat → Int} {ws : List Wt} (hX : ∀ k, k < 64 → 0 ≤ X k ∧ X k < 4294967296) {pc many : Int} (hp : 0 ≤ pc ∧ pc < 4294967296) (hc : s.count ≤ 1099511627776) (hm : 0 ≤ many ∧ many ≤ 24) : Cp.Rng (leaveSt s ⟨X, ws⟩ pc many) :=
  ⟨fun k hk => hX k (by omega), hX 32 (by omega), hX 33 (by omega), hp, ⟨by show (0 : Int) ≤ (pc + 4) % 4294967296; omega, by show (pc + 4) % 4294967296 < 4294967296; omega⟩, h.status, h.cause, h.epc, h.bad, h.compare, by
    have := h.count
    show 0 ≤ s.count + many ∧ s.count + many < 4611686018427387904
    omega⟩
/-- how a right code ends -/
structure Ends (s : Cp.St) (m : Nat → Int) (W : Int → Bool) (many : Int) (l : List Op) : Prop where
  same : runRows W (mc0 s).X m (l.map fun o => [o]) = resEnd m (evGo m W (mc0 s) l)
  rng : Cp.Rng (eoOf s m many (resEnd m (evGo m W (mc0 s) l))).s
  fell : ∀ c, evGo m W (mc0 s) l ≠ .fell c
theorem ends_of {s : Cp.St} {m : Nat → Int} {W : Int → Bool} {many : Int} {l : List Op} (hs : Cp.Rng s) (hc : s.count ≤ 1099511627776) (hm : ∀ j, j < 16384 → 0 ≤ m j ∧ m j < 256) (hG : Good many l) (hin : ∀ o ∈ l, OpIn o) : Ends s m W many l := by
  have h1 := runRows_one m W l (mc0 s) hin
  refine ⟨h1, ?_, fun c => ev_no_fell l _ c hG.pos hG.last⟩
  cases he : evGo m W (mc0 s) l with
  | trap a => exact hs
  | leave pc c =>
    obtain ⟨h2, h3⟩ := ev_rng hm l _ pc c (mc0_ok W hs) hin he
    exact leaveSt_rng hs h2.X h3 hc (by have := hG.range; omega)
  | fell c => exact hs
end Ir
/-- what RunOf leaves -/
theorem RunIs.out {w w' : World} {sb q wb tb hb : Nat} {s : Cp.St} {m : Nat → Int} {wt ht : Nat → Bool} {many : Int} {r : Ir.REnd} {e : Ending} (h : RunIs w sb q tb hb s wt ht many r e w') (hS : StAt w sb s) (R : RefAt w q wb tb hb m wt ht) :
    ∃ f wb', e = .returned (.agg (rendC (Ir.eoOf s m many r).t (Ir.eoOf s m many r).a f)) ∧ StAt w' sb (Ir.eoOf s m many r).s ∧ RefAt w' q wb' tb hb (Ir.eoOf s m many r).m wt ht ∧ Keeps (fun b => b = sb ∨ b = q) w w' := by
  cases r with
  | trap a => exact ⟨_, wb, h.1, hS.keep h.2 (fun h => h), R.keep h.2 ⟨fun h => h, fun h => h, fun h => h, fun h => h⟩, h.2.mono (fun _ _ h => h.elim)⟩
  | leave pc X mm =>
    obtain ⟨h1, h2, ⟨wb', h3⟩, h4⟩ := h
    exact ⟨_, wb', h1, h2, h3, h4⟩
  | fell => exact ⟨_, wb, h.1, hS.keep h.2 (fun h => h), R.keep h.2 ⟨fun h => h, fun h => h, fun h => h, fun h => h⟩, h.2.mono (fun _ _ h => h.elim)⟩
end Go.Proofs.YtknhfobcejpmeaaGreatDoor

/- LongOps40 -/
/- The walk of LongOps at forty. -/
namespace Go.Proofs.YtknhfobcejpmeaaGreatDoor
open Go.RowKit Go.Deep
set_option linter.unusedVariables false
set_option linter.unusedSimpArgs false

set_option maxHeartbeats 1000000 in
set_option maxRecDepth 100000 in
theorem longOps40_any (A : Option Addr) (n cap : Nat) (l : List Ir.Op) (w : World) (V : OpsAt w A n cap l) (hc : cap ≤ 9223372036854775807) :
    Calls Tryz.prog 7 #[.slice A n cap, .int .i64 40] w fun e w' => ∃ r : Int, e = .returned (.int .i64 r) ∧ (r = 1 ∨ (r = 0 ∧ n ≤ 201)) ∧ Keeps (fun _ => False) w w' := by
  have HV := Lib.hid V
  have hn := V.le
  clear V
  by_cases h1 : 40 < n ∧ n ≠ 201
  · have t1 : decide ((40 : Int) < (n : Int)) = true := decide_eq_true (by omega)
    have t2 : ((n : Int) != 201) = true := by simp; omega
    clear h1
    go_enter Tryz.func7, Tryz.ntmps7
    go_wp2_with fail
    go_ret
    exact ⟨1, rfl, .inl rfl, Keeps.refl _ _⟩
  · have HN := Lib.hid (show n ≤ 201 by omega)
    by_cases h2 : 40 < n
    all_goals
      first
        | (have t1 : decide ((40 : Int) < (n : Int)) = true := decide_eq_true (by omega); have t2 : ((n : Int) != 201) = false := by (simp; omega))
        | (have t1 : decide ((40 : Int) < (n : Int)) = false := decide_eq_false (by omega))
      clear h1 h2
      go_enter Tryz.func7, Tryz.ntmps7
      go_wp2_with fail
      (try clear t1)
      (try clear t2)
      go_loopw [5] (fun s5 wr => ∃ i : Nat, i ≤ n ∧ s5 = .int .i64 i ∧ Keeps (fun _ => False) w wr) (fun s5 _ => n - (intOf s5).toNat)
      case atStart => exact ⟨0, by omega, rfl, Keeps.refl _ _⟩
      case round =>
        obtain ⟨i, hi, rfl, hK⟩ := hrel
        have HK := Lib.hid hK
        clear hK
        by_cases hlt : i < n
        · obtain ⟨bb, oo, rfl, e0, e1, e2, e3, e4, e5⟩ := (HV.out.quiet HK.out).get hlt
          obtain ⟨op, hop⟩ : ∃ op, l.getD i Ir.nop = op := ⟨_, rfl⟩
          rw [hop] at e0 e1 e2 e3 e4 e5
          clear hop
          cases hk : decide ((20 : Int) < (op.k.size : Int))
          · go_wp2_with fail
            go_roundw
            case rel => exact ⟨i + 1, by omega, by go_num, HK.out⟩
            case measure => simp [intOf]; omega
          · go_wp2_with fail
            go_ret
            exact ⟨1, rfl, .inl rfl, HK.out⟩
        · obtain rfl : i = n := by omega
          go_wp2_with fail
          go_ret
          exact ⟨0, rfl, .inr ⟨rfl, HN.out⟩, HK.out⟩
end Go.Proofs.YtknhfobcejpmeaaGreatDoor

/- IrRunsH -/
/- The walk of the law IrRuns. Printed by gen/irruns.py. -/
namespace Go.Proofs.YtknhfobcejpmeaaGreatDoor
open Go.RowKit Go.Deep
set_option linter.unusedVariables false
set_option linter.unusedSimpArgs false

/-- a state that a code may begin with, or not -/
def Ir.placedA (s : Cp.St) (pc : Int) (b : Bool) : Cp.St := { Ir.placed s pc with slot := b }
theorem placedA_rng {s : Cp.St} (h : Cp.Rng s) (pc : Int) (hp : 0 ≤ pc ∧ pc < 4294967296) (b : Bool) : Cp.Rng (Ir.placedA s pc b) :=
  ⟨fun k hk => by
    unfold Ir.placedA Ir.placed
    show Cp.W (if k = 0 then 0 else s.R k)
    split
    · exact ⟨by omega, by omega⟩
    · exact h.R k hk, h.hi, h.lo, hp, ⟨by show (0 : Int) ≤ (pc + 4) % 4294967296; omega, by show (pc + 4) % 4294967296 < 4294967296; omega⟩, h.status, h.cause, h.epc, h.bad, h.compare, h.count⟩
theorem placedA_ready (s : Cp.St) (pc : Int) : Ir.ready (Ir.placedA s pc false) pc = true := by
  unfold Ir.ready Ir.placedA Ir.placed
  simp
theorem placedA_unready (s : Cp.St) (pc : Int) : Ir.ready (Ir.placedA s pc true) pc = false := by
  unfold Ir.ready Ir.placedA Ir.placed
  simp
theorem range_keep {w w' : World} {b : Nat} {cs : List Value} (h : w.rangeAt b 0 cs) (k : Keeps (fun _ => False) w w') : w'.rangeAt b 0 cs := fun j v hv => k.cell' (h j v hv) (fun f => f)
theorem words_two (r pb pw ph : Nat) (m : Nat → Int) (w : World) (R : RamAt w r pb pw ph 16384 m) :
    Calls Tryz.prog 29 #[.pointer (some ⟨r, 0, none⟩)] w fun e w' => ∃ g, e = .returned (.slice (some ⟨g, 0, none⟩) 4096 4096) ∧ w'.rowIs g 22 4096 (fun k => .int .u32 (be m (4 * k) 4)) ∧ Keeps (fun _ => False) w w' :=
  (words_any r pb pw ph 16384 m w R).mono fun e w' h => ⟨_, h.1, h.2.1, h.2.2⟩
theorem yieldsIf_eql_agg {P : Program} {ops : Array Oper} {S : World → Prop} {op : Oper} {a : Act} (hw : Region.wanted op (yielded ops a.tmps) = true) (t t' : TypeId) (x y : Operand) (ho : op.op = .binOp .eql t x y t') (cs : Array Value) (hg : P.eqGuardType P.depth t = false)
    (he : ∀ w, (Op.equal t (.agg cs) (.agg cs)).run P w = .ok true w) (hx : a.eval x = .agg cs) (hy : a.eval y = .agg cs) : YieldsIf P ops S op (.bool true) a :=
  .inl ⟨hw, fun w _ => by
    unfold execOp
    simp only [ho, hx, hy]
    rw [Sem.run_bind, run_bin_agg .eql (.inr rfl) _ x y _ w hg (he w)]
    rfl⟩
theorem wpList_load_place {ops : Array Oper} {rest : List Oper} {op : Oper} {a : Act} {w : World} {Q : Exit → Act → World → Prop} (x : Operand) (ho : op.op = .load 29 x) (b : Nat) (s : Cp.St) (A : Option Addr) (n cap : Nat) (page : Int) (h : PlaceAt w b s A n cap page)
    (hx : a.eval x = .pointer (some ⟨b, 0, none⟩)) (hw : Region.wanted op (yielded ops a.tmps) = true) (hk : wpList Tryz.prog ops Q rest (a.put op.dst (.agg (placeL s A n cap page).toArray)) w) : wpList Tryz.prog ops Q (op :: rest) a w :=
  BigFrame.wpList_want hw fun _ hK => wp_load_mid _ x ho b 0 hx (placeL s A n cap page) _ h.range Tryz.underlying29 rfl (by
    rw [show (placeL s A n cap page).length = 45 by unfold placeL; rw [List.length_append, stL_len]; rfl]
    kernel_rfl) (hK _ _ hk)
theorem ramOf_rng (n : Nat) (ws : Nat → Int) : ∀ j, j < 16384 → 0 ≤ ramOf n ws j ∧ ramOf n ws j < 256 := fun j _ => by
  unfold ramOf Wb
  split <;> omega
theorem fault_small (many : Int) (l : List Ir.Op) : (Ir.fault many l).1 = 0 ∨ (1 ≤ (Ir.fault many l).1 ∧ (Ir.fault many l).1 ≤ 10) := by
  rcases Ir.fault_or many l with h | ⟨c, h1, h2, h3⟩
  · exact .inl h
  · exact .inr (by omega)
def eb0 (w : World) : Nat := w.heap.size
theorem fault_fine {many : Int} {l : List Ir.Op} (h : (Ir.fault many l).1 = 0) : Ir.fault many l = (0, -1) := Ir.fault_good (Ir.good_of_fault h)
end Go.Proofs.YtknhfobcejpmeaaGreatDoor

/- SameEnd -/
/- The walk of the law's sameEnd over rows that end alike. Printed by gen/sameend.py. -/
namespace Go.Proofs.YtknhfobcejpmeaaGreatDoor
open Go.RowKit Go.Deep
set_option linter.unusedVariables false
set_option linter.unusedSimpArgs false
theorem StAt.congrL {w : World} {sb : Nat} {s s' : Cp.St} (h : StAt w sb s) (e : stL s = stL s') : StAt w sb s' := by
  unfold StAt
  rw [← e]
  exact h
theorem not_typed {w : World} {b c n : Nat} {cs : Array Value} {T U : TypeId} {f : Nat → Value} (hT : T ≠ U) (hr : RowTo w b T n f) (hb : w.heap[c]? = some (.cells cs U (0, 0))) : ¬ b = c := fun e => by
  obtain ⟨d, hd, _⟩ := hr
  rw [e, hb] at hd
  injection hd with hd
  injection hd with _ h2
  exact hT h2.symm
set_option maxHeartbeats 8000000 in
set_option maxRecDepth 100000 in
theorem sameEnd_any (ra rb : List (List Ir.Op)) (many pc : Int) (A1 : Option Addr) (n1 c1 : Nat) (A2 : Option Addr) (n2 c2 : Nat) (s : Cp.St) (PA : Option Addr) (pn pcap : Nat) (page : Int) (ws : Nat → Int) (w : World) (V1 : RowsAt w A1 n1 c1 ra) (hc1 : c1 ≤ 9223372036854775807) (hi1 : ∀ l ∈ ra, (∀ o ∈ l, Ir.OpIn o) ∧ l.length < 1000000)
    (V2 : RowsAt w A2 n2 c2 rb) (hc2 : c2 ≤ 9223372036854775807) (hi2 : ∀ l ∈ rb, (∀ o ∈ l, Ir.OpIn o) ∧ l.length < 1000000) (hR : Reads w PA pn pcap (fun i => .int .u32 (ws i))) (hpc : pcap ≤ 9223372036854775807) (hr : ∀ i, i < pn → 0 ≤ ws i ∧ ws i < 4294967296) (hs : Cp.Rng (Ir.placedA s pc false)) (hp : 0 ≤ pc ∧ pc < 4294967296) (hmany : 0 ≤ many ∧ many ≤ 24)
    (eo eo2 : Ir.EO) (he1 : Ir.eoOf (Ir.placedA s pc false) (ramOf (min pn 4096) ws) many (Ir.runRows (watchF page) (Ir.mc0 (Ir.placedA s pc false)).X (ramOf (min pn 4096) ws) ra) = eo) (he2 : Ir.eoOf (Ir.placedA s pc false) (ramOf (min pn 4096) ws) many (Ir.runRows (watchF page) (Ir.mc0 (Ir.placedA s pc false)).X (ramOf (min pn 4096) ws) rb) = eo2)
    (ht : eo.t = eo2.t) (hst : stL eo2.s = stL eo.s) (hm : eo2.m = eo.m) (hrg : Cp.Rng eo.s) :
    Calls Tryz.prog 17 #[.slice A1 n1 c1, .slice A2 n2 c2, .int .i64 many, .agg (placeL s PA pn pcap page).toArray, .int .u32 pc] w fun e w' => e = .returned (.bool true) ∧ Keeps (fun _ => False) w w' := by
  have HV1 := Lib.hid V1
  have HV2 := Lib.hid V2
  have HRD := Lib.hid hR
  have HRR := Lib.hid hr
  have HN := Lib.hid (PlaceAt.new w s PA pn pcap page)
  have HK := Lib.hid ((Keeps.refl (fun _ => False) w).alloc (.cells (placeL s PA pn pcap page).toArray 29))
  have HPLC := Lib.hid (fun w => placed_any s PA pn pcap page pc w hp)
  obtain ⟨sp, hsp⟩ : ∃ sp, Ir.placedA s pc false = sp := ⟨_, rfl⟩
  rw [show Ir.placed s pc = sp from by rw [← hsp]; rfl] at HPLC
  rw [hsp] at he1 he2 hs
  have HS0 := Lib.hid (show sp.R 0 = 0 by rw [← hsp]; rfl)
  have HSR := Lib.hid hs
  obtain ⟨em, hem⟩ : ∃ m, ramOf (min pn 4096) ws = m := ⟨_, rfl⟩
  have HMOD := Lib.hid (fun w' (k : Keeps (fun _ => False) w w') => model_any s PA pn pcap page ws w' (hR.keep k (fun _ _ _ h => h)) hpc hr)
  unfold ModelIs at HMOD
  rw [hem] at HMOD he1 he2
  have HR1 := Lib.hid (fun xb q wb tb hb w' (k : Keeps (fun _ => False) w w') (hS : StAt w' xb sp) (R : RefAt w' q wb tb hb em (fun p => watchF page p) (fun _ => false)) => runOf_any ra many A1 n1 c1 xb q wb tb hb em (fun p => watchF page p) (fun _ => false) (watchF page) sp w' (V1.quiet k) hc1 hi1 hS hs R (fun p _ => rfl) HS0.out hmany)
  have HR2 := Lib.hid (fun xb q wb tb hb w' (k : Keeps (fun _ => False) w w') (hS : StAt w' xb sp) (R : RefAt w' q wb tb hb em (fun p => watchF page p) (fun _ => false)) => runOf_any rb many A2 n2 c2 xb q wb tb hb em (fun p => watchF page p) (fun _ => false) (watchF page) sp w' (V2.quiet k) hc2 hi2 hS hs R (fun p _ => rfl) HS0.out hmany)
  have HE1 := Lib.hid he1
  have HE2 := Lib.hid he2
  have HST := Lib.hid hst
  have HRG := Lib.hid hrg
  obtain ⟨et, ea1, es, m2⟩ := eo
  obtain ⟨et2, ea2, es2, m3⟩ := eo2
  simp only at ht hm HST HRG
  subst ht hm
  clear V1 V2 hi1 hi2 hR hr hs hsp hem he1 he2 hst hrg
  go_enter Tryz.func17, Tryz.ntmps17
  go_upto_region 1 with fail
  have HP1 := Lib.hid HN.out
  have HK1 := Lib.hid HK.out
  clear HN HK
  generalize w.alloc _ = w1 at *
  obtain ⟨x, hx⟩ : ∃ x, w.heap.size = x := ⟨_, rfl⟩
  rw [hx] at HP1 ⊢
  have HX := Lib.hid hx
  clear hx
  go_wp2_with (refine wpList_load_place _ rfl x s PA pn pcap page HP1.out rfl (by first | rfl | decide) ?_)
  refine (HPLC.out _).mono ?_
  rintro e w9 ⟨rfl, hk9⟩
  have HK9 := Lib.hid (HK1.out.trans hk9 (fun _ _ h => h))
  have HP9 := Lib.hid (HP1.out.keep hk9 (fun h => h))
  clear hk9
  go_wp2_with (with_reducible refine wpList_store_st rfl _ _ rfl _ _ sp (blk_alloc_new _ _) (by simp) rfl rfl ?_)
  intro w10 hS10 hk10
  have hk10' := ((Keeps.refl (fun _ => False) w9).alloc _).trans hk10 (fun j hj e => absurd (show j = w9.heap.size from e) (Nat.ne_of_lt hj))
  have HS10 := Lib.hid hS10
  have HK10 := Lib.hid (HK9.out.trans hk10' (fun _ _ h => h))
  have HP10 := Lib.hid (HP9.out.keep hk10' (fun h => h))
  have HXW := Lib.hid (show w.heap.size ≤ w9.heap.size from HK9.out.size)
  obtain ⟨xb, hxb⟩ : ∃ b, w9.heap.size = b := ⟨_, rfl⟩
  rw [hxb] at HS10 HXW ⊢
  clear hS10 hk10 hk10' hxb
  go_wp2_with (first
    | (with_reducible refine wpList_load_st rfl _ rfl xb sp HS10.out rfl ?_)
    | (with_reducible refine wpList_store_st rfl _ _ rfl _ _ sp (blk_alloc_new _ _) (by simp) rfl rfl ?_))
  intro w11 hS11 hk11
  have hk11' := ((Keeps.refl (fun _ => False) w10).alloc _).trans hk11 (fun j hj e => absurd (show j = w10.heap.size from e) (Nat.ne_of_lt hj))
  have HY11 := Lib.hid hS11
  have HX11 := Lib.hid (HS10.out.keep hk11' (fun h => h))
  have HK11 := Lib.hid (HK10.out.trans hk11' (fun _ _ h => h))
  have HP11 := Lib.hid (HP10.out.keep hk11' (fun h => h))
  have HXY := Lib.hid (HS10.out.lt)
  obtain ⟨yb, hyb⟩ : ∃ b, w10.heap.size = b := ⟨_, rfl⟩
  rw [hyb] at HY11 HXY ⊢
  clear hS11 hk11 hk11' hyb
  go_wp2_with (refine wpList_load_place _ rfl x s PA pn pcap page HP11.out rfl (by first | rfl | decide) ?_)
  refine (HMOD.out w11 HK11.out).mono ?_
  rintro e w12 ⟨q, wb, tb, hb, rfl, hRF, hnew, hk12⟩
  have HRF12 := Lib.hid hRF
  have HN12 := Lib.hid (show yb < q ∧ yb < wb ∧ yb < tb ∧ yb < hb from by have := HY11.out.lt; omega)
  have HK12 := Lib.hid (HK11.out.trans hk12 (fun _ _ h => h))
  have HP12 := Lib.hid (HP11.out.keep hk12 (fun h => h))
  have HX12 := Lib.hid (HX11.out.keep hk12 (fun h => h))
  have HY12 := Lib.hid (HY11.out.keep hk12 (fun h => h))
  clear hRF hnew hk12
  go_wp2_with (refine wpList_load_place _ rfl x s PA pn pcap page HP12.out rfl (by first | rfl | decide) ?_)
  refine (HMOD.out w12 HK12.out).mono ?_
  rintro e w13 ⟨q2, wb2, tb2, hb2, rfl, hRF2, hnew2, hk13⟩
  have HRF13 := Lib.hid (HRF12.out.keep hk13 ⟨fun h => h, fun h => h, fun h => h, fun h => h⟩)
  have HRG13 := Lib.hid hRF2
  have HN13 := Lib.hid (show q < q2 ∧ q < wb2 ∧ q < tb2 ∧ q < hb2 from by have := (Array.getElem?_eq_some_iff.1 HRF12.out.raw.box).1; omega)
  have HK13 := Lib.hid (HK12.out.trans hk13 (fun _ _ h => h))
  have HX13 := Lib.hid (HX12.out.keep hk13 (fun h => h))
  have HY13 := Lib.hid (HY12.out.keep hk13 (fun h => h))
  clear hRF2 hnew2 hk13 HP12 HP11 HP10 HP9 HP1
  -- the first run
  go_wp2_with fail
  refine (HR1.out xb q wb tb hb w13 HK13.out HX13.out HRF13.out).mono ?_
  intro e w14 h14
  obtain ⟨f1, wb3, rfl, hS14, hR14, hk14⟩ := h14.out HX13.out HRF13.out
  rw [HE1.out] at hS14 hR14 ⊢
  dsimp only at hS14 hR14 ⊢
  unfold rendC
  have hka := (Keeps.refl (fun _ => False) w14).alloc (.cells #[.bool et, .int .i64 ea1, .bool f1] 68)
  have HD15 := Lib.hid (REndBox.new w14 et ea1 f1)
  simp only [rendC] at HD15
  have hk15 := hk14.trans (hka.mono (T := fun b => b = xb ∨ b = q) (fun _ _ h => h.elim)) (fun _ _ h => h)
  have HK15 := Lib.hid (HK13.out.trans hk15 (fun b hb h => by have h1 := HXW.out; have h2 := HXY.out; have h3 := HN12.out.1; rcases h with h | h <;> omega))
  have HX15 := Lib.hid (StAt.keep hS14 hka (fun h => h))
  have HR15 := Lib.hid (hR14.keep hka ⟨fun h => h, fun h => h, fun h => h, fun h => h⟩)
  have HY15 := Lib.hid (HY13.out.keep hk15 (fun h => by have h2 := HXY.out; have h3 := HN12.out.1; rcases h with h | h <;> omega))
  have HRG15 := Lib.hid (HRG13.out.keep hk15 ⟨fun h => by have h1 := HN13.out; have h2 := HXY.out; have h3 := HN12.out.1; rcases h with h | h <;> omega, fun h => by have h1 := HN13.out; have h2 := HXY.out; have h3 := HN12.out.1; rcases h with h | h <;> omega, fun h => by have h1 := HN13.out; have h2 := HXY.out; have h3 := HN12.out.1; rcases h with h | h <;> omega, fun h => by have h1 := HN13.out; have h2 := HXY.out; have h3 := HN12.out.1; rcases h with h | h <;> omega⟩)
  clear h14 hS14 hR14 hk14 hka hk15
  go_upto_region 6 with fail
  generalize w14.alloc _ = w15 at *
  generalize w14.heap.size = db at *
  -- the second run
  go_wp2_with fail
  refine (HR2.out yb q2 wb2 tb2 hb2 w15 HK15.out HY15.out HRG15.out).mono ?_
  intro e w16 h16
  obtain ⟨f2, wb4, rfl, hS16, hR16, hk16⟩ := h16.out HY15.out HRG15.out
  rw [HE2.out] at hS16 hR16 ⊢
  dsimp only at hS16 hR16 ⊢
  unfold rendC
  have hka := (Keeps.refl (fun _ => False) w16).alloc (.cells #[.bool et, .int .i64 ea2, .bool f2] 68)
  have HE17 := Lib.hid (REndBox.new w16 et ea2 f2)
  simp only [rendC] at HE17
  have hk17 := hk16.trans (hka.mono (T := fun b => b = yb ∨ b = q2) (fun _ _ h => h.elim)) (fun _ _ h => h)
  have hyblk : w15.heap[yb]? = some (.cells (stL sp).toArray 26 (0, 0)) := HY15.out
  have HK17 := Lib.hid (HK15.out.trans hk17 (fun b hb h => by have h1 := HXW.out; have h2 := HXY.out; have h3 := HN12.out.1; have h4 := HN13.out.1; rcases h with h | h <;> omega))
  have HX17 := Lib.hid (HX15.out.keep hk17 (fun h => by have h2 := HXY.out; have h3 := HN12.out.1; have h4 := HN13.out.1; rcases h with h | h <;> omega))
  have HW17 := Lib.hid (hk17.rowTo HR15.out.raw.words (fun h => h.elim (not_typed (by decide) HR15.out.raw.words hyblk) (not_typed (by decide) HR15.out.raw.words HRG15.out.raw.box)))
  have HQ17 := Lib.hid ((hk17.block q (Array.getElem?_eq_some_iff.1 HR15.out.raw.box).1 (fun h => by have h3 := HN12.out.1; have h4 := HN13.out.1; rcases h with h | h <;> omega)).trans HR15.out.raw.box)
  have HD17 := Lib.hid (HD15.out.keep hk17 (fun h => h.elim (fun e => by
    have h1 := HD15.out.blk
    rw [e, hyblk] at h1
    injection h1 with h1
    injection h1 with _ h2
    exact absurd h2 (by decide)) (fun e => by
    have h1 := HD15.out.blk
    rw [e, HRG15.out.raw.box] at h1
    injection h1 with h1
    injection h1 with _ h2
    exact absurd h2 (by decide))))
  have HY17 := Lib.hid (StAt.congrL (StAt.keep hS16 hka (fun h => h)) HST.out)
  have HR17 := Lib.hid (hR16.keep hka ⟨fun h => h, fun h => h, fun h => h, fun h => h⟩)
  clear h16 hS16 hR16 hk16 hka hk17 hyblk
  go_upto_region 7 with fail
  generalize w16.alloc _ = w17 at *
  generalize w16.heap.size = eb at *
  have hr1 := HX17.out.range
  have hr2 := HY17.out.range
  have HI : Hid ((Tryz.prog.info? 26).map (·.size) = some (stL es).length) := Lib.hid (by rw [stL_len]; exact size_st)
  have HU := Lib.hid Tryz.underlying26
  have HQ := Lib.hid (fun w => equal_st w es HRG.out)
  have Z0 := Lib.hid HD17.out.cells.1
  have Z1 := Lib.hid HE17.out.cells.1
  have Z2 := Lib.hid (cell_at HQ17.out 0)
  have Z3 := Lib.hid (cell_at HR17.out.raw.box 0)
  have HWR := Lib.hid HR17.out.raw.words
  generalize stL es = cs at hr1 hr2 HI HQ ⊢
  refine wp_region_held_drew (S := fun w' => Keeps (fun _ => False) w17 w') (by kernel_rfl) (Keeps.refl _ w17).drew (fun hH0 => ?_)
  refine wpAnyH_take (i := 0) (v := ?_) rfl (by kernel_rfl) (by kernel_rfl) (by kernel_rfl) (fun _ _ _ h => h) (Or.inl ⟨by rfl, ?_⟩) hH0 ?_
  rotate_left
  · intro w' hSw
    go_simp
    try with_reducible rfl
  simp only [Act.put, List.setIfInBounds_toArray, List.set_cons_zero, List.set_cons_succ]
  refine wpAnyH_take (i := 1) (v := ?_) rfl (by kernel_rfl) (by kernel_rfl) (by kernel_rfl) (fun _ _ _ h => h) (Or.inl ⟨by rfl, ?_⟩) hH0 ?_
  rotate_left
  · intro w' hSw
    have c := Keeps.cell' hSw Z0.out (fun f => f)
    go_simp
    try with_reducible rfl
  simp only [Act.put, List.setIfInBounds_toArray, List.set_cons_zero, List.set_cons_succ]
  refine wpAnyH_take (i := 2) (v := ?_) rfl (by kernel_rfl) (by kernel_rfl) (by kernel_rfl) (fun _ _ _ h => h) (Or.inl ⟨by rfl, ?_⟩) hH0 ?_
  rotate_left
  · intro w' hSw
    go_simp
    try with_reducible rfl
  simp only [Act.put, List.setIfInBounds_toArray, List.set_cons_zero, List.set_cons_succ]
  refine wpAnyH_take (i := 3) (v := ?_) rfl (by kernel_rfl) (by kernel_rfl) (by kernel_rfl) (fun _ _ _ h => h) (Or.inl ⟨by rfl, ?_⟩) hH0 ?_
  rotate_left
  · intro w' hSw
    have c := Keeps.cell' hSw Z1.out (fun f => f)
    go_simp
    try with_reducible rfl
  simp only [Act.put, List.setIfInBounds_toArray, List.set_cons_zero, List.set_cons_succ]
  refine wpAnyH_take (i := 4) (v := ?_) rfl (by kernel_rfl) (by kernel_rfl) (by kernel_rfl) (fun _ _ _ h => h) (Or.inl ⟨by rfl, ?_⟩) hH0 ?_
  rotate_left
  · intro w' hSw
    go_simp
    try with_reducible rfl
  simp only [Act.put, List.setIfInBounds_toArray, List.set_cons_zero, List.set_cons_succ]
  refine wpAnyH_take (i := 5) (v := ?_) rfl (by kernel_rfl) (by kernel_rfl) (by kernel_rfl) (fun _ _ _ h => h) (Or.inl ⟨by rfl, ?_⟩) hH0 ?_
  rotate_left
  · intro w' hSw
    go_simp
    try with_reducible rfl
  simp only [Act.put, List.setIfInBounds_toArray, List.set_cons_zero, List.set_cons_succ]
  refine wpAnyH_take (i := 6) (v := .agg cs.toArray) rfl (by kernel_rfl) (by kernel_rfl) (by kernel_rfl) (fun _ _ _ h => h) (yieldsIf_load_mid (by go_simp) 26 (.tmp 11) rfl xb 0 (by go_simp) cs _ (fun w' hSw => range_keep hr1 hSw) HU.out rfl HI.out) hH0 ?_
  simp only [Act.put, List.setIfInBounds_toArray, List.set_cons_zero, List.set_cons_succ]
  refine wpAnyH_take (i := 7) (v := .agg cs.toArray) rfl (by kernel_rfl) (by kernel_rfl) (by kernel_rfl) (fun _ _ _ h => h) (yieldsIf_load_mid (by go_simp) 26 (.tmp 12) rfl yb 0 (by go_simp) cs _ (fun w' hSw => range_keep hr2 hSw) HU.out rfl HI.out) hH0 ?_
  simp only [Act.put, List.setIfInBounds_toArray, List.set_cons_zero, List.set_cons_succ]
  refine wpAnyH_take (i := 8) (v := .bool true) rfl (by kernel_rfl) (by kernel_rfl) (by kernel_rfl) (fun _ _ _ h => h) (yieldsIf_eql_agg (by go_simp) 26 26 (.tmp 39) (.tmp 40) rfl cs.toArray eqg_st HQ.out (by go_simp) (by go_simp)) hH0 ?_
  simp only [Act.put, List.setIfInBounds_toArray, List.set_cons_zero, List.set_cons_succ]
  refine wpAnyH_take (i := 9) (v := ?_) rfl (by kernel_rfl) (by kernel_rfl) (by kernel_rfl) (fun _ _ _ h => h) (Or.inl ⟨by go_simp, ?_⟩) hH0 ?_
  rotate_left
  · intro w' hSw
    go_simp
    try with_reducible rfl
  simp only [Act.put, List.setIfInBounds_toArray, List.set_cons_zero, List.set_cons_succ]
  refine wpAnyH_take (i := 10) (v := ?_) rfl (by kernel_rfl) (by kernel_rfl) (by kernel_rfl) (fun _ _ _ h => h) (Or.inl ⟨by rfl, ?_⟩) hH0 ?_
  rotate_left
  · intro w' hSw
    go_simp
    try with_reducible rfl
  simp only [Act.put, List.setIfInBounds_toArray, List.set_cons_zero, List.set_cons_succ]
  refine wpAnyH_take (i := 11) (v := ?_) rfl (by kernel_rfl) (by kernel_rfl) (by kernel_rfl) (fun _ _ _ h => h) (Or.inl ⟨by go_simp, ?_⟩) hH0 ?_
  rotate_left
  · intro w' hSw
    go_simp
    try with_reducible rfl
  simp only [Act.put, List.setIfInBounds_toArray, List.set_cons_zero, List.set_cons_succ]
  refine wpAnyH_take (i := 12) (v := ?_) rfl (by kernel_rfl) (by kernel_rfl) (by kernel_rfl) (fun _ _ _ h => h) (Or.inl ⟨by go_simp, ?_⟩) hH0 ?_
  rotate_left
  · intro w' hSw
    go_simp
    try with_reducible rfl
  simp only [Act.put, List.setIfInBounds_toArray, List.set_cons_zero, List.set_cons_succ]
  refine wpAnyH_take (i := 13) (v := ?_) rfl (by kernel_rfl) (by kernel_rfl) (by kernel_rfl) (fun _ _ _ h => h) (Or.inl ⟨by go_simp, ?_⟩) hH0 ?_
  rotate_left
  · intro w' hSw
    go_simp
    try with_reducible rfl
  simp only [Act.put, List.setIfInBounds_toArray, List.set_cons_zero, List.set_cons_succ]
  refine wpAnyH_take (i := 14) (v := ?_) rfl (by kernel_rfl) (by kernel_rfl) (by kernel_rfl) (fun _ _ _ h => h) (Or.inl ⟨by go_simp, ?_⟩) hH0 ?_
  rotate_left
  · intro w' hSw
    have c := Keeps.cell' hSw Z2.out (fun f => f)
    go_simp
    try with_reducible rfl
  simp only [Act.put, List.setIfInBounds_toArray, List.set_cons_zero, List.set_cons_succ]
  refine wpAnyH_take (i := 15) (v := ?_) rfl (by kernel_rfl) (by kernel_rfl) (by kernel_rfl) (fun _ _ _ h => h) (Or.inl ⟨by go_simp, ?_⟩) hH0 ?_
  rotate_left
  · intro w' hSw
    go_simp
    try with_reducible rfl
  simp only [Act.put, List.setIfInBounds_toArray, List.set_cons_zero, List.set_cons_succ]
  refine wpAnyH_take (i := 16) (v := ?_) rfl (by kernel_rfl) (by kernel_rfl) (by kernel_rfl) (fun _ _ _ h => h) (Or.inl ⟨by go_simp, ?_⟩) hH0 ?_
  rotate_left
  · intro w' hSw
    go_simp
    try with_reducible rfl
  simp only [Act.put, List.setIfInBounds_toArray, List.set_cons_zero, List.set_cons_succ]
  refine wpAnyH_take (i := 17) (v := ?_) rfl (by kernel_rfl) (by kernel_rfl) (by kernel_rfl) (fun _ _ _ h => h) (Or.inl ⟨by go_simp, ?_⟩) hH0 ?_
  rotate_left
  · intro w' hSw
    go_simp
    try with_reducible rfl
  simp only [Act.put, List.setIfInBounds_toArray, List.set_cons_zero, List.set_cons_succ]
  refine wpAnyH_take (i := 18) (v := ?_) rfl (by kernel_rfl) (by kernel_rfl) (by kernel_rfl) (fun _ _ _ h => h) (Or.inl ⟨by go_simp, ?_⟩) hH0 ?_
  rotate_left
  · intro w' hSw
    have c := Keeps.cell' hSw Z3.out (fun f => f)
    go_simp
    try with_reducible rfl
  simp only [Act.put, List.setIfInBounds_toArray, List.set_cons_zero, List.set_cons_succ]
  refine wpAnyH_ready (rs := [19]) (by kernel_rfl) (by simp) ?_
  refine AllReadyH.cons rfl (fun K hK => ?_) AllReadyH.nil
  go_simp
  refine (alike_same wb3 wb4 4096 4096 4096 (fun k => be m3 (4 * k) 4) w17.drew (by omega) (by omega) (by omega) (fun i hi => (Keeps.rowTo hH0 HW17.out (fun h => h)).cell hi) (fun i hi => (Keeps.rowTo hH0 HWR.out (fun h => h)).cell hi)).mono ?_
  rintro e wx2 ⟨rfl, hkx2⟩
  go_wp2_with fail
  have hH1 := Keeps.trans hH0 hkx2 (fun _ _ h => h)
  refine hK.out _ _ hH1 (fun _ => ?_)
  clear hK K
  try simp only [Act.put, List.setIfInBounds_toArray, List.set_cons_zero, List.set_cons_succ]
  refine wpAnyH_ready (rs := [20]) (by kernel_rfl) (by simp) ?_
  refine AllReadyH.cons rfl (fun K hK => ?_) AllReadyH.nil
  go_simp
  refine hK.out _ _ hH1 (fun _ => ?_)
  clear hK K
  try simp only [Act.put, List.setIfInBounds_toArray, List.set_cons_zero, List.set_cons_succ]
  refine wpAnyH_ready (rs := [21]) (by kernel_rfl) (by simp) ?_
  refine AllReadyH.cons rfl (fun K hK => ?_) AllReadyH.nil
  go_simp
  refine hK.out _ _ hH1 (fun _ => ?_)
  clear hK K
  try simp only [Act.put, List.setIfInBounds_toArray, List.set_cons_zero, List.set_cons_succ]
  refine wpAnyH_ready (rs := [22]) (by kernel_rfl) (by simp) ?_
  refine AllReadyH.cons rfl (fun K hK => ?_) AllReadyH.nil
  go_simp
  refine hK.out _ _ hH1 (fun _ => ?_)
  clear hK K
  try simp only [Act.put, List.setIfInBounds_toArray, List.set_cons_zero, List.set_cons_succ]
  refine wpAnyH_done (by kernel_rfl) ?_ _
  go_wp2_with fail
  go_ret
  exact ⟨by go_simp, HK17.out.trans hH1 (fun _ _ h => h)⟩
end Go.Proofs.YtknhfobcejpmeaaGreatDoor
