import Derived.Test.YtknhfobcejpmeaaGreatDoorPez19
import Derived.Test.YtknhfobcejpmeaaGreatDoorPez06
import Derived.Test.YtknhfobcejpmeaaGreatDoorPez14
import Derived.Deep.RegionHeld3
import Derived.Test.YtknhfobcejpmeaaGreatDoorPez17
import Derived.Test.YtknhfobcejpmeaaGreatDoorPez01
import Derived.Test.YtknhfobcejpmeaaGreatDoorPez09
import Derived.Maps.OwnOps
import Derived.Deep.QuietTactic
import Derived.BigQuiet

/- PlanRow0 -/
/- The walks of plan.class, room, final, counts; of slices.IndexFunc, ContainsFunc over ops. Printed by gen/planrow.py. -/
namespace Go.Proofs.YtknhfobcejpmeaaGreatDoor
open Go.RowKit Go.Deep
set_option linter.unusedVariables false
set_option linter.unusedSimpArgs false

theorem cls_c (o : Ir.Op) : Ir.cls o = if (Ir.kn o.k == 5 || Ir.kn o.k == 6) = true then 1 else if Ir.leaves (Ir.kn o.k) = true then 2 else 0 := by
  unfold Ir.cls
  simp
set_option maxHeartbeats 2000000 in
set_option maxRecDepth 100000 in
theorem class_any (o : Ir.Op) (w : World) :
    Calls Tryz.prog 123 #[.agg (opC o)] w fun e w' => e = .returned (.int .i64 (Ir.cls o)) ∧ Keeps (fun _ => False) w w' := by
  have hr := cls_c o
  obtain ⟨r, hr0⟩ : ∃ r, Ir.cls o = r := ⟨_, rfl⟩
  rw [hr0] at hr ⊢
  clear hr0
  obtain ⟨k, d, a, b, im, t⟩ := o
  simp only at hr
  have h5 := is_load k
  have h6 := is_store k
  have HS := Lib.hid (fun w => leaves_any k w)
  have HK := Lib.hid ((Keeps.refl (fun _ => False) w).alloc (.cells (opC ⟨k, d, a, b, im, t⟩) 100))
  simp only [opC] at HK
  generalize Ir.leaves (Ir.kn k) = lv at *
  generalize (Ir.kn k == 5) = p5 at *
  generalize (Ir.kn k == 6) = p6 at *
  unfold opC
  cases p5 <;> cases p6 <;> cases lv
  all_goals
    have HR := Lib.hid hr
    clear hr
    go_enter Tryz.func123, Tryz.ntmps123
    go_wp2_with (go_at_call 87; refine (HS.out _).mono ?_; rintro e w' ⟨rfl, rfl⟩)
    go_ret
    exact ⟨by rw [HR.out]; rfl, HK.out⟩
theorem room_any (c : Nat) (w : World) :
    Calls Tryz.prog 125 #[.int .i64 c] w fun e w' => e = .returned (.int .i64 (Ir.room c)) ∧ w = w' := by
  have hr : Ir.room c = if c = 0 then 3 else 1 := rfl
  obtain ⟨r, hr0⟩ : ∃ r, Ir.room c = r := ⟨_, rfl⟩
  rw [hr0] at hr ⊢
  clear hr0
  have HR := Lib.hid hr
  clear hr
  by_cases h : c = 0
  · have t1 : ((c : Int) == 0) = true := by simp [h]
    have HE := Lib.hid (show r = 3 by rw [HR.out, if_pos h])
    clear h
    go_enter Tryz.func125, Tryz.ntmps125
    go_wp2_with fail
    go_ret
    exact ⟨by rw [HE.out]; rfl, rfl⟩
  · have t1 : ((c : Int) == 0) = false := by simp; omega
    have HE := Lib.hid (show r = 1 by rw [HR.out, if_neg h])
    clear h
    go_enter Tryz.func125, Tryz.ntmps125
    go_wp2_with fail
    go_ret
    exact ⟨by rw [HE.out]; rfl, rfl⟩
theorem final_any (o : Ir.Op) (w : World) :
    Calls Tryz.prog 136 #[.agg (opC o)] w fun e w' => e = .returned (.bool (Ir.isOut (Ir.kn o.k))) ∧ Keeps (fun _ => False) w w' := by
  obtain ⟨k, d, a, b, im, t⟩ := o
  have h8 := is_out k
  have h9 := is_outr k
  have HK := Lib.hid ((Keeps.refl (fun _ => False) w).alloc (.cells #[.string k, .int .i64 d, .int .i64 a, .int .i64 b, .int .u32 im, .int .i64 t] 100))
  have HR : Hid (Ir.isOut (Ir.kn k) = (Ir.kn k == 8 || Ir.kn k == 9)) := Lib.hid (by unfold Ir.isOut; simp [Bool.decide_or, nat_beq])
  generalize Ir.isOut (Ir.kn k) = r at *
  cases e8 : (Ir.kn k == 8) <;> cases e9 : (Ir.kn k == 9)
  all_goals
    rw [e8] at h8 HR
    rw [e9] at h9 HR
    clear e8 e9
    obtain rfl := HR.out
    unfold opC
    go_enter Tryz.func136, Tryz.ntmps136
    go_wp2_with fail
    go_ret
    exact ⟨rfl, HK.out⟩
/-- three counts in an array of the call's own -/
structure ArrBox (w : World) (x : Nat) (c0 c1 c2 : Nat) : Prop where
  blk : w.heap[x]? = some (.cells #[.int .i64 c0, .int .i64 c1, .int .i64 c2] 202 (0, 0))
theorem ArrBox.lt {w : World} {x c0 c1 c2 : Nat} (h : ArrBox w x c0 c1 c2) : x < w.heap.size := (Array.getElem?_eq_some_iff.1 h.blk).1
theorem ArrBox.keep {S : Nat → Prop} {w w' : World} {x c0 c1 c2 : Nat} (h : ArrBox w x c0 c1 c2) (k : Keeps S w w') (hs : ¬ S x) : ArrBox w' x c0 c1 c2 := ⟨(k.block x h.lt hs).trans h.blk⟩
theorem ArrBox.cells {w : World} {x c0 c1 c2 : Nat} (h : ArrBox w x c0 c1 c2) :
    w.cell? ⟨x, 0, none⟩ = some (.int .i64 c0) ∧ w.cell? ⟨x, 1, none⟩ = some (.int .i64 c1) ∧ w.cell? ⟨x, 2, none⟩ = some (.int .i64 c2) ∧ w.frozen? ⟨x, 0, none⟩ = false ∧ w.frozen? ⟨x, 1, none⟩ = false ∧ w.frozen? ⟨x, 2, none⟩ = false := by
  refine ⟨?_, ?_, ?_, frozen_of_block h.blk 0, frozen_of_block h.blk 1, frozen_of_block h.blk 2⟩ <;> (unfold World.cell?; rw [h.blk]; rfl)
theorem ArrBox.new (w : World) : ArrBox (w.alloc (.cells #[.int .i64 0, .int .i64 0, .int .i64 0] 202)) w.heap.size 0 0 0 := ⟨blk_alloc_new _ _⟩
theorem ArrBox.up0 {w : World} {x c0 c1 c2 : Nat} (h : ArrBox w x c0 c1 c2) (v : Int) (hv : v = (c0 : Int) + 1) : ArrBox (w.setCell ⟨x, 0, none⟩ (.int .i64 v)) x (c0 + 1) c1 c2 := by
  refine ⟨?_⟩; rw [hv]; have h1 := set_block h.blk 0 (.int .i64 ((c0 : Int) + 1)); simpa using h1
theorem ArrBox.up1 {w : World} {x c0 c1 c2 : Nat} (h : ArrBox w x c0 c1 c2) (v : Int) (hv : v = (c1 : Int) + 1) : ArrBox (w.setCell ⟨x, 1, none⟩ (.int .i64 v)) x c0 (c1 + 1) c2 := by
  refine ⟨?_⟩; rw [hv]; have h1 := set_block h.blk 1 (.int .i64 ((c1 : Int) + 1)); simpa using h1
theorem ArrBox.up2 {w : World} {x c0 c1 c2 : Nat} (h : ArrBox w x c0 c1 c2) (v : Int) (hv : v = (c2 : Int) + 1) : ArrBox (w.setCell ⟨x, 2, none⟩ (.int .i64 v)) x c0 c1 (c2 + 1) := by
  refine ⟨?_⟩; rw [hv]; have h1 := set_block h.blk 2 (.int .i64 ((c2 : Int) + 1)); simpa using h1
theorem ArrBox.same {w : World} {x c0 c1 c2 : Nat} (h : ArrBox w x c0 c1 c2) : ArrBox (((w.setCell ⟨x, 0, none⟩ (.int .i64 c0)).setCell ⟨x, 1, none⟩ (.int .i64 c1)).setCell ⟨x, 2, none⟩ (.int .i64 c2)) x c0 c1 c2 := by
  refine ⟨?_⟩
  have h1 := set_block (set_block (set_block h.blk 0 (.int .i64 c0)) 1 (.int .i64 c1)) 2 (.int .i64 c2)
  simpa using h1
theorem size_arr3 : (Tryz.prog.info? 202).map (·.size) = some 3 := by kernel_rfl
set_option maxHeartbeats 4000000 in
set_option maxRecDepth 100000 in
theorem counts_any (A : Option Addr) (n cap : Nat) (l : List Ir.Op) (w : World) (V : OpsAt w A n cap l) (hc : cap ≤ 9223372036854775807) (hn : n ≤ 4) :
    Calls Tryz.prog 124 #[.slice A n cap] w fun e w' => e = .returned (.agg #[.int .i64 (Ir.cnt l 0), .int .i64 (Ir.cnt l 1), .int .i64 (Ir.cnt l 2)]) ∧ Keeps (fun _ => False) w w' := by
  have HV := Lib.hid V
  have HL := Lib.hid V.len
  have hnc := V.le
  have HB0 := Lib.hid (ArrBox.new w)
  have HK0 := Lib.hid ((Keeps.refl (fun _ => False) w).alloc (.cells #[.int .i64 0, .int .i64 0, .int .i64 0] 202))
  clear V
  go_enter Tryz.func124, Tryz.ntmps124
  go_upto_region 1 with fail
  obtain ⟨x, hx⟩ : ∃ x, w.heap.size = x := ⟨_, rfl⟩
  have HX := Lib.hid hx
  rw [hx] at HB0 ⊢
  clear hx
  generalize w.alloc _ = w1 at *
  go_wp2_with fail
  go_loopw [7] (fun s7 wr => ∃ i c0 c1 c2 : Nat, i ≤ n ∧ c0 ≤ i ∧ c1 ≤ i ∧ c2 ≤ i ∧ s7 = .int .i64 i ∧ (Ir.cnt (l.take i) 0 = c0 ∧ Ir.cnt (l.take i) 1 = c1 ∧ Ir.cnt (l.take i) 2 = c2) ∧ ArrBox wr x c0 c1 c2 ∧ Keeps (fun _ => False) w wr) (fun s7 _ => n - (intOf s7).toNat)
  case atStart => exact ⟨0, 0, 0, 0, by omega, by omega, by omega, by omega, rfl, ⟨rfl, rfl, rfl⟩, HB0.out, HK0.out⟩
  case round =>
    obtain ⟨i, c0, c1, c2, hi, h0, h1, h2, rfl, hS, hB, hK⟩ := hrel
    have HS := Lib.hid hS
    have HB := Lib.hid hB
    have HK := Lib.hid hK
    clear hS hB hK
    by_cases hlt : i < n
    · obtain ⟨ob0, oo0, rfl, e0, e1, e2, e3, e4, e5⟩ := (HV.out.quiet HK.out).get hlt
      have hil : i < l.length := by rw [HL.out]; exact hlt
      have hi63 : (i : Int) < n := by omega
      have HC0 := Lib.hid (cnt_step l i hil)
      obtain ⟨op, hop⟩ : ∃ op, l.getD i Ir.nop = op := ⟨_, rfl⟩
      rw [hop] at e0 e1 e2 e3 e4 e5 HC0
      clear hop hil
      have HCL := Lib.hid (cls_lt op)
      have HCO := Lib.hid (fun w => class_any op w)
      obtain ⟨cc, hcc⟩ : ∃ cc, Ir.cls op = cc := ⟨_, rfl⟩
      rw [hcc] at HCO HC0 HCL
      clear hcc
      obtain ⟨ok, od, oa, ob2, oim, oat⟩ := op
      have HN := Lib.hid (op_new wr ok od oa ob2 oim oat 100)
      simp only at e0 e1 e2 e3 e4 e5
      go_upto_region 4 with fail
      obtain ⟨hV, hK⟩ := HN.out
      have HKn := Lib.hid (HK.out.trans hK (fun _ _ h => h))
      have HBn := Lib.hid (HB.out.keep hK (fun h => h))
      generalize wr.alloc _ = w4 at *
      generalize wr.heap.size = y at *
      clear e0 e1 e2 e3 e4 e5 hK HN
      obtain ⟨v0, v1, v2, v3, v4, v5⟩ := hV
      simp only at v0 v1 v2 v3 v4 v5
      go_wp2_with fail
      refine (HCO.out _).mono ?_
      rintro e w5 ⟨rfl, hk5⟩
      have HK5 := Lib.hid (HKn.out.trans hk5 (fun _ _ h => h))
      have HB2 := Lib.hid (HBn.out.keep hk5 (fun h => h))
      clear hk5 v0 v1 v2 v3 v4 v5
      obtain ⟨r0, r1, r2, g0, g1, g2⟩ := HB2.out.cells
      have HLT : Hid (w.heap.size ≤ x) := Lib.hid (by rw [HX.out]; exact Nat.le_refl _)
      obtain rfl | rfl | rfl : cc = 0 ∨ cc = 1 ∨ cc = 2 := by have := HCL.out; omega
      · have hcw : IntKind.i64.wrap ((c0 : Int) + 1) = (c0 : Int) + 1 := by rw [IntKind.wrap_i64]; omega
        have HB6 := Lib.hid (HB2.out.up0 ((c0 : Int) + 1) rfl)
        have HK6 := Lib.hid (cntbox_keep (o := 0) (v := .int .i64 ((c0 : Int) + 1)) HK5.out HLT.out)
        go_wp2_with fail
        go_roundw
        case rel => exact ⟨i + 1, c0 + 1, c1, c2, by omega, by omega, by omega, by omega, by go_num, ⟨by rw [HC0.out, HS.out.1]; rfl, by rw [HC0.out, HS.out.2.1]; rfl, by rw [HC0.out, HS.out.2.2]; rfl⟩, HB6.out, HK6.out⟩
        case measure => simp [intOf]; omega
      · have hcw : IntKind.i64.wrap ((c1 : Int) + 1) = (c1 : Int) + 1 := by rw [IntKind.wrap_i64]; omega
        have HB6 := Lib.hid (HB2.out.up1 ((c1 : Int) + 1) rfl)
        have HK6 := Lib.hid (cntbox_keep (o := 1) (v := .int .i64 ((c1 : Int) + 1)) HK5.out HLT.out)
        go_wp2_with fail
        go_roundw
        case rel => exact ⟨i + 1, c0, c1 + 1, c2, by omega, by omega, by omega, by omega, by go_num, ⟨by rw [HC0.out, HS.out.1]; rfl, by rw [HC0.out, HS.out.2.1]; rfl, by rw [HC0.out, HS.out.2.2]; rfl⟩, HB6.out, HK6.out⟩
        case measure => simp [intOf]; omega
      · have hcw : IntKind.i64.wrap ((c2 : Int) + 1) = (c2 : Int) + 1 := by rw [IntKind.wrap_i64]; omega
        have HB6 := Lib.hid (HB2.out.up2 ((c2 : Int) + 1) rfl)
        have HK6 := Lib.hid (cntbox_keep (o := 2) (v := .int .i64 ((c2 : Int) + 1)) HK5.out HLT.out)
        go_wp2_with fail
        go_roundw
        case rel => exact ⟨i + 1, c0, c1, c2 + 1, by omega, by omega, by omega, by omega, by go_num, ⟨by rw [HC0.out, HS.out.1]; rfl, by rw [HC0.out, HS.out.2.1]; rfl, by rw [HC0.out, HS.out.2.2]; rfl⟩, HB6.out, HK6.out⟩
        case measure => simp [intOf]; omega
    · have hin : i = n := by omega
      have HT := Lib.hid (show Ir.cnt l 0 = c0 ∧ Ir.cnt l 1 = c1 ∧ Ir.cnt l 2 = c2 by
        have e : l.take i = l := List.take_of_length_le (by rw [HL.out]; omega)
        have h := HS.out
        rwa [e] at h)
      clear HS
      obtain ⟨r0, r1, r2, g0, g1, g2⟩ := HB.out.cells
      have HBS := Lib.hid HB.out.same
      have HLT : Hid (w.heap.size ≤ x) := Lib.hid (by rw [HX.out]; exact Nat.le_refl _)
      have HKS := Lib.hid (cntbox_keep (o := 2) (v := .int .i64 (c2 : Int)) (cntbox_keep (o := 1) (v := .int .i64 (c1 : Int)) (cntbox_keep (o := 0) (v := .int .i64 (c0 : Int)) HK.out HLT.out) HLT.out) HLT.out)
      subst hin
      go_wp2_with fail
      refine bodyPost_ret (results_cell_row rfl _ _ x 202 #[.int .i64 c0, .int .i64 c1, .int .i64 c2] (0, 0) _ rfl HBS.out.blk Tryz.underlying202 rfl size_arr3) rfl ⟨by rw [HT.out.1, HT.out.2.1, HT.out.2.2], HKS.out⟩
/-- where the first op stands of which p holds -/
def idxP (p : Ir.Op → Bool) : Nat → List Ir.Op → Int
  | _, [] => -1
  | i, o :: r => if p o = true then i else idxP p (i + 1) r
theorem idxP_at {p : Ir.Op → Bool} : ∀ (l : List Ir.Op) (s i : Nat), i < l.length → (∀ j, j < i → p (l.getD j Ir.nop) = false) → p (l.getD i Ir.nop) = true → idxP p s l = ((s + i : Nat) : Int)
  | [], s, i, h, _, _ => by simp at h
  | o :: r, s, 0, _, _, h => by
    have h2 : p o = true := h
    unfold idxP
    rw [if_pos h2]
    rfl
  | o :: r, s, i + 1, h, hj, hn => by
    have h0 : p o = false := hj 0 (by omega)
    unfold idxP
    rw [if_neg (by rw [h0]; decide), idxP_at r (s + 1) i (by simpa using h) (fun j hj' => hj (j + 1) (by omega)) hn]
    congr 1
    omega
theorem idxP_none {p : Ir.Op → Bool} : ∀ (l : List Ir.Op) (s : Nat), (∀ j, j < l.length → p (l.getD j Ir.nop) = false) → idxP p s l = -1
  | [], s, _ => rfl
  | o :: r, s, h => by
    have h0 : p o = false := h 0 (by simp)
    unfold idxP
    rw [if_neg (by rw [h0]; decide)]
    exact idxP_none r (s + 1) (fun j hj => h (j + 1) (by simpa using hj))
theorem idxP_any {p : Ir.Op → Bool} : ∀ (l : List Ir.Op) (s : Nat), decide (0 ≤ idxP p s l) = l.any p
  | [], s => rfl
  | o :: r, s => by
    unfold idxP
    rw [List.any_cons]
    cases h : p o with
    | true => rw [if_pos rfl, Bool.true_or, decide_eq_true (by omega)]
    | false => rw [if_neg (by decide), idxP_any r (s + 1), Bool.false_or]
theorem idxP_le {p : Ir.Op → Bool} : ∀ (l : List Ir.Op) (s : Nat), -1 ≤ idxP p s l ∧ idxP p s l < ((s + l.length : Nat) : Int) + 1
  | [], s => by unfold idxP; omega
  | o :: r, s => by
    unfold idxP
    split
    · rw [List.length_cons]; omega
    · have := idxP_le (p := p) r (s + 1)
      rw [List.length_cons]
      omega
/-- what is asked of a predicate over ops -/
def PredOp (g : Nat) (lb : Array Value) (p : Ir.Op → Bool) (w : World) : Prop :=
  ∀ (o : Ir.Op) (W : World), Keeps (fun _ => False) w W → Calls Tryz.prog g (#[.agg (opC o)] ++ lb) W fun e w' => e = .returned (.bool (p o)) ∧ Keeps (fun _ => False) W w'
theorem PredOp.quiet {g : Nat} {lb : Array Value} {p : Ir.Op → Bool} {w w' : World} (h : PredOp g lb p w) (k : Keeps (fun _ => False) w w') : PredOp g lb p w' := fun o W kw => h o W (k.trans kw (fun _ _ h => h))
set_option maxHeartbeats 4000000 in
set_option maxRecDepth 100000 in
theorem indexFunc_any (g : Nat) (lb : Array Value) (p : Ir.Op → Bool) (eg : ∀ args w, (callFunc g args).run Tryz.prog w = .ok (.enter g args) w) (A : Option Addr) (n cap : Nat) (l : List Ir.Op) (w : World) (V : OpsAt w A n cap l) (hc : cap ≤ 9223372036854775807) (hp : PredOp g lb p w) :
    Calls Tryz.prog 165 #[.slice A n cap, .func (.func g) #[] lb] w fun e w' => e = .returned (.int .i64 (idxP p 0 l)) ∧ Keeps (fun _ => False) w w' := by
  have HV := Lib.hid V
  have HL := Lib.hid V.len
  have HP := Lib.hid hp
  have hnc := V.le
  obtain ⟨r, hr⟩ : ∃ r, idxP p 0 l = r := ⟨_, rfl⟩
  rw [hr]
  have HR := Lib.hid hr
  clear V hp hr
  go_enter Tryz.func165, Tryz.ntmps165
  go_wp2_with fail
  go_loopw [5, 8] (fun _ s8 wr => ∃ i : Nat, i ≤ n ∧ s8 = .int .i64 i ∧ (∀ j, j < i → p (l.getD j Ir.nop) = false) ∧ Keeps (fun _ => False) w wr) (fun _ s8 _ => n - (intOf s8).toNat)
  case atStart => exact ⟨0, by omega, rfl, fun j hj => absurd hj (by omega), Keeps.refl _ _⟩
  case round =>
    obtain ⟨i, hi, rfl, hZ, hK⟩ := hrel
    have HZ := Lib.hid hZ
    have HK := Lib.hid hK
    clear hZ hK
    by_cases hlt : i < n
    · obtain ⟨ob, oo, rfl, e0, e1, e2, e3, e4, e5⟩ := (HV.out.quiet HK.out).get hlt
      have hil : i < l.length := by rw [HL.out]; exact hlt
      have hi63 : (i : Int) < n := by omega
      have HAT := Lib.hid (fun h => idxP_at (p := p) l 0 i hil HZ.out h)
      obtain ⟨op, hop⟩ : ∃ op, l.getD i Ir.nop = op := ⟨_, rfl⟩
      rw [hop] at e0 e1 e2 e3 e4 e5 HAT
      have HOP := Lib.hid hop
      clear hop hil
      have HCA := Lib.hid (HP.out op wr HK.out)
      obtain ⟨pv, hpv⟩ : ∃ b, p op = b := ⟨_, rfl⟩
      rw [hpv] at HCA HAT
      have HPV := Lib.hid hpv
      clear hpv
      obtain ⟨ok, od, oa, ob2, oim, oat⟩ := op
      simp only at e0 e1 e2 e3 e4 e5
      unfold opC at HCA
      go_wp2_with fail
      refine HCA.out.mono ?_
      rintro e w5 ⟨rfl, hk5⟩
      have HK5 := Lib.hid (HK.out.trans hk5 (fun _ _ h => h))
      clear hk5 e0 e1 e2 e3 e4 e5
      cases pv
      · have HZ2 := Lib.hid (show ∀ j, j < i + 1 → p (l.getD j Ir.nop) = false from fun j hj => by
          by_cases e : j = i
          · subst e; rw [HOP.out]; exact HPV.out
          · exact HZ.out j (by omega))
        go_wp2_with fail
        go_roundw
        case rel => exact ⟨i + 1, by omega, by go_num, HZ2.out, HK5.out⟩
        case measure => simp [intOf]; omega
      · have HE := Lib.hid (show r = (i : Int) by rw [← HR.out, HAT.out rfl, Nat.zero_add])
        go_wp2_with fail
        go_ret
        exact ⟨by rw [HE.out]; rfl, HK5.out⟩
    · have hin : i = n := by omega
      have HE := Lib.hid (show r = -1 by rw [← HR.out, idxP_none l 0 (fun j hj => HZ.out j (by rw [HL.out] at hj; omega))])
      subst hin
      go_wp2_with fail
      go_ret
      exact ⟨by rw [HE.out]; rfl, HK.out⟩
set_option maxRecDepth 100000 in
theorem containsFunc_any (g : Nat) (lb : Array Value) (p : Ir.Op → Bool) (eg : ∀ args w, (callFunc g args).run Tryz.prog w = .ok (.enter g args) w) (A : Option Addr) (n cap : Nat) (l : List Ir.Op) (w : World) (V : OpsAt w A n cap l) (hc : cap ≤ 9223372036854775807) (hp : PredOp g lb p w) :
    Calls Tryz.prog 134 #[.slice A n cap, .func (.func g) #[] lb] w fun e w' => e = .returned (.bool (l.any p)) ∧ Keeps (fun _ => False) w w' := by
  have HI := Lib.hid (fun w V hp => indexFunc_any g lb p eg A n cap l w V hc hp)
  have HV := Lib.hid V
  have HP := Lib.hid hp
  have hb := idxP_any (p := p) l 0
  obtain ⟨r, hr⟩ : ∃ r, idxP p 0 l = r := ⟨_, rfl⟩
  rw [hr] at HI hb
  obtain ⟨q, hq⟩ : ∃ q, l.any p = q := ⟨_, rfl⟩
  rw [hq] at hb ⊢
  clear V hp hr hq eg
  go_enter Tryz.func134, Tryz.ntmps134
  go_wp2_with fail
  refine (HI.out _ HV.out HP.out).mono ?_
  rintro e w5 ⟨rfl, hk5⟩
  go_wp2_with fail
  go_ret
  exact ⟨rfl, hk5⟩
end Go.Proofs.YtknhfobcejpmeaaGreatDoor

/- MakeDefs -/
/- A maker of plans as it lies: rows of rows, two maps of numbers. -/
namespace Go.Proofs.YtknhfobcejpmeaaGreatDoor
open Go.RowKit Go.Deep
set_option linter.unusedVariables false
set_option linter.unusedSimpArgs false

theorem zeroI (w : World) : (zeroValue 3).run Tryz.prog w = .ok (.int .i64 0) w := by kernel_rfl
/-- A MAP OF NUMBERS OF ROWS -/
def RowMapAt (w : World) (b n : Nat) (f : Int → Option Nat) : Prop := ∃ D : DataW Unit, w.ownsMap Tryz.prog 3 (plainElem Tryz.prog 3) b n D ∧
  ∀ k, i64R k → Maps.has D (.int .i64 k) = (f k).isSome ∧ ∀ v, f k = some v → D.atKey (.int .i64 k) (.lit (.int .i64 0)) = .lit (.int .i64 (v : Int))
theorem RowMapAt.keep {S : Nat → Prop} {w w' : World} {b n : Nat} {f : Int → Option Nat} (F : RowMapAt w b n f) (k : Keeps S w w') (h : ¬ S b) : RowMapAt w' b n f := by
  obtain ⟨D, ⟨es, c, hb, hf, hs, hd⟩, hD⟩ := F
  exact ⟨D, ⟨es, c, k.map hb h, hf, hs, hd⟩, hD⟩
theorem RowMapAt.lt {w : World} {b n : Nat} {f : Int → Option Nat} (F : RowMapAt w b n f) : b < w.heap.size := by
  obtain ⟨D, h, _⟩ := F
  exact h.lt
theorem RowMapAt.mono {w : World} {b n n' : Nat} {f : Int → Option Nat} (F : RowMapAt w b n f) (h : n ≤ n') : RowMapAt w b n' f := by
  obtain ⟨D, h1, h2⟩ := F
  exact ⟨D, h1.mono h, h2⟩
/-- its block is a map -/
theorem RowMapAt.blk {w : World} {b n : Nat} {f : Int → Option Nat} (F : RowMapAt w b n f) : ∃ es c, w.heap[b]? = some (.map es c) := by
  obtain ⟨D, ⟨es, c, hb, _⟩, _⟩ := F
  exact ⟨es, c, hb⟩
theorem RowMapAt.made (w : World) : RowMapAt (w.alloc (.map #[] 0)) w.heap.size 0 (fun _ => none) :=
  ⟨.map [], World.ownsMap_made w _ _ _, fun k hk => ⟨rfl, fun v hv => by cases hv⟩⟩
theorem rowmap_val {f : Int → Option Nat} {D : DataW Unit} {n : Int} (h1 : Maps.has D (.int .i64 n) = (f n).isSome) (h2 : ∀ v, f n = some v → D.atKey (.int .i64 n) (.lit (.int .i64 0)) = .lit (.int .i64 (v : Int))) {c : Int} (hc : D.atKey (.int .i64 n) (.lit (.int .i64 0)) = .lit (.int .i64 c)) : c = (((f n).getD 0 : Nat) : Int) := by
  cases hf : f n with
  | some v =>
    have := h2 v hf
    rw [hc] at this
    injection this with h3
    injection h3
  | none =>
    rw [hf] at h1
    have := Maps.atKey_of_not_has h1 (.lit (.int .i64 0))
    rw [hc] at this
    injection this with h3
    injection h3
/-- m[k] -/
theorem RowMapAt.get {w : World} {b n : Nat} {f : Int → Option Nat} (F : RowMapAt w b n f) (k : Int) (hk : i64R k) :
    (Instr.lookup 104 (.map (some b)) (.int .i64 k) false).run Tryz.prog w = .ok (.int .i64 (((f k).getD 0 : Nat) : Int)) w := by
  obtain ⟨D, h, hD⟩ := F
  obtain ⟨c, h1, h2, h3⟩ := h.lookup_int (t := 104) mapK Tryz.underlying104 Tryz.underlying3 (zeroI w) (Maps.keyOf_int_mk Tryz.underlying3 (wf_i hk))
  rw [h1, rowmap_val (hD k hk).1 (hD k hk).2 h2]
/-- m[k] with ok -/
theorem RowMapAt.look {w : World} {b n : Nat} {f : Int → Option Nat} (F : RowMapAt w b n f) (k : Int) (hk : i64R k) :
    (Instr.lookup 104 (.map (some b)) (.int .i64 k) true).run Tryz.prog w = .ok (.tuple #[.int .i64 (((f k).getD 0 : Nat) : Int), .bool (f k).isSome]) w := by
  obtain ⟨D, h, hD⟩ := F
  obtain ⟨v, ps, h1, h2⟩ := h.look_ok (t := 104) mapK Tryz.underlying104 (zeroI w) (plainElem_int Tryz.underlying3 (by decide)) (Maps.keyOf_int_mk Tryz.underlying3 (wf_i hk))
  obtain ⟨c, rfl, h4, h5⟩ := plainElem_int_inv Tryz.underlying3 h2
  have h6 := congrArg Prod.fst h4
  rw [h1, rowmap_val (hD k hk).1 (hD k hk).2 h6, (hD k hk).1]
set_option maxRecDepth 100000 in
/-- m[k] = v -/
theorem RowMapAt.put {w : World} {b n : Nat} {f : Int → Option Nat} (F : RowMapAt w b n f) (k : Int) (v : Nat) (hk : i64R k) (hv : v < 1000000) (hn : n < 1000000) :
    ∃ w', (Instr.mapUpdate 104 (.map (some b)) (.int .i64 k) (.int .i64 (v : Int))).run Tryz.prog w = .ok () w' ∧ RowMapAt w' b (n + 1) (fun j => if j = k then some v else f j) ∧ Keeps (· = b) w w' := by
  obtain ⟨D, h, hD⟩ := F
  obtain ⟨w', h1, h2, h3⟩ := h.update (t := 104) mapK Tryz.underlying104 (by unfold maxLen; omega) (Maps.keyOf_int_mk Tryz.underlying3 (wf_i hk)) (plainElem_int Tryz.underlying3 (wf_i (n := (v : Int)) ⟨by omega, by omega⟩))
  refine ⟨w', h1, ⟨_, h2, fun j hj => ?_⟩, (Keeps.refl _ w).grown h3 (fun q e _ => by injection e with e; exact e.symm)⟩
  by_cases e : j = k
  · subst e
    simp only [if_true]
    refine ⟨Maps.has_put_same h.isMap (key_lit _) _, fun u hu => ?_⟩
    rw [Maps.atKey_put_same h.isMap (key_lit _)]
    injection hu with hu
    rw [hu]
  · simp only [if_neg e]
    rw [Maps.has_put_other (lit_ne e), Maps.atKey_put_other (lit_ne e)]
    exact hD j hj
/-- the ranges of a maker -/
structure Ir.MkOk (m : Ir.Mk) : Prop where
  len : m.rows.length ≤ 200
  four : ∀ i, (m.rows.getD i []).length ≤ 4
  wr : ∀ n w, m.write n = some w → w < m.rows.length
  rd : ∀ n r, m.read n = some r → r < m.rows.length
  st : m.st ≤ m.rows.length
  ld : m.ld ≤ m.rows.length
  lv : m.leave ≤ m.rows.length
  fs : m.first ≤ m.rows.length
theorem Ir.Inv.ok {m : Ir.Mk} {l : List Ir.Op} (I : Ir.Inv m l) (h : l.length ≤ 200) : Ir.MkOk m where
  len := by
    have := Ir.flatten_len m.rows I.ne
    rw [I.perm.length_eq] at this
    omega
  four := I.four
  wr := fun n w h => (I.wrB n w h).1
  rd := I.rdB
  st := I.stB
  ld := I.ldB
  lv := I.lvB
  fs := I.fsB.1
/-- rows of the call's own, in blocks of their own each -/
def RowsDist (w : World) (B : Nat) (v : Value) (rows : List (List Ir.Op)) : Prop :=
  ∃ vs : List Value, vs.length = rows.length ∧ w.ownsRow B 23 1 v rows.length vs ∧ (∀ j, j < rows.length → OpsOwn w B (rows.getD j []) (vs.getD j (.slice none 0 0))) ∧
    ∀ i j, i < rows.length → j < rows.length → i ≠ j → ∀ g, (vs.getD i (.slice none 0 0)).ownBlock = some g → ¬ (vs.getD j (.slice none 0 0)).ownBlock = some g
theorem RowsDist.own {w : World} {B : Nat} {v : Value} {rows : List (List Ir.Op)} (h : RowsDist w B v rows) : RowsOwn w B v rows := by
  obtain ⟨vs, h1, h2, h3, _⟩ := h
  exact ⟨vs, h1, h2, h3⟩
theorem RowsDist.keep {S : Nat → Prop} {w w' : World} {B : Nat} {v : Value} {rows : List (List Ir.Op)} (h : RowsDist w B v rows) (k : Keeps S w w') (hs : ∀ g c t fz, w.heap[g]? = some (.cells c t fz) → (t = 23 ∨ t = 100) → B ≤ g → ¬ S g) : RowsDist w' B v rows := by
  obtain ⟨vs, h1, h2, h3, h4⟩ := h
  refine ⟨vs, h1, owns_keep h2 k (fun g hg => ?_), fun j hj => (h3 j hj).keepS k (fun g hg => ?_), h4⟩
  · obtain ⟨c, hc⟩ := owns_typed h2 hg
    exact hs g c _ _ hc (.inl rfl) (h2.lt g hg).1
  · obtain ⟨A, cap, e, ho⟩ := h3 j hj
    obtain ⟨c, hc⟩ := owns_typed ho hg
    exact hs g c _ _ hc (.inr rfl) (ho.lt g hg).1
theorem RowsDist.nil (w : World) (B : Nat) : RowsDist w B (.slice none 0 0) [] := ⟨[], rfl, World.ownsRow_nil _ _ _ _, fun j hj => absurd hj (by simp), fun i j hi => absurd hi (by simp)⟩
/-- a maker's cells -/
def mkC (v : Value) (bw br : Nat) (m : Ir.Mk) : Array Value := #[v, .map (some bw), .map (some br), .int .i64 ((m.st : Int) - 1), .int .i64 ((m.ld : Int) - 1), .int .i64 (m.leave : Int), .int .i64 (m.first : Int)]
/-- A MAKER LIES AT BLOCK x; all that is its own lies from B on -/
structure MakerAt (w : World) (B x bw br N : Nat) (v : Value) (m : Ir.Mk) : Prop where
  blk : w.heap[x]? = some (.cells (mkC v bw br m) 106 (0, 0))
  low : B ≤ x ∧ B ≤ bw ∧ B ≤ br ∧ bw ≠ br
  rows : RowsDist w B v m.rows
  wr : RowMapAt w bw N m.write
  rd : RowMapAt w br N m.read
theorem MakerAt.quiet {w w' : World} {B x bw br N : Nat} {v : Value} {m : Ir.Mk} (M : MakerAt w B x bw br N v m) (k : Keeps (fun _ => False) w w') : MakerAt w' B x bw br N v m :=
  ⟨(k.block x (Array.getElem?_eq_some_iff.1 M.blk).1 (fun h => h)).trans M.blk, M.low, M.rows.keep k (fun _ _ _ _ _ _ _ h => h), M.wr.keep k (fun h => h), M.rd.keep k (fun h => h)⟩
theorem MakerAt.cells {w : World} {B x bw br N : Nat} {v : Value} {m : Ir.Mk} (M : MakerAt w B x bw br N v m) :
    w.cell? ⟨x, 0, none⟩ = some v ∧ w.cell? ⟨x, 1, none⟩ = some (.map (some bw)) ∧ w.cell? ⟨x, 2, none⟩ = some (.map (some br)) ∧ w.cell? ⟨x, 3, none⟩ = some (.int .i64 ((m.st : Int) - 1)) ∧ w.cell? ⟨x, 4, none⟩ = some (.int .i64 ((m.ld : Int) - 1)) ∧
    w.cell? ⟨x, 5, none⟩ = some (.int .i64 (m.leave : Int)) ∧ w.cell? ⟨x, 6, none⟩ = some (.int .i64 (m.first : Int)) := by
  refine ⟨?_, ?_, ?_, ?_, ?_, ?_, ?_⟩ <;> (unfold World.cell?; rw [M.blk]; rfl)
theorem MakerAt.frozen {w : World} {B x bw br N : Nat} {v : Value} {m : Ir.Mk} (M : MakerAt w B x bw br N v m) (i : Nat) : w.frozen? ⟨x, i, none⟩ = false := frozen_of_block M.blk i
/-- none of its blocks is another one of its -/
theorem MakerAt.ne_map {w : World} {B x bw br N : Nat} {v : Value} {m : Ir.Mk} (M : MakerAt w B x bw br N v m) : x ≠ bw ∧ x ≠ br := by
  obtain ⟨es, c, h1⟩ := M.wr.blk
  obtain ⟨es2, c2, h2⟩ := M.rd.blk
  constructor
  · rintro rfl; rw [M.blk] at h1; injection h1 with h1; cases h1
  · rintro rfl; rw [M.blk] at h2; injection h2 with h2; cases h2
theorem maker_ne : 106 ≠ 23 ∧ 106 ≠ 100 := by decide
/-- some number cells of the maker turn -/
theorem MakerAt.turn {w w' : World} {B x bw br N : Nat} {v : Value} {m m' : Ir.Mk} (M : MakerAt w B x bw br N v m) (k : Keeps (· = x) w w') (hb : w'.heap[x]? = some (.cells (mkC v bw br m') 106 (0, 0)))
    (h1 : m'.rows = m.rows) (h2 : m'.write = m.write) (h3 : m'.read = m.read) : MakerAt w' B x bw br N v m' := by
  refine ⟨hb, M.low, ?_, ?_, ?_⟩
  · rw [h1]
    refine M.rows.keep k (fun g c t fz hg ht _ e => ?_)
    have e : g = x := e
    subst e
    rw [M.blk] at hg
    injection hg with hg
    injection hg with _ e2
    rcases ht with rfl | rfl
    · exact maker_ne.1 e2
    · exact maker_ne.2 e2
  · rw [h2]
    exact M.wr.keep k (fun e => M.ne_map.1 e.symm)
  · rw [h3]
    exact M.rd.keep k (fun e => M.ne_map.2 e.symm)
/-- the map of what is written turns -/
theorem MakerAt.turnW {w w' : World} {B x bw br N : Nat} {v : Value} {m : Ir.Mk} {f : Int → Option Nat} (M : MakerAt w B x bw br N v m) (k : Keeps (· = bw) w w') (hf : RowMapAt w' bw (N + 1) f) : MakerAt w' B x bw br (N + 1) v { m with write := f } := by
  obtain ⟨es, c, h1⟩ := M.wr.blk
  refine ⟨(k.block x (Array.getElem?_eq_some_iff.1 M.blk).1 M.ne_map.1).trans M.blk, M.low, M.rows.keep k (fun g c t fz hg ht _ e => ?_), hf, (M.rd.keep k (fun e => M.low.2.2.2 e.symm)).mono (by omega)⟩
  have e : g = bw := e
  subst e
  rw [h1] at hg
  injection hg with hg
  cases hg
/-- the map of what is read turns -/
theorem MakerAt.turnR {w w' : World} {B x bw br N : Nat} {v : Value} {m : Ir.Mk} {f : Int → Option Nat} (M : MakerAt w B x bw br N v m) (k : Keeps (· = br) w w') (hf : RowMapAt w' br (N + 1) f) : MakerAt w' B x bw br (N + 1) v { m with read := f } := by
  obtain ⟨es, c, h1⟩ := M.rd.blk
  refine ⟨(k.block x (Array.getElem?_eq_some_iff.1 M.blk).1 M.ne_map.2).trans M.blk, M.low, M.rows.keep k (fun g c t fz hg ht _ e => ?_), (M.wr.keep k (fun e => M.low.2.2.2 e)).mono (by omega), hf⟩
  have e : g = br := e
  subst e
  rw [h1] at hg
  injection hg with hg
  cases hg
end Go.Proofs.YtknhfobcejpmeaaGreatDoor

/- MakeFrom -/
/- The walk of a maker's from. -/
namespace Go.Proofs.YtknhfobcejpmeaaGreatDoor
open Go.RowKit Go.Deep
set_option linter.unusedVariables false
set_option linter.unusedSimpArgs false

namespace Ir
def frStep (f : Int → Option Nat) (k : Nat) (r : Int) : Nat := match f r with | some w => max k (w + 1) | none => k
theorem fromR_snoc (f : Int → Option Nat) (r : Int) : ∀ (l : List Int) (k : Nat), fromR f k (l ++ [r]) = frStep f (fromR f k l) r
  | [], k => rfl
  | a :: l, k => fromR_snoc f r l _
theorem fromR_step (f : Int → Option Nat) (l : List Int) (k i : Nat) (h : i < l.length) : fromR f k (l.take (i + 1)) = frStep f (fromR f k (l.take i)) (l.getD i 0) := by
  rw [List.take_succ_eq_append_getElem h, fromR_snoc]
  have : l.getD i 0 = l[i] := by simp [List.getD, h]
  rw [this]
theorem fromR_lim {f : Int → Option Nat} {L : Nat} (hf : ∀ n w, f n = some w → w < L) : ∀ (l : List Int) (k : Nat), k ≤ L → fromR f k l ≤ L
  | [], k, h => h
  | r :: t, k, h => by
    refine fromR_lim hf t _ ?_
    cases hw : f r with
    | none => exact h
    | some w => have := hf r w hw; dsimp only; omega
theorem fromW_lim {m : Mk} {L : Nat} (h1 : ∀ n w, m.write n = some w → w < L) (h2 : ∀ n w, m.read n = some w → w < L) (d : Int) {k : Nat} (h : k ≤ L) : fromW m d k ≤ L := by
  unfold fromW
  split
  · exact h
  · cases hw : m.write d with
    | none =>
      cases hr : m.read d with
      | none => exact h
      | some r => have := h2 _ r hr; dsimp only; omega
    | some w =>
      have := h1 _ w hw
      cases hr : m.read d with
      | none => exact Nat.max_le.2 ⟨h, by omega⟩
      | some r => have := h2 _ r hr; exact Nat.max_le.2 ⟨Nat.max_le.2 ⟨h, by omega⟩, by omega⟩
end Ir
theorem reads_rng {o : Ir.Op} (h : OpOk o) : ∀ r ∈ Ir.reads o, i64R r := by
  intro r hr
  unfold Ir.reads at hr
  rw [List.mem_append, List.mem_append] at hr
  rcases hr with (hr | hr) | hr
  · split at hr
    · rw [List.mem_singleton] at hr; subst hr; exact h.a
    · cases hr
  · split at hr
    · rw [List.mem_singleton] at hr; subst hr; exact h.b
    · cases hr
  · split at hr
    · rw [List.mem_singleton] at hr; subst hr; exact h.d
    · cases hr
theorem reads_get {o : Ir.Op} (h : OpOk o) (i : Nat) (hi : i < (Ir.reads o).length) : i64R ((Ir.reads o).getD i 0) := by
  have e : (Ir.reads o).getD i 0 = (Ir.reads o)[i] := by simp [List.getD, hi]
  rw [e]
  exact reads_rng h _ (List.getElem_mem hi)
theorem writes_rngD {o : Ir.Op} (h : OpOk o) : i64R (Ir.writes o) := by
  unfold Ir.writes
  split
  · exact h.d
  · exact ⟨by decide, by decide⟩
theorem fromK_c (m : Ir.Mk) (o : Ir.Op) : Ir.fromK m o = (if (Ir.kn o.k == 5) = true then max (Ir.fromW m (Ir.writes o) (Ir.fromR m.write m.first (Ir.reads o))) m.st else if (Ir.kn o.k == 6) = true then max (max (Ir.fromW m (Ir.writes o) (Ir.fromR m.write m.first (Ir.reads o))) m.st) (m.ld - 1)
    else if Ir.leaves (Ir.kn o.k) = true then max (Ir.fromW m (Ir.writes o) (Ir.fromR m.write m.first (Ir.reads o))) m.leave else Ir.fromW m (Ir.writes o) (Ir.fromR m.write m.first (Ir.reads o))) := by
  unfold Ir.fromK
  simp only [beq_iff_eq]
set_option maxHeartbeats 8000000 in
set_option maxRecDepth 100000 in
theorem from_any (B x bw br N : Nat) (v : Value) (m : Ir.Mk) (o : Ir.Op) (w : World) (M : MakerAt w B x bw br N v m) (hm : Ir.MkOk m) (ho : OpOk o) :
    Calls Tryz.prog 83 #[.pointer (some ⟨x, 0, none⟩), .agg (opC o)] w fun e w' => e = .returned (.int .i64 (Ir.fromK m o)) ∧ Keeps (fun _ => False) w w' := by
  have HM := Lib.hid M
  have HO := Lib.hid hm
  have HF := Lib.hid (fromK_c m o)
  have HRL := Lib.hid (Ir.fromR_lim (L := m.rows.length) hm.wr)
  have HWL := Lib.hid (fun (d : Int) k h => Ir.fromW_lim (m := m) (L := m.rows.length) hm.wr hm.rd d (k := k) h)
  have HGR := Lib.hid (reads_get ho)
  have HWR := Lib.hid (writes_rngD ho)
  have HRD := Lib.hid (fun w => Reads_any o w)
  have HWA := Lib.hid (fun w => writes_any o w)
  obtain ⟨L, hL⟩ : ∃ L, m.rows.length = L := ⟨_, rfl⟩
  have hL2 : L ≤ 200 := by rw [← hL]; exact hm.len
  have hst : m.st ≤ L := by rw [← hL]; exact hm.st
  have hld : m.ld ≤ L := by rw [← hL]; exact hm.ld
  have hlv : m.leave ≤ L := by rw [← hL]; exact hm.lv
  have hfs : m.first ≤ L := by rw [← hL]; exact hm.fs
  have HWB := Lib.hid (fun n w h => (show w < L by rw [← hL]; exact hm.wr n w h))
  have HRB := Lib.hid (fun n w h => (show w < L by rw [← hL]; exact hm.rd n w h))
  rw [hL] at HRL HWL
  obtain ⟨fk, hfk⟩ : ∃ k, Ir.fromK m o = k := ⟨_, rfl⟩
  rw [hfk] at HF ⊢
  obtain ⟨rs, hrs⟩ : ∃ l, Ir.reads o = l := ⟨_, rfl⟩
  rw [hrs] at HF HGR HRD
  obtain ⟨wd, hwd⟩ : ∃ l, Ir.writes o = l := ⟨_, rfl⟩
  rw [hwd] at HF HWR HWA
  clear hfk hrs hwd hm ho M
  obtain ⟨ok, od, oa, ob, oim, oat⟩ := o
  simp only at HF
  have k5 := is_load ok
  have k6 := is_store ok
  have HLV := Lib.hid (fun w => leaves_any ok w)
  generalize Ir.leaves (Ir.kn ok) = lv at *
  generalize (Ir.kn ok == 5) = p5 at *
  generalize (Ir.kn ok == 6) = p6 at *
  have HN := Lib.hid (op_new w ok od oa ob oim oat 100)
  have HL := Lib.hid hL
  clear hL
  unfold opC
  go_enter Tryz.func83, Tryz.ntmps83
  go_upto_region 1 with fail
  obtain ⟨hV, hK⟩ := HN.out
  have HK1 := Lib.hid hK
  have HV1 := Lib.hid hV
  generalize w.alloc _ = w1 at *
  generalize w.heap.size = y at *
  have hc6 := (HM.out.quiet HK1.out).cells.2.2.2.2.2.2
  obtain ⟨v0, v1, v2, v3, v4, v5⟩ := hV
  simp only at v0 v1 v2 v3 v4 v5
  clear hK HN
  go_wp2_with fail
  refine (HRD.out _).mono ?_
  rintro e w2 ⟨vr, rfl, hir, hk2⟩
  obtain ⟨RA, rn, rcap, rfl, hrn, hrc, hRD⟩ := hir
  have HK2 := Lib.hid (HK1.out.trans hk2 (fun _ _ h => h))
  have HV2 := Lib.hid (HV1.out.keep hk2 (fun h => h))
  have HRS := Lib.hid hRD
  have HRN := Lib.hid hrn
  have hrl : rn ≤ rcap := hRD.1
  clear hk2 v0 v1 v2 v3 v4 v5 hc6 hRD hrn
  go_wp2_with fail
  go_loopw [5, 22] (fun s5 s22 wr => ∃ i kk : Nat, i ≤ rn ∧ kk ≤ L ∧ s5 = .int .i64 kk ∧ s22 = .int .i64 i ∧ Ir.fromR m.write m.first (rs.take i) = kk ∧ Keeps (fun _ => False) w2 wr) (fun _ s22 _ => rn - (intOf s22).toNat)
  case atStart => exact ⟨0, m.first, by omega, hfs, rfl, rfl, rfl, Keeps.refl _ _⟩
  case round =>
    obtain ⟨i, kk, hi, hkk, rfl, rfl, hfr, hKi⟩ := hrel
    have HFR := Lib.hid hfr
    have HKI := Lib.hid hKi
    have HKT := Lib.hid (HK2.out.trans hKi (fun _ _ h => h))
    clear hfr hKi
    by_cases hlt : i < rn
    · have hil : i < rs.length := by rw [← HRN.out]; exact hlt
      have HST := Lib.hid (Ir.fromR_step m.write rs m.first i hil)
      have HRR := Lib.hid (HGR.out i hil)
      obtain ⟨rb, ro, rfl, hrc2⟩ : ∃ b o, RA = some ⟨b, o, none⟩ ∧ wr.cell? ⟨b, o + i, none⟩ = some (.int .i64 (rs.getD i 0)) := by
        obtain ⟨h1, h2 | ⟨b, o, h3, h4, h5⟩⟩ := HRS.out
        · omega
        · exact ⟨b, o, h3, HKI.out.cell' (h5 i hlt) (fun h => h)⟩
      obtain ⟨r, hr⟩ : ∃ r, rs.getD i 0 = r := ⟨_, rfl⟩
      rw [hr] at HST HRR hrc2
      clear hr hil
      have hc1 := (HM.out.quiet HKT.out).cells.2.1
      have hlk := (HM.out.quiet HKT.out).wr.look r HRR.out
      have HW1 := Lib.hid (HWB.out r)
      have hi63 : (i : Int) < rn := by omega
      unfold Ir.frStep at HST
      cases hf : m.write r with
      | none =>
        rw [hf] at hlk HST
        have HS2 := Lib.hid (show Ir.fromR m.write m.first (rs.take (i + 1)) = kk by rw [HST.out, HFR.out])
        clear HST HW1 hf
        simp only [Option.getD_none, Option.isSome_none] at hlk
        go_wp2_with fail
        go_roundw
        case rel => exact ⟨i + 1, kk, by omega, hkk, rfl, by go_num, HS2.out, HKI.out⟩
        case measure => simp [intOf]; omega
      | some wv =>
        rw [hf] at hlk HST
        have hwv : wv < L := HW1.out wv hf
        have HS2 := Lib.hid (show Ir.fromR m.write m.first (rs.take (i + 1)) = max kk (wv + 1) by rw [HST.out, HFR.out])
        clear HST HW1 hf
        simp only [Option.getD_some, Option.isSome_some] at hlk
        go_wp2_with fail
        all_goals
          go_roundw
          case rel => exact ⟨i + 1, max kk (wv + 1), by omega, by omega, by first | rfl | (congr 1; omega), by go_num, HS2.out, HKI.out⟩
          case measure => simp [intOf]; omega
    · obtain rfl : i = rn := by omega
      have HFB := Lib.hid (show Ir.fromR m.write m.first rs = kk by
        have := HFR.out
        rwa [List.take_of_length_le (by rw [← HRN.out]; exact Nat.le_refl _)] at this)
      clear HFR
      rw [HFB.out] at HF
      have HW2 := Lib.hid (HWL.out wd kk hkk)
      have HFW : Hid (Ir.fromW m wd kk = if wd = 0 then kk else match m.read wd with | some r => max (match m.write wd with | some w => max kk (w + 1) | none => kk) r | none => (match m.write wd with | some w => max kk (w + 1) | none => kk)) := Lib.hid rfl
      obtain ⟨kw, hkw⟩ : ∃ k, Ir.fromW m wd kk = k := ⟨_, rfl⟩
      rw [hkw] at HF HW2 HFW
      clear hkw
      obtain ⟨v0, v1, v2, v3, v4, v5⟩ := HV2.out.keep HKI.out (fun h => h)
      simp only at v0 v1 v2 v3 v4 v5
      generalize wr = w3 at *
      go_wp2_with fail
      refine (HWA.out _).mono ?_
      rintro e w4 ⟨rfl, hk4⟩
      have HK4 := Lib.hid (HKT.out.trans hk4 (fun _ _ h => h))
      have HV4 := Lib.hid ((HV2.out.keep HKI.out (fun h => h)).keep hk4 (fun h => h))
      clear hk4 v0 v1 v2 v3 v4 v5
      obtain ⟨-, hc1, hc2, hc3, hc4, hc5, -⟩ := (HM.out.quiet HK4.out).cells
      obtain ⟨v0, -, -, -, -, -⟩ := HV4.out
      simp only at v0
      have hkw200 : kw ≤ L := HW2.out
      go_upto_if 44 with (fail)
      go_cut [5] (fun s5 wx => s5 = .int .i64 (kw : Int) ∧ wx = w4)
      case first =>
        by_cases hw0 : wd = 0
        · have t1 : (wd != 0) = false := by simp [hw0]
          have HE := Lib.hid (show kw = kk by rw [HFW.out, if_pos hw0])
          clear hw0
          go_wp2_with fail
          go_meet
          exact ⟨by rw [HE.out], rfl⟩
        · have t1 : (wd != 0) = true := by simp [hw0]
          have HE := Lib.hid (show kw = match m.read wd with | some r => max (match m.write wd with | some w => max kk (w + 1) | none => kk) r | none => (match m.write wd with | some w => max kk (w + 1) | none => kk) by rw [HFW.out, if_neg hw0])
          have hl1 := (HM.out.quiet HK4.out).wr.look wd HWR.out
          have hl2 := (HM.out.quiet HK4.out).rd.look wd HWR.out
          have HB1 := Lib.hid (HWB.out wd)
          have HB2 := Lib.hid (HRB.out wd)
          clear hw0 HFW
          cases hf : m.write wd with
          | none =>
            cases hg : m.read wd with
            | none =>
              rw [hf] at hl1 HE
              rw [hg] at hl2 HE
              clear hf hg HB1 HB2
              simp only [Option.getD_none, Option.isSome_none] at hl1 hl2
              go_wp2_with fail
              go_meet
              exact ⟨by rw [HE.out], rfl⟩
            | some r =>
              have hr := HB2.out r hg
              rw [hf] at hl1 HE
              rw [hg] at hl2 HE
              clear hf hg HB1 HB2
              simp only [Option.getD_none, Option.isSome_none, Option.getD_some, Option.isSome_some] at hl1 hl2
              have HE2 := Lib.hid (show kw = max kk r from HE.out)
              go_wp2_with fail
              all_goals
                go_meet
                exact ⟨by rw [HE2.out]; first | rfl | (congr 1; omega), rfl⟩
          | some wv =>
            have hwv := HB1.out wv hf
            cases hg : m.read wd with
            | none =>
              rw [hf] at hl1 HE
              rw [hg] at hl2 HE
              clear hf hg HB1 HB2
              simp only [Option.getD_none, Option.isSome_none, Option.getD_some, Option.isSome_some] at hl1 hl2
              have HE2 := Lib.hid (show kw = max kk (wv + 1) from HE.out)
              go_wp2_with fail
              all_goals
                go_meet
                exact ⟨by rw [HE2.out]; first | rfl | (congr 1; omega), rfl⟩
            | some r =>
              have hr := HB2.out r hg
              rw [hf] at hl1 HE
              rw [hg] at hl2 HE
              clear hf hg HB1 HB2
              simp only [Option.getD_none, Option.isSome_none, Option.getD_some, Option.isSome_some] at hl1 hl2
              have HE2 := Lib.hid (show kw = max (max kk (wv + 1)) r from HE.out)
              go_wp2_with fail
              all_goals
                go_meet
                exact ⟨by rw [HE2.out]; first | rfl | (congr 1; omega), rfl⟩
      case rest =>
        obtain ⟨rfl, rfl⟩ := hcut
        clear HFW
        cases p5
        · have HF5 := Lib.hid (show fk = if p6 = true then max (max kw m.st) (m.ld - 1) else if lv = true then max kw m.leave else kw from HF)
          clear HF
          cases p6
          · have HF6 := Lib.hid (show fk = if lv = true then max kw m.leave else kw from HF5.out)
            clear HF5
            cases lv
            · have HE := Lib.hid (show fk = kw from HF6.out)
              go_wp2_with (go_at_call 87; refine (HLV.out _).mono ?_; rintro e w' ⟨rfl, rfl⟩)
              go_ret
              exact ⟨by rw [HE.out]; rfl, HK4.out⟩
            · have HE := Lib.hid (show fk = max kw m.leave from HF6.out)
              go_wp2_with (go_at_call 87; refine (HLV.out _).mono ?_; rintro e w' ⟨rfl, rfl⟩)
              all_goals
                go_ret
                exact ⟨by rw [HE.out]; first | rfl | (show Ending.returned (Value.int IntKind.i64 _) = _; congr 2; omega), HK4.out⟩
          · have HE := Lib.hid (show fk = max (max kw m.st) (m.ld - 1) from HF5.out)
            go_upto_region 20 with fail
            have hw1 : IntKind.i64.wrap ((m.st : Int) - 1 + 1) = (m.st : Int) := by rw [IntKind.wrap_i64]; omega
            go_quiet (fail)
            all_goals (try go_wp2_with fail)
            all_goals
              go_ret
              exact ⟨by rw [HE.out]; first | rfl | (show Ending.returned (Value.int IntKind.i64 _) = _; congr 2; omega), HK4.out.drewN _⟩
        · have HE := Lib.hid (show fk = max kw m.st from HF)
          go_wp2_with fail
          all_goals
            go_ret
            exact ⟨by rw [HE.out]; first | rfl | (show Ending.returned (Value.int IntKind.i64 _) = _; congr 2; omega), HK4.out⟩
end Go.Proofs.YtknhfobcejpmeaaGreatDoor
