import Derived.Test.YtknhfobcejpmeaaGreatDoorHrz19
import Derived.Test.YtknhfobcejpmeaaGreatDoorHrz05
import Derived.Test.YtknhfobcejpmeaaGreatDoorHrz13
import Derived.Deep.RegionHeld3
import Derived.Test.YtknhfobcejpmeaaGreatDoorHrz00
import Derived.Deep.QuietTactic
import Derived.Shelf.GgClosure.Gives
import Derived.Test.YtknhfobcejpmeaaGreatDoorHrz17
import Derived.Test.YtknhfobcejpmeaaGreatDoorHrz07

/- PlanRow0 -/
/- The walks of plan.class, room, final, counts; of slices.IndexFunc, ContainsFunc over ops. Printed by gen/planrow.py. -/
namespace Go.Proofs.YtknhfobcejpmeaaGreatDoor
open Go.RowKit Go.Deep
set_option linter.unusedVariables false
set_option linter.unusedSimpArgs false

theorem cls_c (o : Ir.Op) : Ir.cls o = if (Ir.kn o.k == 5 || Ir.kn o.k == 6) = true then 1 else if Ir.leaves (Ir.kn o.k) = true then 2 else 0 := by
  unfold Ir.cls
  simp
set_option maxHeartbeats 2000000 in
set_option maxRecDepth 100000 in
theorem class_any (o : Ir.Op) (w : World) :
    Calls Tryz.prog 123 #[.agg (opC o)] w fun e w' => e = .returned (.int .i64 (Ir.cls o)) ∧ Keeps (fun _ => False) w w' := by
  have hr := cls_c o
  obtain ⟨r, hr0⟩ : ∃ r, Ir.cls o = r := ⟨_, rfl⟩
  rw [hr0] at hr ⊢
  clear hr0
  obtain ⟨k, d, a, b, im, t⟩ := o
  simp only at hr
  have h5 := is_load k
  have h6 := is_store k
  have HS := Lib.hid (fun w => leaves_any k w)
  have HK := Lib.hid ((Keeps.refl (fun _ => False) w).alloc (.cells (opC ⟨k, d, a, b, im, t⟩) 100))
  simp only [opC] at HK
  generalize Ir.leaves (Ir.kn k) = lv at *
  generalize (Ir.kn k == 5) = p5 at *
  generalize (Ir.kn k == 6) = p6 at *
  unfold opC
  cases p5 <;> cases p6 <;> cases lv
  all_goals
    have HR := Lib.hid hr
    clear hr
    go_enter Tryz.func123, Tryz.ntmps123
    go_wp2_with (go_at_call 87; refine (HS.out _).mono ?_; rintro e w' ⟨rfl, rfl⟩)
    go_ret
    exact ⟨by rw [HR.out]; rfl, HK.out⟩
theorem room_any (c : Nat) (w : World) :
    Calls Tryz.prog 125 #[.int .i64 c] w fun e w' => e = .returned (.int .i64 (Ir.room c)) ∧ w = w' := by
  have hr : Ir.room c = if c = 0 then 3 else 1 := rfl
  obtain ⟨r, hr0⟩ : ∃ r, Ir.room c = r := ⟨_, rfl⟩
  rw [hr0] at hr ⊢
  clear hr0
  have HR := Lib.hid hr
  clear hr
  by_cases h : c = 0
  · have t1 : ((c : Int) == 0) = true := by simp [h]
    have HE := Lib.hid (show r = 3 by rw [HR.out, if_pos h])
    clear h
    go_enter Tryz.func125, Tryz.ntmps125
    go_wp2_with fail
    go_ret
    exact ⟨by rw [HE.out]; rfl, rfl⟩
  · have t1 : ((c : Int) == 0) = false := by simp; omega
    have HE := Lib.hid (show r = 1 by rw [HR.out, if_neg h])
    clear h
    go_enter Tryz.func125, Tryz.ntmps125
    go_wp2_with fail
    go_ret
    exact ⟨by rw [HE.out]; rfl, rfl⟩
theorem final_any (o : Ir.Op) (w : World) :
    Calls Tryz.prog 136 #[.agg (opC o)] w fun e w' => e = .returned (.bool (Ir.isOut (Ir.kn o.k))) ∧ Keeps (fun _ => False) w w' := by
  obtain ⟨k, d, a, b, im, t⟩ := o
  have h8 := is_out k
  have h9 := is_outr k
  have HK := Lib.hid ((Keeps.refl (fun _ => False) w).alloc (.cells #[.string k, .int .i64 d, .int .i64 a, .int .i64 b, .int .u32 im, .int .i64 t] 100))
  have HR : Hid (Ir.isOut (Ir.kn k) = (Ir.kn k == 8 || Ir.kn k == 9)) := Lib.hid (by unfold Ir.isOut; simp [Bool.decide_or, nat_beq])
  generalize Ir.isOut (Ir.kn k) = r at *
  cases e8 : (Ir.kn k == 8) <;> cases e9 : (Ir.kn k == 9)
  all_goals
    rw [e8] at h8 HR
    rw [e9] at h9 HR
    clear e8 e9
    obtain rfl := HR.out
    unfold opC
    go_enter Tryz.func136, Tryz.ntmps136
    go_wp2_with fail
    go_ret
    exact ⟨rfl, HK.out⟩
/-- three counts in an array of the call's own -/
structure ArrBox (w : World) (x : Nat) (c0 c1 c2 : Nat) : Prop where
  blk : w.heap[x]? = some (.cells #[.int .i64 c0, .int .i64 c1, .int .i64 c2] 202 (0, 0))
theorem ArrBox.lt {w : World} {x c0 c1 c2 : Nat} (h : ArrBox w x c0 c1 c2) : x < w.heap.size := (Array.getElem?_eq_some_iff.1 h.blk).1
theorem ArrBox.keep {S : Nat → Prop} {w w' : World} {x c0 c1 c2 : Nat} (h : ArrBox w x c0 c1 c2) (k : Keeps S w w') (hs : ¬ S x) : ArrBox w' x c0 c1 c2 := ⟨(k.block x h.lt hs).trans h.blk⟩
theorem ArrBox.cells {w : World} {x c0 c1 c2 : Nat} (h : ArrBox w x c0 c1 c2) :
    w.cell? ⟨x, 0, none⟩ = some (.int .i64 c0) ∧ w.cell? ⟨x, 1, none⟩ = some (.int .i64 c1) ∧ w.cell? ⟨x, 2, none⟩ = some (.int .i64 c2) ∧ w.frozen? ⟨x, 0, none⟩ = false ∧ w.frozen? ⟨x, 1, none⟩ = false ∧ w.frozen? ⟨x, 2, none⟩ = false := by
  refine ⟨?_, ?_, ?_, frozen_of_block h.blk 0, frozen_of_block h.blk 1, frozen_of_block h.blk 2⟩ <;> (unfold World.cell?; rw [h.blk]; rfl)
theorem ArrBox.new (w : World) : ArrBox (w.alloc (.cells #[.int .i64 0, .int .i64 0, .int .i64 0] 202)) w.heap.size 0 0 0 := ⟨blk_alloc_new _ _⟩
theorem ArrBox.up0 {w : World} {x c0 c1 c2 : Nat} (h : ArrBox w x c0 c1 c2) (v : Int) (hv : v = (c0 : Int) + 1) : ArrBox (w.setCell ⟨x, 0, none⟩ (.int .i64 v)) x (c0 + 1) c1 c2 := by
  refine ⟨?_⟩; rw [hv]; have h1 := set_block h.blk 0 (.int .i64 ((c0 : Int) + 1)); simpa using h1
theorem ArrBox.up1 {w : World} {x c0 c1 c2 : Nat} (h : ArrBox w x c0 c1 c2) (v : Int) (hv : v = (c1 : Int) + 1) : ArrBox (w.setCell ⟨x, 1, none⟩ (.int .i64 v)) x c0 (c1 + 1) c2 := by
  refine ⟨?_⟩; rw [hv]; have h1 := set_block h.blk 1 (.int .i64 ((c1 : Int) + 1)); simpa using h1
theorem ArrBox.up2 {w : World} {x c0 c1 c2 : Nat} (h : ArrBox w x c0 c1 c2) (v : Int) (hv : v = (c2 : Int) + 1) : ArrBox (w.setCell ⟨x, 2, none⟩ (.int .i64 v)) x c0 c1 (c2 + 1) := by
  refine ⟨?_⟩; rw [hv]; have h1 := set_block h.blk 2 (.int .i64 ((c2 : Int) + 1)); simpa using h1
theorem ArrBox.same {w : World} {x c0 c1 c2 : Nat} (h : ArrBox w x c0 c1 c2) : ArrBox (((w.setCell ⟨x, 0, none⟩ (.int .i64 c0)).setCell ⟨x, 1, none⟩ (.int .i64 c1)).setCell ⟨x, 2, none⟩ (.int .i64 c2)) x c0 c1 c2 := by
  refine ⟨?_⟩
  have h1 := set_block (set_block (set_block h.blk 0 (.int .i64 c0)) 1 (.int .i64 c1)) 2 (.int .i64 c2)
  simpa using h1
theorem size_arr3 : (Tryz.prog.info? 202).map (·.size) = some 3 := by kernel_rfl
set_option maxHeartbeats 4000000 in
set_option maxRecDepth 100000 in
theorem counts_any (A : Option Addr) (n cap : Nat) (l : List Ir.Op) (w : World) (V : OpsAt w A n cap l) (hc : cap ≤ 9223372036854775807) (hn : n ≤ 4) :
    Calls Tryz.prog 124 #[.slice A n cap] w fun e w' => e = .returned (.agg #[.int .i64 (Ir.cnt l 0), .int .i64 (Ir.cnt l 1), .int .i64 (Ir.cnt l 2)]) ∧ Keeps (fun _ => False) w w' := by
  have HV := Lib.hid V
  have HL := Lib.hid V.len
  have hnc := V.le
  have HB0 := Lib.hid (ArrBox.new w)
  have HK0 := Lib.hid ((Keeps.refl (fun _ => False) w).alloc (.cells #[.int .i64 0, .int .i64 0, .int .i64 0] 202))
  clear V
  go_enter Tryz.func124, Tryz.ntmps124
  go_upto_region 1 with fail
  obtain ⟨x, hx⟩ : ∃ x, w.heap.size = x := ⟨_, rfl⟩
  have HX := Lib.hid hx
  rw [hx] at HB0 ⊢
  clear hx
  generalize w.alloc _ = w1 at *
  go_wp2_with fail
  go_loopw [7] (fun s7 wr => ∃ i c0 c1 c2 : Nat, i ≤ n ∧ c0 ≤ i ∧ c1 ≤ i ∧ c2 ≤ i ∧ s7 = .int .i64 i ∧ (Ir.cnt (l.take i) 0 = c0 ∧ Ir.cnt (l.take i) 1 = c1 ∧ Ir.cnt (l.take i) 2 = c2) ∧ ArrBox wr x c0 c1 c2 ∧ Keeps (fun _ => False) w wr) (fun s7 _ => n - (intOf s7).toNat)
  case atStart => exact ⟨0, 0, 0, 0, by omega, by omega, by omega, by omega, rfl, ⟨rfl, rfl, rfl⟩, HB0.out, HK0.out⟩
  case round =>
    obtain ⟨i, c0, c1, c2, hi, h0, h1, h2, rfl, hS, hB, hK⟩ := hrel
    have HS := Lib.hid hS
    have HB := Lib.hid hB
    have HK := Lib.hid hK
    clear hS hB hK
    by_cases hlt : i < n
    · obtain ⟨ob0, oo0, rfl, e0, e1, e2, e3, e4, e5⟩ := (HV.out.quiet HK.out).get hlt
      have hil : i < l.length := by rw [HL.out]; exact hlt
      have hi63 : (i : Int) < n := by omega
      have HC0 := Lib.hid (cnt_step l i hil)
      obtain ⟨op, hop⟩ : ∃ op, l.getD i Ir.nop = op := ⟨_, rfl⟩
      rw [hop] at e0 e1 e2 e3 e4 e5 HC0
      clear hop hil
      have HCL := Lib.hid (cls_lt op)
      have HCO := Lib.hid (fun w => class_any op w)
      obtain ⟨cc, hcc⟩ : ∃ cc, Ir.cls op = cc := ⟨_, rfl⟩
      rw [hcc] at HCO HC0 HCL
      clear hcc
      obtain ⟨ok, od, oa, ob2, oim, oat⟩ := op
      have HN := Lib.hid (op_new wr ok od oa ob2 oim oat 100)
      simp only at e0 e1 e2 e3 e4 e5
      go_upto_region 4 with fail
      obtain ⟨hV, hK⟩ := HN.out
      have HKn := Lib.hid (HK.out.trans hK (fun _ _ h => h))
      have HBn := Lib.hid (HB.out.keep hK (fun h => h))
      generalize wr.alloc _ = w4 at *
      generalize wr.heap.size = y at *
      clear e0 e1 e2 e3 e4 e5 hK HN
      obtain ⟨v0, v1, v2, v3, v4, v5⟩ := hV
      simp only at v0 v1 v2 v3 v4 v5
      go_wp2_with fail
      refine (HCO.out _).mono ?_
      rintro e w5 ⟨rfl, hk5⟩
      have HK5 := Lib.hid (HKn.out.trans hk5 (fun _ _ h => h))
      have HB2 := Lib.hid (HBn.out.keep hk5 (fun h => h))
      clear hk5 v0 v1 v2 v3 v4 v5
      obtain ⟨r0, r1, r2, g0, g1, g2⟩ := HB2.out.cells
      have HLT : Hid (w.heap.size ≤ x) := Lib.hid (by rw [HX.out]; exact Nat.le_refl _)
      obtain rfl | rfl | rfl : cc = 0 ∨ cc = 1 ∨ cc = 2 := by have := HCL.out; omega
      · have hcw : IntKind.i64.wrap ((c0 : Int) + 1) = (c0 : Int) + 1 := by rw [IntKind.wrap_i64]; omega
        have HB6 := Lib.hid (HB2.out.up0 ((c0 : Int) + 1) rfl)
        have HK6 := Lib.hid (cntbox_keep (o := 0) (v := .int .i64 ((c0 : Int) + 1)) HK5.out HLT.out)
        go_wp2_with fail
        go_roundw
        case rel => exact ⟨i + 1, c0 + 1, c1, c2, by omega, by omega, by omega, by omega, by go_num, ⟨by rw [HC0.out, HS.out.1]; rfl, by rw [HC0.out, HS.out.2.1]; rfl, by rw [HC0.out, HS.out.2.2]; rfl⟩, HB6.out, HK6.out⟩
        case measure => simp [intOf]; omega
      · have hcw : IntKind.i64.wrap ((c1 : Int) + 1) = (c1 : Int) + 1 := by rw [IntKind.wrap_i64]; omega
        have HB6 := Lib.hid (HB2.out.up1 ((c1 : Int) + 1) rfl)
        have HK6 := Lib.hid (cntbox_keep (o := 1) (v := .int .i64 ((c1 : Int) + 1)) HK5.out HLT.out)
        go_wp2_with fail
        go_roundw
        case rel => exact ⟨i + 1, c0, c1 + 1, c2, by omega, by omega, by omega, by omega, by go_num, ⟨by rw [HC0.out, HS.out.1]; rfl, by rw [HC0.out, HS.out.2.1]; rfl, by rw [HC0.out, HS.out.2.2]; rfl⟩, HB6.out, HK6.out⟩
        case measure => simp [intOf]; omega
      · have hcw : IntKind.i64.wrap ((c2 : Int) + 1) = (c2 : Int) + 1 := by rw [IntKind.wrap_i64]; omega
        have HB6 := Lib.hid (HB2.out.up2 ((c2 : Int) + 1) rfl)
        have HK6 := Lib.hid (cntbox_keep (o := 2) (v := .int .i64 ((c2 : Int) + 1)) HK5.out HLT.out)
        go_wp2_with fail
        go_roundw
        case rel => exact ⟨i + 1, c0, c1, c2 + 1, by omega, by omega, by omega, by omega, by go_num, ⟨by rw [HC0.out, HS.out.1]; rfl, by rw [HC0.out, HS.out.2.1]; rfl, by rw [HC0.out, HS.out.2.2]; rfl⟩, HB6.out, HK6.out⟩
        case measure => simp [intOf]; omega
    · have hin : i = n := by omega
      have HT := Lib.hid (show Ir.cnt l 0 = c0 ∧ Ir.cnt l 1 = c1 ∧ Ir.cnt l 2 = c2 by
        have e : l.take i = l := List.take_of_length_le (by rw [HL.out]; omega)
        have h := HS.out
        rwa [e] at h)
      clear HS
      obtain ⟨r0, r1, r2, g0, g1, g2⟩ := HB.out.cells
      have HBS := Lib.hid HB.out.same
      have HLT : Hid (w.heap.size ≤ x) := Lib.hid (by rw [HX.out]; exact Nat.le_refl _)
      have HKS := Lib.hid (cntbox_keep (o := 2) (v := .int .i64 (c2 : Int)) (cntbox_keep (o := 1) (v := .int .i64 (c1 : Int)) (cntbox_keep (o := 0) (v := .int .i64 (c0 : Int)) HK.out HLT.out) HLT.out) HLT.out)
      subst hin
      go_wp2_with fail
      refine bodyPost_ret (results_cell_row rfl _ _ x 202 #[.int .i64 c0, .int .i64 c1, .int .i64 c2] (0, 0) _ rfl HBS.out.blk Tryz.underlying202 rfl size_arr3) rfl ⟨by rw [HT.out.1, HT.out.2.1, HT.out.2.2], HKS.out⟩
/-- where the first op stands of which p holds -/
def idxP (p : Ir.Op → Bool) : Nat → List Ir.Op → Int
  | _, [] => -1
  | i, o :: r => if p o = true then i else idxP p (i + 1) r
theorem idxP_at {p : Ir.Op → Bool} : ∀ (l : List Ir.Op) (s i : Nat), i < l.length → (∀ j, j < i → p (l.getD j Ir.nop) = false) → p (l.getD i Ir.nop) = true → idxP p s l = ((s + i : Nat) : Int)
  | [], s, i, h, _, _ => by simp at h
  | o :: r, s, 0, _, _, h => by
    have h2 : p o = true := h
    unfold idxP
    rw [if_pos h2]
    rfl
  | o :: r, s, i + 1, h, hj, hn => by
    have h0 : p o = false := hj 0 (by omega)
    unfold idxP
    rw [if_neg (by rw [h0]; decide), idxP_at r (s + 1) i (by simpa using h) (fun j hj' => hj (j + 1) (by omega)) hn]
    congr 1
    omega
theorem idxP_none {p : Ir.Op → Bool} : ∀ (l : List Ir.Op) (s : Nat), (∀ j, j < l.length → p (l.getD j Ir.nop) = false) → idxP p s l = -1
  | [], s, _ => rfl
  | o :: r, s, h => by
    have h0 : p o = false := h 0 (by simp)
    unfold idxP
    rw [if_neg (by rw [h0]; decide)]
    exact idxP_none r (s + 1) (fun j hj => h (j + 1) (by simpa using hj))
theorem idxP_any {p : Ir.Op → Bool} : ∀ (l : List Ir.Op) (s : Nat), decide (0 ≤ idxP p s l) = l.any p
  | [], s => rfl
  | o :: r, s => by
    unfold idxP
    rw [List.any_cons]
    cases h : p o with
    | true => rw [if_pos rfl, Bool.true_or, decide_eq_true (by omega)]
    | false => rw [if_neg (by decide), idxP_any r (s + 1), Bool.false_or]
theorem idxP_le {p : Ir.Op → Bool} : ∀ (l : List Ir.Op) (s : Nat), -1 ≤ idxP p s l ∧ idxP p s l < ((s + l.length : Nat) : Int) + 1
  | [], s => by unfold idxP; omega
  | o :: r, s => by
    unfold idxP
    split
    · rw [List.length_cons]; omega
    · have := idxP_le (p := p) r (s + 1)
      rw [List.length_cons]
      omega
/-- what is asked of a predicate over ops -/
def PredOp (g : Nat) (lb : Array Value) (p : Ir.Op → Bool) (w : World) : Prop :=
  ∀ (o : Ir.Op) (W : World), Keeps (fun _ => False) w W → Calls Tryz.prog g (#[.agg (opC o)] ++ lb) W fun e w' => e = .returned (.bool (p o)) ∧ Keeps (fun _ => False) W w'
theorem PredOp.quiet {g : Nat} {lb : Array Value} {p : Ir.Op → Bool} {w w' : World} (h : PredOp g lb p w) (k : Keeps (fun _ => False) w w') : PredOp g lb p w' := fun o W kw => h o W (k.trans kw (fun _ _ h => h))
set_option maxHeartbeats 4000000 in
set_option maxRecDepth 100000 in
theorem indexFunc_any (g : Nat) (lb : Array Value) (p : Ir.Op → Bool) (eg : ∀ args w, (callFunc g args).run Tryz.prog w = .ok (.enter g args) w) (A : Option Addr) (n cap : Nat) (l : List Ir.Op) (w : World) (V : OpsAt w A n cap l) (hc : cap ≤ 9223372036854775807) (hp : PredOp g lb p w) :
    Calls Tryz.prog 165 #[.slice A n cap, .func (.func g) #[] lb] w fun e w' => e = .returned (.int .i64 (idxP p 0 l)) ∧ Keeps (fun _ => False) w w' := by
  have HV := Lib.hid V
  have HL := Lib.hid V.len
  have HP := Lib.hid hp
  have hnc := V.le
  obtain ⟨r, hr⟩ : ∃ r, idxP p 0 l = r := ⟨_, rfl⟩
  rw [hr]
  have HR := Lib.hid hr
  clear V hp hr
  go_enter Tryz.func165, Tryz.ntmps165
  go_wp2_with fail
  go_loopw [5, 8] (fun _ s8 wr => ∃ i : Nat, i ≤ n ∧ s8 = .int .i64 i ∧ (∀ j, j < i → p (l.getD j Ir.nop) = false) ∧ Keeps (fun _ => False) w wr) (fun _ s8 _ => n - (intOf s8).toNat)
  case atStart => exact ⟨0, by omega, rfl, fun j hj => absurd hj (by omega), Keeps.refl _ _⟩
  case round =>
    obtain ⟨i, hi, rfl, hZ, hK⟩ := hrel
    have HZ := Lib.hid hZ
    have HK := Lib.hid hK
    clear hZ hK
    by_cases hlt : i < n
    · obtain ⟨ob, oo, rfl, e0, e1, e2, e3, e4, e5⟩ := (HV.out.quiet HK.out).get hlt
      have hil : i < l.length := by rw [HL.out]; exact hlt
      have hi63 : (i : Int) < n := by omega
      have HAT := Lib.hid (fun h => idxP_at (p := p) l 0 i hil HZ.out h)
      obtain ⟨op, hop⟩ : ∃ op, l.getD i Ir.nop = op := ⟨_, rfl⟩
      rw [hop] at e0 e1 e2 e3 e4 e5 HAT
      have HOP := Lib.hid hop
      clear hop hil
      have HCA := Lib.hid (HP.out op wr HK.out)
      obtain ⟨pv, hpv⟩ : ∃ b, p op = b := ⟨_, rfl⟩
      rw [hpv] at HCA HAT
      have HPV := Lib.hid hpv
      clear hpv
      obtain ⟨ok, od, oa, ob2, oim, oat⟩ := op
      simp only at e0 e1 e2 e3 e4 e5
      unfold opC at HCA
      go_wp2_with fail
      refine HCA.out.mono ?_
      rintro e w5 ⟨rfl, hk5⟩
      have HK5 := Lib.hid (HK.out.trans hk5 (fun _ _ h => h))
      clear hk5 e0 e1 e2 e3 e4 e5
      cases pv
      · have HZ2 := Lib.hid (show ∀ j, j < i + 1 → p (l.getD j Ir.nop) = false from fun j hj => by
          by_cases e : j = i
          · subst e; rw [HOP.out]; exact HPV.out
          · exact HZ.out j (by omega))
        go_wp2_with fail
        go_roundw
        case rel => exact ⟨i + 1, by omega, by go_num, HZ2.out, HK5.out⟩
        case measure => simp [intOf]; omega
      · have HE := Lib.hid (show r = (i : Int) by rw [← HR.out, HAT.out rfl, Nat.zero_add])
        go_wp2_with fail
        go_ret
        exact ⟨by rw [HE.out]; rfl, HK5.out⟩
    · have hin : i = n := by omega
      have HE := Lib.hid (show r = -1 by rw [← HR.out, idxP_none l 0 (fun j hj => HZ.out j (by rw [HL.out] at hj; omega))])
      subst hin
      go_wp2_with fail
      go_ret
      exact ⟨by rw [HE.out]; rfl, HK.out⟩
set_option maxRecDepth 100000 in
theorem containsFunc_any (g : Nat) (lb : Array Value) (p : Ir.Op → Bool) (eg : ∀ args w, (callFunc g args).run Tryz.prog w = .ok (.enter g args) w) (A : Option Addr) (n cap : Nat) (l : List Ir.Op) (w : World) (V : OpsAt w A n cap l) (hc : cap ≤ 9223372036854775807) (hp : PredOp g lb p w) :
    Calls Tryz.prog 134 #[.slice A n cap, .func (.func g) #[] lb] w fun e w' => e = .returned (.bool (l.any p)) ∧ Keeps (fun _ => False) w w' := by
  have HI := Lib.hid (fun w V hp => indexFunc_any g lb p eg A n cap l w V hc hp)
  have HV := Lib.hid V
  have HP := Lib.hid hp
  have hb := idxP_any (p := p) l 0
  obtain ⟨r, hr⟩ : ∃ r, idxP p 0 l = r := ⟨_, rfl⟩
  rw [hr] at HI hb
  obtain ⟨q, hq⟩ : ∃ q, l.any p = q := ⟨_, rfl⟩
  rw [hq] at hb ⊢
  clear V hp hr hq eg
  go_enter Tryz.func134, Tryz.ntmps134
  go_wp2_with fail
  refine (HI.out _ HV.out HP.out).mono ?_
  rintro e w5 ⟨rfl, hk5⟩
  go_wp2_with fail
  go_ret
  exact ⟨rfl, hk5⟩
end Go.Proofs.YtknhfobcejpmeaaGreatDoor

/- PlanRow -/
/- The walk of plan.row. Printed by gen/planrow.py. -/
namespace Go.Proofs.YtknhfobcejpmeaaGreatDoor
open Go.RowKit Go.Deep
set_option linter.unusedVariables false
set_option linter.unusedSimpArgs false

/-- the errors of a plan -/
structure ErrsR (w : World) (ea : Nat → Addr) : Prop where
  c : ErrsC w ea
  exist : w.cell? ⟨8, 0, none⟩ = some (.iface 275 (.pointer (some (ea 7))))
theorem ErrsR.quiet {w w' : World} {ea : Nat → Addr} (E : ErrsR w ea) (k : Keeps (fun _ => False) w w') : ErrsR w' ea := ⟨E.c.quiet k, k.cell' E.exist (fun h => h)⟩
theorem OpsAt.take {w : World} {A : Option Addr} {n cap : Nat} {l : List Ir.Op} (V : OpsAt w A n cap l) {i : Nat} (hi : i ≤ n) : OpsAt w A i cap (l.take i) := by
  obtain ⟨h1, h2, h3⟩ := V
  refine ⟨by rw [List.length_take, h1]; omega, by omega, ?_⟩
  rcases h3 with h3 | ⟨b, o, h4, h5, h6⟩
  · exact .inl h3
  · refine .inr ⟨b, o, h4, h5, fun j hj => ?_⟩
    have e : (l.take i).getD j Ir.nop = l.getD j Ir.nop := by
      rw [List.getD_eq_getElem?_getD, List.getElem?_take_of_lt hj, List.getD_eq_getElem?_getD]
    rw [e]
    exact h6 j (by omega)
namespace Ir
theorem writes_nn {o : Op} {many : Int} (h : opErr o many = 0) : 0 ≤ writes o := by
  have hle := kn_le o.k
  have hd : kn o.k = 1 ∨ kn o.k = 2 ∨ kn o.k = 5 ∨ 10 ≤ kn o.k → 1 ≤ o.d := by
    unfold opErr at h
    split at h
    · cases h
    rename_i hk
    split at h
    · cases h
    rename_i h2
    rw [Bool.not_eq_false] at h2
    simp only [Bool.and_eq_true, decide_eq_true_eq] at h2
    obtain ⟨⟨⟨hr, hb⟩, _⟩, _⟩ := h2
    unfold regs at hr
    simp only [Bool.and_eq_true, Bool.or_eq_true, decide_eq_true_eq, Bool.not_eq_true'] at hr
    unfold hasD hasA hasB at hr
    simp at hr
    intro h
    omega
  rcases (show kn o.k = 0 ∨ (kn o.k = 1 ∨ kn o.k = 2 ∨ kn o.k = 5 ∨ 10 ≤ kn o.k) ∨ (kn o.k = 3 ∨ kn o.k = 4 ∨ (6 ≤ kn o.k ∧ kn o.k ≤ 9)) by omega) with h0 | h1 | h1
  · unfold opErr at h
    rw [if_pos h0] at h
    cases h
  · rw [writes_d h1]
    have := hd h1
    omega
  · rw [writes_0 h1]
    omega
end Ir
theorem any_final (l : List Ir.Op) : l.any (fun o => Ir.isOut (Ir.kn o.k)) = decide (0 < Ir.outs l) := by
  unfold Ir.outs
  rw [Bool.eq_iff_iff, List.any_eq_true, decide_eq_true_eq, List.countP_pos_iff]
/-- does an op ahead write what op number i writes? -/
theorem any_dup (l : List Ir.Op) (i : Nat) (hi : i < l.length) (h0 : 0 < Ir.writes (l.getD i Ir.nop)) : (l.take i).any (fun o => Ir.writes o == Ir.writes (l.getD i Ir.nop)) = true ↔ ∃ k, k < i ∧ dupAt l i k := by
  rw [List.any_eq_true]
  constructor
  · rintro ⟨o, ho, he⟩
    obtain ⟨k, hk, rfl⟩ := List.getElem_of_mem ho
    rw [List.length_take] at hk
    refine ⟨k, by omega, h0, ?_⟩
    rw [List.getElem_take] at he
    have e : l.getD k Ir.nop = l[k] := by simp [List.getD, show k < l.length by omega]
    rw [e]
    exact (by simpa using he : _ = _).symm
  · rintro ⟨k, hk, _, he⟩
    refine ⟨l[k], ?_, ?_⟩
    · rw [List.mem_take_iff_getElem]
      exact ⟨k, by omega, rfl⟩
    · have e : l.getD k Ir.nop = l[k] := by simp [List.getD, show k < l.length by omega]
      rw [← e, he]
      simp
set_option maxHeartbeats 2000000 in
set_option maxRecDepth 100000 in
theorem rowDup_any (d : Int) (db : Nat) (w : World) (hc : w.cell? ⟨db, 0, none⟩ = some (.int .i64 d)) : PredOp 135 #[.pointer (some ⟨db, 0, none⟩)] (fun o => Ir.writes o == d) w := by
  intro o W hk
  show Calls Tryz.prog 135 #[.agg (opC o), .pointer (some ⟨db, 0, none⟩)] W _
  have hc2 := hk.cell' hc (fun h => h)
  clear hk hc
  have HWR := Lib.hid (fun w => writes_any o w)
  obtain ⟨x1, hx1⟩ : ∃ x1, Ir.writes o = x1 := ⟨_, rfl⟩
  rw [hx1] at HWR
  show Calls Tryz.prog _ _ W (fun e w' => e = .returned (.bool (Ir.writes o == d)) ∧ Keeps (fun _ => False) W w')
  rw [hx1]
  clear hx1
  obtain ⟨k, dd, a, b, im, t⟩ := o
  have HN := Lib.hid (op_new W k dd a b im t 100)
  have hd2 := cell_alloc hc2 (.cells #[.string k, .int .i64 dd, .int .i64 a, .int .i64 b, .int .u32 im, .int .i64 t] 100)
  clear hc2
  unfold opC
  go_enter Tryz.func135, Tryz.ntmps135
  go_upto_region 1 with fail
  obtain ⟨hV, hK⟩ := HN.out
  have HKn := Lib.hid hK
  generalize W.alloc _ = w1 at *
  generalize W.heap.size = y at *
  clear hK HN
  obtain ⟨v0, v1, v2, v3, v4, v5⟩ := hV
  simp only at v0 v1 v2 v3 v4 v5
  go_region_held3 (fun w' => Keeps (fun _ => False) w1 w' ∧ w'.cell? ⟨y, 0, none⟩ = some (.string k) ∧ w'.cell? ⟨y, 1, none⟩ = some (.int .i64 dd) ∧ w'.cell? ⟨y, 2, none⟩ = some (.int .i64 a) ∧ w'.cell? ⟨y, 3, none⟩ = some (.int .i64 b) ∧ w'.cell? ⟨y, 4, none⟩ = some (.int .u32 im) ∧ w'.cell? ⟨y, 5, none⟩ = some (.int .i64 t) ∧ w'.cell? ⟨db, 0, none⟩ = some (.int .i64 d))
    (first | (refine ⟨?_, ?_, ?_, ?_, ?_, ?_, ?_, ?_⟩ <;> first | ((repeat (first | exact Keeps.refl _ _ | assumption | apply Keeps.drew | apply Keeps.drewN | apply Keeps.alloc | (refine Keeps.trans ?_ (by assumption) (fun _ _ h => h)))); done) | (refine Keeps.cell' (S := fun _ => False) (w := w1) ?_ (by assumption) (fun f => f); (repeat (first | exact Keeps.refl _ _ | assumption | apply Keeps.drew | apply Keeps.drewN | apply Keeps.alloc | (refine Keeps.trans ?_ (by assumption) (fun _ _ h => h)))); done)) | (trace_state; fail))
    (first | (go_at_call 86; refine (HWR.out _).mono ?_; rintro e w8 ⟨rfl, hk8⟩))
  rename_i hh
  have HK2 := Lib.hid (HKn.out.trans hh.1 (fun _ _ h => h))
  clear hh v0 v1 v2 v3 v4 v5 hd2
  go_wp2_with fail
  go_ret
  exact ⟨rfl, HK2.out⟩
set_option maxHeartbeats 16000000 in
set_option maxRecDepth 100000 in
theorem planRow_any (many : Int) (last : Bool) (A : Option Addr) (n cap : Nat) (l : List Ir.Op) (w : World) (ea : Nat → Addr) (E : ErrsR w ea) (V : OpsAt w A n cap l) (hc : cap ≤ 9223372036854775807) :
    Calls Tryz.prog 96 #[.slice A n cap, .int .i64 many, .bool last] w fun e w' => e = .returned (errOf0 ea (Ir.rowErr many l last)) ∧ Keeps (fun _ => False) w w' := by
  have HEE := Lib.hid E
  have HV := Lib.hid V
  have HL := Lib.hid V.len
  have hnc := V.le
  have HR := Lib.hid (show Ir.rowErr many l last = (if n = 0 ∨ 4 < n then 3 else if Ir.opErrs many l ≠ 0 then Ir.opErrs many l
      else if 3 < Ir.cnt l 0 ∨ 1 < Ir.cnt l 1 ∨ 1 < Ir.cnt l 2 then 8 else if Ir.dupW l = true then 7 else if last ≠ decide (0 < Ir.outs l) then 3 else 0) by rw [← HL.out]; rfl)
  obtain ⟨re, hre⟩ : ∃ r, Ir.rowErr many l last = r := ⟨_, rfl⟩
  rw [hre] at HR ⊢
  clear V hre E
  by_cases h1 : n = 0 ∨ 4 < n
  · have HE := Lib.hid (show re = 3 by rw [HR.out, if_pos h1])
    have es := HEE.out.c.shape
    rcases h1 with h1 | h1
    · have t1 : ((n : Int) == 0) = true := by simp [h1]
      have H1 := Lib.hid h1
      clear h1
      go_enter Tryz.func96, Tryz.ntmps96
      go_wp2_with fail
      go_ret
      exact ⟨by rw [HE.out]; rfl, Keeps.refl _ _⟩
    · have t1 : ((n : Int) == 0) = false := by simp; omega
      have t2 : decide ((4 : Int) < (n : Int)) = true := decide_eq_true (by omega)
      clear h1
      go_enter Tryz.func96, Tryz.ntmps96
      go_wp2_with fail
      go_ret
      exact ⟨by rw [HE.out]; rfl, Keeps.refl _ _⟩
  have t1 : ((n : Int) == 0) = false := by simp; omega
  have t2 : decide ((4 : Int) < (n : Int)) = false := decide_eq_false (by omega)
  have hn4 : n ≤ 4 := by omega
  have HR1 := Lib.hid (show re = (if Ir.opErrs many l ≠ 0 then Ir.opErrs many l else if 3 < Ir.cnt l 0 ∨ 1 < Ir.cnt l 1 ∨ 1 < Ir.cnt l 2 then 8 else if Ir.dupW l = true then 7 else if last ≠ decide (0 < Ir.outs l) then 3 else 0) by rw [HR.out, if_neg h1])
  clear h1 HR
  go_enter Tryz.func96, Tryz.ntmps96
  go_wp2_with fail
  go_loopw [26] (fun s26 wr => ∃ i : Nat, i ≤ n ∧ s26 = .int .i64 i ∧ (∀ j, j < i → Ir.opErr (l.getD j Ir.nop) many = 0) ∧ Keeps (fun _ => False) w wr) (fun s26 _ => n - (intOf s26).toNat)
  case atStart => exact ⟨0, by omega, rfl, fun j hj => absurd hj (by omega), Keeps.refl _ _⟩
  case round =>
    obtain ⟨i, hi, rfl, hZ, hK⟩ := hrel
    have HZ := Lib.hid hZ
    have HK := Lib.hid hK
    clear hZ hK
    by_cases hlt : i < n
    · obtain ⟨ob, oo, rfl, e0, e1, e2, e3, e4, e5⟩ := (HV.out.quiet HK.out).get hlt
      have hil : i < l.length := by rw [HL.out]; exact hlt
      have HAT := Lib.hid (opErrs_at (many := many) l i hil HZ.out)
      have hi63 : (i : Int) < n := by omega
      obtain ⟨op, hop⟩ : ∃ op, l.getD i Ir.nop = op := ⟨_, rfl⟩
      rw [hop] at e0 e1 e2 e3 e4 e5 HAT
      have HOP := Lib.hid hop
      clear hop hil
      have HOE := Lib.hid (fun w E => checkOp_any op many w ea E)
      obtain ⟨c, hcc⟩ : ∃ c, Ir.opErr op many = c := ⟨_, rfl⟩
      rw [hcc] at HOE HAT
      have HCC := Lib.hid hcc
      clear hcc
      obtain ⟨ok, od, oa, ob2, oim, oat⟩ := op
      have HN := Lib.hid (op_new wr ok od oa ob2 oim oat 100)
      simp only at e0 e1 e2 e3 e4 e5
      go_upto_region 6 with fail
      obtain ⟨hV, hK⟩ := HN.out
      have HKn := Lib.hid (HK.out.trans hK (fun _ _ h => h))
      generalize wr.alloc _ = w4 at *
      generalize wr.heap.size = y at *
      clear e0 e1 e2 e3 e4 e5 hK HN
      obtain ⟨v0, v1, v2, v3, v4, v5⟩ := hV
      simp only at v0 v1 v2 v3 v4 v5
      go_wp2_with fail
      refine (HOE.out _ (HEE.out.c.quiet HKn.out)).mono ?_
      rintro e w5 ⟨rfl, hk5⟩
      have HK5 := Lib.hid (HKn.out.trans hk5 (fun _ _ h => h))
      clear hk5 v0 v1 v2 v3 v4 v5
      by_cases hc0 : c = 0
      · subst hc0
        rw [show errOf0 ea 0 = .nilIface from rfl]
        have HZ1 := Lib.hid (show ∀ j, j < i + 1 → Ir.opErr (l.getD j Ir.nop) many = 0 from fun j hj => by
          by_cases hji : j < i
          · exact HZ.out j hji
          · obtain rfl : j = i := by omega
            rw [HOP.out, HCC.out])
        go_wp2_with fail
        go_roundw
        case rel => exact ⟨i + 1, by omega, by go_num, HZ1.out, HK5.out⟩
        case measure => simp [intOf]; omega
      · have HE := Lib.hid (show re = c by rw [HR1.out, HAT.out hc0, if_pos hc0])
        rw [show errOf0 ea c = .iface 275 (.pointer (some (ea c))) from if_neg hc0]
        have HC0 := Lib.hid hc0
        clear hc0
        go_wp2_with fail
        go_ret
        exact ⟨by rw [HE.out, show errOf0 ea c = errV ea c from if_neg HC0.out]; rfl, HK5.out⟩
    · obtain rfl : i = n := by omega
      have HR2 := Lib.hid (show re = (if 3 < Ir.cnt l 0 ∨ 1 < Ir.cnt l 1 ∨ 1 < Ir.cnt l 2 then 8 else if Ir.dupW l = true then 7 else if last ≠ decide (0 < Ir.outs l) then 3 else 0) by
        rw [HR1.out, opErrs_all (fun j hj => HZ.out j (by rw [← HL.out]; exact hj)), if_neg (by decide)])
      have HNN := Lib.hid (fun j (hj : j < i) => Ir.writes_nn (HZ.out j hj))
      clear HZ HR1
      generalize i = n at *
      generalize wr = w3 at *
      have HCN := Lib.hid (fun w V => counts_any A n cap l w V hc hn4)
      obtain ⟨c0, hc0⟩ : ∃ c, Ir.cnt l 0 = c := ⟨_, rfl⟩
      obtain ⟨c1, hc1⟩ : ∃ c, Ir.cnt l 1 = c := ⟨_, rfl⟩
      obtain ⟨c2, hc2⟩ : ∃ c, Ir.cnt l 2 = c := ⟨_, rfl⟩
      rw [hc0, hc1, hc2] at HCN HR2
      clear hc0 hc1 hc2
      have i0 : ∀ w, (Instr.index 202 (.agg #[.int .i64 (c0 : Int), .int .i64 (c1 : Int), .int .i64 (c2 : Int)]) (.int .i64 0)).run Tryz.prog w = .ok (.int .i64 (c0 : Int)) w := fun _ => by kernel_rfl
      have i1 : ∀ w, (Instr.index 202 (.agg #[.int .i64 (c0 : Int), .int .i64 (c1 : Int), .int .i64 (c2 : Int)]) (.int .i64 1)).run Tryz.prog w = .ok (.int .i64 (c1 : Int)) w := fun _ => by kernel_rfl
      have i2 : ∀ w, (Instr.index 202 (.agg #[.int .i64 (c0 : Int), .int .i64 (c1 : Int), .int .i64 (c2 : Int)]) (.int .i64 2)).run Tryz.prog w = .ok (.int .i64 (c2 : Int)) w := fun _ => by kernel_rfl
      go_wp2_with fail
      refine (HCN.out _ (HV.out.quiet HK.out)).mono ?_
      rintro e w4 ⟨rfl, hk4⟩
      have HK4 := Lib.hid (HK.out.trans hk4 (fun _ _ h => h))
      clear hk4 HK HCN
      go_wp2_with fail
      go_loopw [39] (fun s39 wr => ∃ i : Nat, i ≤ 3 ∧ s39 = .int .i64 i ∧ (0 < i → c0 ≤ 3) ∧ (1 < i → c1 ≤ 1) ∧ (2 < i → c2 ≤ 1) ∧ Keeps (fun _ => False) w wr) (fun s39 _ => 3 - (intOf s39).toNat)
      case atStart => exact ⟨0, by omega, rfl, fun h => by omega, fun h => by omega, fun h => by omega, HK4.out⟩
      case round =>
        obtain ⟨i, hi, rfl, hz0, hz1, hz2, hK⟩ := hrel
        have HK := Lib.hid hK
        have HZ0 := Lib.hid hz0
        have HZ1 := Lib.hid hz1
        have HZ2 := Lib.hid hz2
        clear hK hz0 hz1 hz2 HK4
        obtain rfl | rfl | rfl | rfl : i = 0 ∨ i = 1 ∨ i = 2 ∨ i = 3 := by omega
        · have HRM : Hid (∀ w, Calls Tryz.prog 125 #[.int .i64 0] w fun e w' => e = .returned (.int .i64 3) ∧ w = w') := Lib.hid (fun w => room_any 0 w)
          by_cases h : 3 < c0
          · have t3 : decide ((3 : Int) < (c0 : Int)) = true := decide_eq_true (by omega)
            have HE := Lib.hid (show re = 8 by rw [HR2.out, if_pos (.inl h)])
            have es := (HEE.out.quiet HK.out).c.full
            clear h
            go_wp2_with fail
            refine (HRM.out _).mono ?_
            rintro e w6 ⟨rfl, rfl⟩
            go_wp2_with fail
            go_ret
            exact ⟨by rw [HE.out]; rfl, HK.out⟩
          · have t3 : decide ((3 : Int) < (c0 : Int)) = false := decide_eq_false (by omega)
            have HLE : Hid (c0 ≤ 3) := Lib.hid (by omega)
            clear h
            go_wp2_with fail
            refine (HRM.out _).mono ?_
            rintro e w6 ⟨rfl, rfl⟩
            go_wp2_with fail
            go_roundw
            case rel => exact ⟨1, by omega, by go_num, fun _ => HLE.out, fun h => absurd h (by omega), fun h => absurd h (by omega), HK.out⟩
            case measure => simp [intOf]
        · have HRM : Hid (∀ w, Calls Tryz.prog 125 #[.int .i64 1] w fun e w' => e = .returned (.int .i64 1) ∧ w = w') := Lib.hid (fun w => room_any 1 w)
          by_cases h : 1 < c1
          · have t3 : decide ((1 : Int) < (c1 : Int)) = true := decide_eq_true (by omega)
            have HE := Lib.hid (show re = 8 by rw [HR2.out, if_pos (.inr (.inl h))])
            have es := (HEE.out.quiet HK.out).c.full
            clear h
            go_wp2_with fail
            refine (HRM.out _).mono ?_
            rintro e w6 ⟨rfl, rfl⟩
            go_wp2_with fail
            go_ret
            exact ⟨by rw [HE.out]; rfl, HK.out⟩
          · have t3 : decide ((1 : Int) < (c1 : Int)) = false := decide_eq_false (by omega)
            have HLE : Hid (c1 ≤ 1) := Lib.hid (by omega)
            clear h
            go_wp2_with fail
            refine (HRM.out _).mono ?_
            rintro e w6 ⟨rfl, rfl⟩
            go_wp2_with fail
            go_roundw
            case rel => exact ⟨2, by omega, by go_num, fun h => HZ0.out (by omega), fun _ => HLE.out, fun h => absurd h (by omega), HK.out⟩
            case measure => simp [intOf]
        · have HRM : Hid (∀ w, Calls Tryz.prog 125 #[.int .i64 2] w fun e w' => e = .returned (.int .i64 1) ∧ w = w') := Lib.hid (fun w => room_any 2 w)
          by_cases h : 1 < c2
          · have t3 : decide ((1 : Int) < (c2 : Int)) = true := decide_eq_true (by omega)
            have HE := Lib.hid (show re = 8 by rw [HR2.out, if_pos (.inr (.inr h))])
            have es := (HEE.out.quiet HK.out).c.full
            clear h
            go_wp2_with fail
            refine (HRM.out _).mono ?_
            rintro e w6 ⟨rfl, rfl⟩
            go_wp2_with fail
            go_ret
            exact ⟨by rw [HE.out]; rfl, HK.out⟩
          · have t3 : decide ((1 : Int) < (c2 : Int)) = false := decide_eq_false (by omega)
            have HLE : Hid (c2 ≤ 1) := Lib.hid (by omega)
            clear h
            go_wp2_with fail
            refine (HRM.out _).mono ?_
            rintro e w6 ⟨rfl, rfl⟩
            go_wp2_with fail
            go_roundw
            case rel => exact ⟨3, by omega, by go_num, fun h => HZ0.out (by omega), fun h => HZ1.out (by omega), fun _ => HLE.out, HK.out⟩
            case measure => simp [intOf]
        · have hc0 := HZ0.out (by omega)
          have hc1 := HZ1.out (by omega)
          have hc2 := HZ2.out (by omega)
          have HR4 := Lib.hid (show re = (if Ir.dupW l = true then 7 else if last ≠ decide (0 < Ir.outs l) then 3 else 0) by
            rw [HR2.out, if_neg (by omega)])
          have HKB := Lib.hid HK.out
          clear HR2 hc0 hc1 hc2 HZ0 HZ1 HZ2 HK i0 i1 i2
          rw [show ((3 : Nat) : Int) = 3 from rfl]
          go_wp2_with fail
          go_loopw [51] (fun s51 wr => ∃ i : Nat, i ≤ n ∧ s51 = .int .i64 i ∧ (∀ a k, k < a → a < i → ¬ dupAt l a k) ∧ Keeps (fun _ => False) w wr) (fun s51 _ => n - (intOf s51).toNat)
          case atStart => exact ⟨0, by omega, rfl, fun a k h1 h2 => absurd h2 (by omega), HKB.out⟩
          case round =>
            obtain ⟨i, hi, rfl, hZ, hK⟩ := hrel
            have HZ := Lib.hid hZ
            have HK := Lib.hid hK
            clear hZ hK HKB
            by_cases hlt : i < n
            · obtain ⟨ob, oo, rfl, e0, e1, e2, e3, e4, e5⟩ := (HV.out.quiet HK.out).get hlt
              have hil : i < l.length := by rw [HL.out]; exact hlt
              have hi63 : (i : Int) < n := by omega
              have HNI := Lib.hid (HNN.out i hlt)
              have HAD := Lib.hid (fun h => any_dup l i hil h)
              obtain ⟨op, hop⟩ : ∃ op, l.getD i Ir.nop = op := ⟨_, rfl⟩
              rw [hop] at e0 e1 e2 e3 e4 e5 HNI HAD
              have HOP := Lib.hid hop
              clear hop
              have HWR := Lib.hid (fun w => writes_any op w)
              obtain ⟨x1, hx1⟩ : ∃ x1, Ir.writes op = x1 := ⟨_, rfl⟩
              rw [hx1] at HWR HNI HAD
              have HX1 := Lib.hid hx1
              have HIL := Lib.hid hil
              clear hx1 hil
              obtain ⟨ok, od, oa, ob2, oim, oat⟩ := op
              have HN := Lib.hid (op_new wr ok od oa ob2 oim oat 100)
              simp only at e0 e1 e2 e3 e4 e5
              go_upto_region 19 with fail
              obtain ⟨hV, hK⟩ := HN.out
              have HKn := Lib.hid (HK.out.trans hK (fun _ _ h => h))
              generalize wr.alloc _ = w5 at *
              generalize wr.heap.size = y at *
              clear e0 e1 e2 e3 e4 e5 hK HN
              obtain ⟨v0, v1, v2, v3, v4, v5⟩ := hV
              simp only at v0 v1 v2 v3 v4 v5
              go_wp2_with fail
              refine (HWR.out _).mono ?_
              rintro e w6 ⟨rfl, hk6⟩
              have HK6 := Lib.hid (HKn.out.trans hk6 (fun _ _ h => h))
              clear hk6 v0 v1 v2 v3 v4 v5
              go_upto_region 20 with fail
              have HDB := Lib.hid (show (w6.alloc (.cells #[.int .i64 x1] 3)).cell? ⟨w6.heap.size, 0, none⟩ = some (.int .i64 x1) by unfold World.cell?; rw [blk_alloc_new]; rfl)
              have HK7 := Lib.hid (HK6.out.alloc (.cells #[.int .i64 x1] 3))
              generalize w6.alloc _ = w7 at *
              generalize w6.heap.size = db at *
              have hdb := HDB.out
              by_cases hx0 : x1 = 0
              · have t7 : (x1 != 0) = false := by simp [hx0]
                have HND := Lib.hid (show ∀ a k, k < a → a < i + 1 → ¬ dupAt l a k from fun a k h1 h2 hd => by
                  by_cases e : a = i
                  · subst e
                    have := hd.1
                    rw [HOP.out, HX1.out] at this
                    omega
                  · exact HZ.out a k h1 (by omega) hd)
                clear hx0
                go_wp2_with fail
                go_roundw
                case rel => exact ⟨i + 1, by omega, by go_num, HND.out, HK7.out⟩
                case measure => simp [intOf]; omega
              · have t7 : (x1 != 0) = true := by simp [hx0]
                have HP := Lib.hid (rowDup_any x1 db w7 hdb)
                have hpos : 0 < x1 := by have := HNI.out; omega
                have HIF := Lib.hid (HAD.out hpos)
                have hic : i ≤ cap := by omega
                have HCF := Lib.hid (fun w V hp => containsFunc_any 135 #[.pointer (some ⟨db, 0, none⟩)] (fun o => Ir.writes o == x1) (enters_of Tryz.func135 (by kernel_rfl) rfl) (some ⟨ob, oo, none⟩) i cap (l.take i) w V hc hp)
                obtain ⟨q, hq⟩ : ∃ q, (l.take i).any (fun o => Ir.writes o == x1) = q := ⟨_, rfl⟩
                rw [hq] at HCF HIF
                clear hx0 hpos hq
                go_wp2_with fail
                refine (HCF.out _ ((HV.out.quiet HK7.out).take hi) HP.out).mono ?_
                rintro e w8 ⟨rfl, hk8⟩
                have HK8 := Lib.hid (HK7.out.trans hk8 (fun _ _ h => h))
                have es := (HEE.out.quiet HK8.out).exist
                clear hk8 hdb HDB
                cases q
                · have HND := Lib.hid (show ∀ a k, k < a → a < i + 1 → ¬ dupAt l a k from fun a k h1 h2 hd => by
                    by_cases e : a = i
                    · subst e
                      have := HIF.out.2 ⟨k, h1, hd⟩
                      cases this
                    · exact HZ.out a k h1 (by omega) hd)
                  go_wp2_with fail
                  go_roundw
                  case rel => exact ⟨i + 1, by omega, by go_num, HND.out, HK8.out⟩
                  case measure => simp [intOf]; omega
                · have HE := Lib.hid (show re = 7 by
                    obtain ⟨k, hk, hd⟩ := HIF.out.1 rfl
                    rw [HR4.out, if_pos ((dupW_iff l).2 ⟨i, k, hk, HIL.out, hd⟩)])
                  go_wp2_with fail
                  go_ret
                  exact ⟨by rw [HE.out]; rfl, HK8.out⟩
            · have hin : i = n := by omega
              have HR5 := Lib.hid (show re = (if last ≠ decide (0 < Ir.outs l) then 3 else 0) by
                rw [HR4.out, if_neg (fun h => by
                  obtain ⟨a, k, h1, h2, h3⟩ := (dupW_iff l).1 h
                  exact HZ.out a k h1 (by rw [← HL.out] at hin; omega) h3)])
              clear HR4 HZ
              subst hin
              have HCF := Lib.hid (fun w V hp => containsFunc_any 136 #[] (fun o => Ir.isOut (Ir.kn o.k)) (enters_of Tryz.func136 (by kernel_rfl) rfl) A i cap l w V hc hp)
              have HPF := Lib.hid (fun w => (show PredOp 136 #[] (fun o => Ir.isOut (Ir.kn o.k)) w from fun o W _ => final_any o W))
              rw [any_final] at HCF
              obtain ⟨q, hq⟩ : ∃ q, decide (0 < Ir.outs l) = q := ⟨_, rfl⟩
              rw [hq] at HCF HR5
              clear hq
              go_wp2_with fail
              refine (HCF.out _ (HV.out.quiet HK.out) (HPF.out _)).mono ?_
              rintro e w8 ⟨rfl, hk8⟩
              have HK8 := Lib.hid (HK.out.trans hk8 (fun _ _ h => h))
              have es := (HEE.out.quiet HK8.out).c.shape
              clear hk8
              cases q <;> cases last
              all_goals
                have HE := Lib.hid HR5.out
                clear HR5
                go_wp2_with fail
                go_ret
                exact ⟨by rw [HE.out]; rfl, HK8.out⟩
end Go.Proofs.YtknhfobcejpmeaaGreatDoor

/- PlanCheck -/
/- The walk of plan.Check: what it answers is Ir.planFault. -/
namespace Go.Proofs.YtknhfobcejpmeaaGreatDoor
open Go.RowKit Go.Deep
set_option linter.unusedVariables false
set_option linter.unusedSimpArgs false

set_option maxHeartbeats 8000000 in
set_option maxRecDepth 100000 in
theorem planCheck_any (pc many : Int) (A : Option Addr) (n cap : Nat) (rows : List (List Ir.Op)) (w : World) (ea : Nat → Addr) (E : ErrsR w ea) (V : RowsAt w A n cap rows) (hc : cap ≤ 9223372036854775807) :
    Calls Tryz.prog 56 #[.agg #[.int .u32 pc, .int .i64 many, .slice A n cap]] w fun e w' => (∃ v, e = .returned v ∧ FaultIs w' ea (Ir.planFault many rows) v) ∧ Keeps (fun _ => False) w w' := by
  have HE := Lib.hid E
  have HV := Lib.hid V
  have hnc := V.le
  have HL := Lib.hid V.len
  have HN := Lib.hid (code_new w pc many A n cap 35)
  have HF := Lib.hid (show Ir.planFault many rows = ((if many < 1 ∨ 24 < many then (2, -1) else if 200 < n then (8, -1) else if n = 0 then (3, -1)
      else match Ir.rowsErr many rows.length 0 rows with | some (c, i) => (c, (i : Int)) | none => if 8 < Ir.planStores rows then (8, -1) else (0, -1)) : Nat × Int) by rw [← HL.out]; rfl)
  obtain ⟨f, hf⟩ : ∃ f, Ir.planFault many rows = f := ⟨_, rfl⟩
  rw [hf] at HF ⊢
  clear hf V E
  go_enter Tryz.func56, Tryz.ntmps56
  go_upto_region 1 with fail
  obtain ⟨hV, hK⟩ := HN.out
  generalize w.alloc _ = w1 at *
  generalize w.heap.size = x at *
  have HC1 := Lib.hid hV
  have HK1 := Lib.hid hK
  obtain ⟨c0, c1, c2⟩ := hV
  have gb := (HE.out.quiet hK).c.bound
  have gs := (HE.out.quiet hK).c.shape
  have gf := (HE.out.quiet hK).c.full
  clear hK HN
  by_cases h1 : many < 1
  · have HR := Lib.hid (show f = (2, -1) by rw [HF.out, if_pos (.inl h1)])
    have h1' : decide (many < 1) = true := decide_eq_true h1
    clear h1
    go_wp2_with fail
    go_ret
    exact ⟨⟨_, rfl, FaultIs.bare HR.out (by decide)⟩, HK1.out⟩
  by_cases h2 : 24 < many
  · have HR := Lib.hid (show f = (2, -1) by rw [HF.out, if_pos (.inr h2)])
    have h1' : decide (many < 1) = false := decide_eq_false h1
    have h2' : decide (24 < many) = true := decide_eq_true h2
    clear h1 h2
    go_wp2_with fail
    go_ret
    exact ⟨⟨_, rfl, FaultIs.bare HR.out (by decide)⟩, HK1.out⟩
  have h12 : ¬ (many < 1 ∨ 24 < many) := by omega
  have h1' : decide (many < 1) = false := decide_eq_false h1
  have h2' : decide (24 < many) = false := decide_eq_false h2
  clear h1 h2
  by_cases h3 : 200 < n
  · have HR := Lib.hid (show f = (8, -1) by rw [HF.out, if_neg h12, if_pos h3])
    have h3' : decide ((200 : Int) < (n : Int)) = true := decide_eq_true (by omega)
    clear h12 h3
    go_wp2_with fail
    go_ret
    exact ⟨⟨_, rfl, FaultIs.bare HR.out (by decide)⟩, HK1.out⟩
  have h3' : decide ((200 : Int) < (n : Int)) = false := decide_eq_false (by omega)
  by_cases h4 : n = 0
  · have HR := Lib.hid (show f = (3, -1) by rw [HF.out, if_neg h12, if_neg h3, if_pos h4])
    have h4' : ((n : Int) == 0) = true := by simp [h4]
    have H4 := Lib.hid h4
    clear h12 h3 h4
    go_wp2_with fail
    go_ret
    exact ⟨⟨_, rfl, FaultIs.bare HR.out (by decide)⟩, HK1.out⟩
  have h4' : ((n : Int) == 0) = false := by simp [h4]
  have HF2 := Lib.hid (show f = match Ir.rowsErr many rows.length 0 rows with | some (c, i) => (c, (i : Int)) | none => if 8 < Ir.planStores rows then (8, -1) else (0, -1) by rw [HF.out, if_neg h12, if_neg h3, if_neg h4])
  have hn200 : n ≤ 200 := by omega
  obtain ⟨m, hm⟩ : ∃ m, m + 1 = n := ⟨n - 1, by omega⟩
  have hw1 : IntKind.i64.wrap ((n : Int) - 1) = (m : Int) := by rw [IntKind.wrap_i64]; omega
  have hm1 : (0 : Int) ≤ (m : Int) := by omega
  have HM := Lib.hid hm
  clear hm h12 h3 h4 gb gs gf
  go_wp2_with fail
  clear c0 c1 c2
  go_loopw [31] (fun s31 wr => ∃ i : Nat, i ≤ n ∧ s31 = .int .i64 i ∧ (∀ j, j < i → Ir.rowErr many (rows.getD j []) (decide (j + 1 = rows.length)) = 0) ∧ Keeps (fun _ => False) w1 wr) (fun s31 _ => n - (intOf s31).toNat)
  case atStart => exact ⟨0, by omega, rfl, fun j hj => absurd hj (Nat.not_lt_zero _), Keeps.refl _ _⟩
  case round =>
    obtain ⟨i, hi, rfl, hz, hKi⟩ := hrel
    have HZ := Lib.hid hz
    have HKI := Lib.hid hKi
    clear hz hKi
    have HKT := Lib.hid (HK1.out.trans HKI.out (fun _ _ h => h))
    have HCT := Lib.hid (HC1.out.keep HKI.out (fun h => h))
    obtain ⟨c0, c1, c2⟩ := HCT.out
    by_cases hlt : i < n
    · have hil : i < rows.length := by rw [HL.out]; exact hlt
      obtain ⟨ob, oo, Ai, ci, rfl, e0, e1, e2⟩ := (HV.out.quiet HKT.out).get hlt
      have HBAD := Lib.hid (fun (c : Nat) (h : Ir.rowErr many (rows.getD i []) (decide (i + 1 = rows.length)) = c) (h0 : c ≠ 0) => (show f = (c, (i : Int)) by
        rw [HF2.out, Ir.rowsErr_at hil HZ.out (by rw [h]; exact h0), h]))
      obtain ⟨lb, hlb⟩ : ∃ b, decide (i + 1 = rows.length) = b := ⟨_, rfl⟩
      have hbe : ((i : Int) == (m : Int)) = lb := by
        rw [← hlb, HL.out, ← HM.out]
        by_cases e : i = m
        · subst e; simp
        · have : ¬ i + 1 = m + 1 := by omega
          rw [decide_eq_false this]
          exact beq_eq_false_iff_ne.2 (by omega)
      rw [hlb] at HBAD
      have HLB := Lib.hid hlb
      clear hlb
      obtain ⟨l, hl⟩ : ∃ l, rows.getD i [] = l := ⟨_, rfl⟩
      rw [hl] at e0 e1 HBAD
      have HLE := Lib.hid hl
      clear hl hil
      have HE1 := Lib.hid e1
      have HRE := Lib.hid (fun w E V => planRow_any many lb Ai l.length ci l w ea E V e2)
      obtain ⟨c, hcc⟩ : ∃ c, Ir.rowErr many l lb = c := ⟨_, rfl⟩
      rw [hcc] at HRE
      have HCC := Lib.hid hcc
      clear hcc e1 e2
      have hi63 : (i : Int) < n := by omega
      go_wp2_with fail
      refine (HRE.out _ (HE.out.quiet HKT.out) HE1.out).mono ?_
      rintro e w5 ⟨rfl, hk5⟩
      have HK5 := Lib.hid (HKT.out.trans hk5 (fun _ _ h => h))
      have HKI5 := Lib.hid (HKI.out.trans hk5 (fun _ _ h => h))
      clear hk5 e0 c0 c1 c2
      by_cases hc0 : c = 0
      · subst hc0
        rw [show errOf0 ea 0 = .nilIface from rfl]
        have HZ2 := Lib.hid (show ∀ j, j < i + 1 → Ir.rowErr many (rows.getD j []) (decide (j + 1 = rows.length)) = 0 from fun j hj => by
          by_cases e : j = i
          · subst e
            rw [HLE.out, HLB.out, HCC.out]
          · exact HZ.out j (by omega))
        go_wp2_with fail
        go_roundw
        case rel => exact ⟨i + 1, by omega, by go_num, HZ2.out, HKI5.out⟩
        case measure => simp [intOf]; omega
      · have HR := Lib.hid (HBAD.out c HCC.out hc0)
        rw [show errOf0 ea c = .iface 275 (.pointer (some (ea c))) from if_neg hc0]
        have HC0 := Lib.hid hc0
        clear hc0
        go_wp2_with fail
        go_ret
        exact ⟨⟨_, rfl, FaultIs.placed HR.out HC0.out (by omega) w5⟩, HK5.out.alloc _⟩
    · obtain rfl : i = n := by omega
      have HRN := Lib.hid (show f = if 8 < Ir.stores rows.flatten then (8, -1) else (0, -1) by
        rw [HF2.out, Ir.rowsErr_all (fun j hj => HZ.out j (by rw [← HL.out]; exact hj)), ← Ir.stores_flat])
      have HBD := Lib.hid (show ∀ j, j < rows.length → (rows.getD j []).length ≤ 1000 from fun j hj => by
        have := (Ir.rowErr_len (HZ.out j (by rw [← HL.out]; exact hj))).2
        omega)
      clear HZ
      generalize i = n at *
      generalize wr = w3 at *
      have HCN := Lib.hid (fun w V => concat_any A n cap rows w V hc (by omega) HBD.out)
      go_wp2_with fail
      refine (HCN.out _ (HV.out.quiet HKT.out)).mono ?_
      rintro e w5 ⟨v, rfl, hov, hk5⟩
      obtain ⟨A2, c2', rfl, how⟩ := hov
      have HO := Lib.hid (OpsAt.of_owns how rfl)
      have HCP := Lib.hid (owns_cap how)
      have HK5 := Lib.hid (HKT.out.trans hk5 (fun _ _ h => h))
      clear hk5 c0 c1 c2 how
      have HSO := Lib.hid (fun w V => Stores_any A2 rows.flatten.length c2' rows.flatten w V HCP.out)
      obtain ⟨fl, hfl⟩ : ∃ fl, rows.flatten.length = fl := ⟨_, rfl⟩
      obtain ⟨st, hst⟩ : ∃ st, Ir.stores rows.flatten = st := ⟨_, rfl⟩
      rw [hfl] at HSO HO ⊢
      rw [hst] at HSO HRN
      clear hst hfl
      go_wp2_with fail
      refine (HSO.out _ HO.out).mono ?_
      rintro e w6 ⟨rfl, hk6⟩
      have HK6 := Lib.hid (HK5.out.trans hk6 (fun _ _ h => h))
      have gf := (HE.out.quiet HK6.out).c.full
      clear hk6
      by_cases h9 : 8 < st
      · have HR := Lib.hid (show f = (8, -1) by rw [HRN.out, if_pos h9])
        have t9 : decide (8 < st) = true := decide_eq_true h9
        have t9' : decide ((8 : Int) < (st : Int)) = true := decide_eq_true (by omega)
        clear h9
        go_wp2_with fail
        go_ret
        exact ⟨⟨_, rfl, FaultIs.bare HR.out (by decide)⟩, HK6.out⟩
      · have HR := Lib.hid (show f = (0, -1) by rw [HRN.out, if_neg h9])
        have t9 : decide (8 < st) = false := decide_eq_false h9
        have t9' : decide ((8 : Int) < (st : Int)) = false := decide_eq_false (by omega)
        clear h9
        go_wp2_with fail
        go_ret
        exact ⟨⟨_, rfl, .inl ⟨by rw [HR.out], rfl⟩⟩, HK6.out⟩
set_option maxHeartbeats 2000000 in
set_option maxRecDepth 100000 in
theorem planOps_any (pc many : Int) (A : Option Addr) (n cap : Nat) (rows : List (List Ir.Op)) (w : World) (V : RowsAt w A n cap rows) (hc : cap ≤ 9223372036854775807) (hn : n ≤ 1000) (hb : ∀ i, i < rows.length → (rows.getD i []).length ≤ 1000) :
    Calls Tryz.prog 43 #[.agg #[.int .u32 pc, .int .i64 many, .slice A n cap]] w fun e w' => e = .returned (.int .i64 rows.flatten.length) ∧ Keeps (fun _ => False) w w' := by
  have HV := Lib.hid V
  have HN := Lib.hid (code_new w pc many A n cap 35)
  have HCN := Lib.hid (fun w V => concat_any A n cap rows w V hc hn hb)
  obtain ⟨fl, hfl⟩ : ∃ fl, rows.flatten.length = fl := ⟨_, rfl⟩
  rw [hfl]
  have HFL := Lib.hid hfl
  clear V hb hfl
  go_enter Tryz.func43, Tryz.ntmps43
  go_upto_region 1 with fail
  obtain ⟨hV, hK⟩ := HN.out
  generalize w.alloc _ = w1 at *
  generalize w.heap.size = x at *
  have HK1 := Lib.hid hK
  obtain ⟨c0, c1, c2⟩ := hV
  clear hK HN
  go_wp2_with fail
  refine (HCN.out _ (HV.out.quiet HK1.out)).mono ?_
  rintro e w5 ⟨v, rfl, hov, hk5⟩
  obtain ⟨A2, c2', rfl, how⟩ := hov
  have HK5 := Lib.hid (HK1.out.trans hk5 (fun _ _ h => h))
  clear hk5 c0 c1 c2 how
  rw [HFL.out]
  go_wp2_with fail
  go_ret
  exact ⟨rfl, HK5.out⟩
/-- how many the widest row has -/
def Ir.wide (rows : List (List Ir.Op)) : Nat := rows.foldl (fun n l => max n l.length) 0
theorem Ir.wide_step (rows : List (List Ir.Op)) (i : Nat) (h : i < rows.length) : Ir.wide (rows.take (i + 1)) = max (Ir.wide (rows.take i)) (rows.getD i []).length := by
  unfold Ir.wide
  rw [List.take_succ_eq_append_getElem h, List.foldl_append]
  have : rows.getD i [] = rows[i] := by simp [List.getD, h]
  rw [this]
  rfl
set_option maxHeartbeats 4000000 in
set_option maxRecDepth 100000 in
theorem planWide_any (pc many : Int) (A : Option Addr) (n cap : Nat) (rows : List (List Ir.Op)) (w : World) (V : RowsAt w A n cap rows) (hc : cap ≤ 9223372036854775807) :
    Calls Tryz.prog 44 #[.agg #[.int .u32 pc, .int .i64 many, .slice A n cap]] w fun e w' => e = .returned (.int .i64 (Ir.wide rows)) ∧ Keeps (fun _ => False) w w' := by
  have HV := Lib.hid V
  have HL := Lib.hid V.len
  have hnc := V.le
  have HN := Lib.hid (code_new w pc many A n cap 35)
  clear V
  go_enter Tryz.func44, Tryz.ntmps44
  go_upto_region 1 with fail
  obtain ⟨hV, hK⟩ := HN.out
  generalize w.alloc _ = w1 at *
  generalize w.heap.size = x at *
  have HK1 := Lib.hid hK
  have HC1 := Lib.hid hV
  obtain ⟨c0, c1, c2⟩ := hV
  clear hK HN
  go_wp2_with fail
  go_loopw [3, 9] (fun s3 s9 wr => ∃ i st : Nat, i ≤ n ∧ s3 = .int .i64 st ∧ s9 = .int .i64 i ∧ Ir.wide (rows.take i) = st ∧ Keeps (fun _ => False) w wr) (fun _ s9 _ => n - (intOf s9).toNat)
  case atStart => exact ⟨0, 0, by omega, rfl, rfl, rfl, HK1.out⟩
  case round =>
    obtain ⟨i, st, hi, rfl, rfl, hst, hK⟩ := hrel
    have HS := Lib.hid hst
    have HK := Lib.hid hK
    clear hst hK c0 c1 c2
    by_cases hlt : i < n
    · obtain ⟨ob, oo, Ai, ci, rfl, e0, e1, e2⟩ := (HV.out.quiet HK.out).get hlt
      have hil : i < rows.length := by rw [HL.out]; exact hlt
      have HWS := Lib.hid (Ir.wide_step rows i hil)
      obtain ⟨l, hl⟩ : ∃ l, rows.getD i [] = l := ⟨_, rfl⟩
      rw [hl] at e0 HWS
      clear hl hil e1 e2
      obtain ⟨ll, hll⟩ : ∃ ll, l.length = ll := ⟨_, rfl⟩
      rw [hll] at e0 HWS
      clear hll
      have hi63 : (i : Int) < n := by omega
      go_wp2_with fail
      all_goals
        go_roundw
        case rel => exact ⟨i + 1, max st ll, by omega, by first | rfl | (congr 1; omega), by go_num, by rw [HWS.out, HS.out], HK.out⟩
        case measure => simp [intOf]; omega
    · obtain rfl : i = n := by omega
      have HSF := Lib.hid (show Ir.wide rows = st by
        have := HS.out
        rwa [List.take_of_length_le (by rw [HL.out]; exact Nat.le_refl _)] at this)
      go_wp2_with fail
      go_ret
      exact ⟨by rw [HSF.out]; rfl, HK.out⟩
end Go.Proofs.YtknhfobcejpmeaaGreatDoor
