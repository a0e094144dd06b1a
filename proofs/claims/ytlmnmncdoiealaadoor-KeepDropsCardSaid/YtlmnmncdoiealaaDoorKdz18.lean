import Derived.Test.YtlmnmncdoiealaaDoorKdz17
import Derived.Test.YtlmnmncdoiealaaDoorKdz09
import Derived.Deep.RegionHeld3

/- PlanRow0 -/
/- The walks of plan.class, room, final, counts; of slices.IndexFunc, ContainsFunc over ops. Printed by gen/planrow.py. -/
namespace Go.Proofs.YtlmnmncdoiealaaDoor
open Go.RowKit Go.Deep
set_option linter.unusedVariables false
set_option linter.unusedSimpArgs false

theorem cls_c (o : Ir.Op) : Ir.cls o = if (Ir.kn o.k == 5 || Ir.kn o.k == 6) = true then 1 else if Ir.leaves (Ir.kn o.k) = true then 2 else 0 := by
  unfold Ir.cls
  simp
set_option maxHeartbeats 2000000 in
set_option maxRecDepth 100000 in
theorem class_any (o : Ir.Op) (w : World) :
    Calls Tryd.prog 98 #[.agg (opC o)] w fun e w' => e = .returned (.int .i64 (Ir.cls o)) ∧ Keeps (fun _ => False) w w' := by
  have hr := cls_c o
  obtain ⟨r, hr0⟩ : ∃ r, Ir.cls o = r := ⟨_, rfl⟩
  rw [hr0] at hr ⊢
  clear hr0
  obtain ⟨k, d, a, b, im, t⟩ := o
  simp only at hr
  have h5 := is_load k
  have h6 := is_store k
  have HS := Lib.hid (fun w => leaves_any k w)
  have HK := Lib.hid ((Keeps.refl (fun _ => False) w).alloc (.cells (opC ⟨k, d, a, b, im, t⟩) 35))
  simp only [opC] at HK
  generalize Ir.leaves (Ir.kn k) = lv at *
  generalize (Ir.kn k == 5) = p5 at *
  generalize (Ir.kn k == 6) = p6 at *
  unfold opC
  cases p5 <;> cases p6 <;> cases lv
  all_goals
    have HR := Lib.hid hr
    clear hr
    go_enter Tryd.func98, Tryd.ntmps98
    go_wp2_with (go_at_call 111; refine (HS.out _).mono ?_; rintro e w' ⟨rfl, rfl⟩)
    go_ret
    exact ⟨by rw [HR.out]; rfl, HK.out⟩
theorem room_any (c : Nat) (w : World) :
    Calls Tryd.prog 69 #[.int .i64 c] w fun e w' => e = .returned (.int .i64 (Ir.room c)) ∧ w = w' := by
  have hr : Ir.room c = if c = 0 then 3 else 1 := rfl
  obtain ⟨r, hr0⟩ : ∃ r, Ir.room c = r := ⟨_, rfl⟩
  rw [hr0] at hr ⊢
  clear hr0
  have HR := Lib.hid hr
  clear hr
  by_cases h : c = 0
  · have t1 : ((c : Int) == 0) = true := by simp [h]
    have HE := Lib.hid (show r = 3 by rw [HR.out, if_pos h])
    clear h
    go_enter Tryd.func69, Tryd.ntmps69
    go_wp2_with fail
    go_ret
    exact ⟨by rw [HE.out]; rfl, rfl⟩
  · have t1 : ((c : Int) == 0) = false := by simp; omega
    have HE := Lib.hid (show r = 1 by rw [HR.out, if_neg h])
    clear h
    go_enter Tryd.func69, Tryd.ntmps69
    go_wp2_with fail
    go_ret
    exact ⟨by rw [HE.out]; rfl, rfl⟩
theorem final_any (o : Ir.Op) (w : World) :
    Calls Tryd.prog 73 #[.agg (opC o)] w fun e w' => e = .returned (.bool (Ir.isOut (Ir.kn o.k))) ∧ Keeps (fun _ => False) w w' := by
  obtain ⟨k, d, a, b, im, t⟩ := o
  have h8 := is_out k
  have h9 := is_outr k
  have HK := Lib.hid ((Keeps.refl (fun _ => False) w).alloc (.cells #[.string k, .int .i64 d, .int .i64 a, .int .i64 b, .int .u32 im, .int .i64 t] 35))
  have HR : Hid (Ir.isOut (Ir.kn k) = (Ir.kn k == 8 || Ir.kn k == 9)) := Lib.hid (by unfold Ir.isOut; simp [Bool.decide_or, nat_beq])
  generalize Ir.isOut (Ir.kn k) = r at *
  cases e8 : (Ir.kn k == 8) <;> cases e9 : (Ir.kn k == 9)
  all_goals
    rw [e8] at h8 HR
    rw [e9] at h9 HR
    clear e8 e9
    obtain rfl := HR.out
    unfold opC
    go_enter Tryd.func73, Tryd.ntmps73
    go_wp2_with fail
    go_ret
    exact ⟨rfl, HK.out⟩
/-- three counts in an array of the call's own -/
structure ArrBox (w : World) (x : Nat) (c0 c1 c2 : Nat) : Prop where
  blk : w.heap[x]? = some (.cells #[.int .i64 c0, .int .i64 c1, .int .i64 c2] 123 (0, 0))
theorem ArrBox.lt {w : World} {x c0 c1 c2 : Nat} (h : ArrBox w x c0 c1 c2) : x < w.heap.size := (Array.getElem?_eq_some_iff.1 h.blk).1
theorem ArrBox.keep {S : Nat → Prop} {w w' : World} {x c0 c1 c2 : Nat} (h : ArrBox w x c0 c1 c2) (k : Keeps S w w') (hs : ¬ S x) : ArrBox w' x c0 c1 c2 := ⟨(k.block x h.lt hs).trans h.blk⟩
theorem ArrBox.cells {w : World} {x c0 c1 c2 : Nat} (h : ArrBox w x c0 c1 c2) :
    w.cell? ⟨x, 0, none⟩ = some (.int .i64 c0) ∧ w.cell? ⟨x, 1, none⟩ = some (.int .i64 c1) ∧ w.cell? ⟨x, 2, none⟩ = some (.int .i64 c2) ∧ w.frozen? ⟨x, 0, none⟩ = false ∧ w.frozen? ⟨x, 1, none⟩ = false ∧ w.frozen? ⟨x, 2, none⟩ = false := by
  refine ⟨?_, ?_, ?_, frozen_of_block h.blk 0, frozen_of_block h.blk 1, frozen_of_block h.blk 2⟩ <;> (unfold World.cell?; rw [h.blk]; rfl)
theorem ArrBox.new (w : World) : ArrBox (w.alloc (.cells #[.int .i64 0, .int .i64 0, .int .i64 0] 123)) w.heap.size 0 0 0 := ⟨blk_alloc_new _ _⟩
theorem ArrBox.up0 {w : World} {x c0 c1 c2 : Nat} (h : ArrBox w x c0 c1 c2) (v : Int) (hv : v = (c0 : Int) + 1) : ArrBox (w.setCell ⟨x, 0, none⟩ (.int .i64 v)) x (c0 + 1) c1 c2 := by
  refine ⟨?_⟩; rw [hv]; have h1 := set_block h.blk 0 (.int .i64 ((c0 : Int) + 1)); simpa using h1
theorem ArrBox.up1 {w : World} {x c0 c1 c2 : Nat} (h : ArrBox w x c0 c1 c2) (v : Int) (hv : v = (c1 : Int) + 1) : ArrBox (w.setCell ⟨x, 1, none⟩ (.int .i64 v)) x c0 (c1 + 1) c2 := by
  refine ⟨?_⟩; rw [hv]; have h1 := set_block h.blk 1 (.int .i64 ((c1 : Int) + 1)); simpa using h1
theorem ArrBox.up2 {w : World} {x c0 c1 c2 : Nat} (h : ArrBox w x c0 c1 c2) (v : Int) (hv : v = (c2 : Int) + 1) : ArrBox (w.setCell ⟨x, 2, none⟩ (.int .i64 v)) x c0 c1 (c2 + 1) := by
  refine ⟨?_⟩; rw [hv]; have h1 := set_block h.blk 2 (.int .i64 ((c2 : Int) + 1)); simpa using h1
theorem ArrBox.same {w : World} {x c0 c1 c2 : Nat} (h : ArrBox w x c0 c1 c2) : ArrBox (((w.setCell ⟨x, 0, none⟩ (.int .i64 c0)).setCell ⟨x, 1, none⟩ (.int .i64 c1)).setCell ⟨x, 2, none⟩ (.int .i64 c2)) x c0 c1 c2 := by
  refine ⟨?_⟩
  have h1 := set_block (set_block (set_block h.blk 0 (.int .i64 c0)) 1 (.int .i64 c1)) 2 (.int .i64 c2)
  simpa using h1
theorem size_arr3 : (Tryd.prog.info? 123).map (·.size) = some 3 := by kernel_rfl
set_option maxHeartbeats 4000000 in
set_option maxRecDepth 100000 in
theorem counts_any (A : Option Addr) (n cap : Nat) (l : List Ir.Op) (w : World) (V : OpsAt w A n cap l) (hc : cap ≤ 9223372036854775807) (hn : n ≤ 4) :
    Calls Tryd.prog 68 #[.slice A n cap] w fun e w' => e = .returned (.agg #[.int .i64 (Ir.cnt l 0), .int .i64 (Ir.cnt l 1), .int .i64 (Ir.cnt l 2)]) ∧ Keeps (fun _ => False) w w' := by
  have HV := Lib.hid V
  have HL := Lib.hid V.len
  have hnc := V.le
  have HB0 := Lib.hid (ArrBox.new w)
  have HK0 := Lib.hid ((Keeps.refl (fun _ => False) w).alloc (.cells #[.int .i64 0, .int .i64 0, .int .i64 0] 123))
  clear V
  go_enter Tryd.func68, Tryd.ntmps68
  go_upto_region 1 with fail
  obtain ⟨x, hx⟩ : ∃ x, w.heap.size = x := ⟨_, rfl⟩
  have HX := Lib.hid hx
  rw [hx] at HB0 ⊢
  clear hx
  generalize w.alloc _ = w1 at *
  go_wp2_with fail
  go_loopw [7] (fun s7 wr => ∃ i c0 c1 c2 : Nat, i ≤ n ∧ c0 ≤ i ∧ c1 ≤ i ∧ c2 ≤ i ∧ s7 = .int .i64 i ∧ (Ir.cnt (l.take i) 0 = c0 ∧ Ir.cnt (l.take i) 1 = c1 ∧ Ir.cnt (l.take i) 2 = c2) ∧ ArrBox wr x c0 c1 c2 ∧ Keeps (fun _ => False) w wr) (fun s7 _ => n - (intOf s7).toNat)
  case atStart => exact ⟨0, 0, 0, 0, by omega, by omega, by omega, by omega, rfl, ⟨rfl, rfl, rfl⟩, HB0.out, HK0.out⟩
  case round =>
    obtain ⟨i, c0, c1, c2, hi, h0, h1, h2, rfl, hS, hB, hK⟩ := hrel
    have HS := Lib.hid hS
    have HB := Lib.hid hB
    have HK := Lib.hid hK
    clear hS hB hK
    by_cases hlt : i < n
    · obtain ⟨ob0, oo0, rfl, e0, e1, e2, e3, e4, e5⟩ := (HV.out.quiet HK.out).get hlt
      have hil : i < l.length := by rw [HL.out]; exact hlt
      have hi63 : (i : Int) < n := by omega
      have HC0 := Lib.hid (cnt_step l i hil)
      obtain ⟨op, hop⟩ : ∃ op, l.getD i Ir.nop = op := ⟨_, rfl⟩
      rw [hop] at e0 e1 e2 e3 e4 e5 HC0
      clear hop hil
      have HCL := Lib.hid (cls_lt op)
      have HCO := Lib.hid (fun w => class_any op w)
      obtain ⟨cc, hcc⟩ : ∃ cc, Ir.cls op = cc := ⟨_, rfl⟩
      rw [hcc] at HCO HC0 HCL
      clear hcc
      obtain ⟨ok, od, oa, ob2, oim, oat⟩ := op
      have HN := Lib.hid (op_new wr ok od oa ob2 oim oat 35)
      simp only at e0 e1 e2 e3 e4 e5
      go_upto_region 4 with fail
      obtain ⟨hV, hK⟩ := HN.out
      have HKn := Lib.hid (HK.out.trans hK (fun _ _ h => h))
      have HBn := Lib.hid (HB.out.keep hK (fun h => h))
      generalize wr.alloc _ = w4 at *
      generalize wr.heap.size = y at *
      clear e0 e1 e2 e3 e4 e5 hK HN
      obtain ⟨v0, v1, v2, v3, v4, v5⟩ := hV
      simp only at v0 v1 v2 v3 v4 v5
      go_wp2_with fail
      refine (HCO.out _).mono ?_
      rintro e w5 ⟨rfl, hk5⟩
      have HK5 := Lib.hid (HKn.out.trans hk5 (fun _ _ h => h))
      have HB2 := Lib.hid (HBn.out.keep hk5 (fun h => h))
      clear hk5 v0 v1 v2 v3 v4 v5
      obtain ⟨r0, r1, r2, g0, g1, g2⟩ := HB2.out.cells
      have HLT : Hid (w.heap.size ≤ x) := Lib.hid (by rw [HX.out]; exact Nat.le_refl _)
      obtain rfl | rfl | rfl : cc = 0 ∨ cc = 1 ∨ cc = 2 := by have := HCL.out; omega
      · have hcw : IntKind.i64.wrap ((c0 : Int) + 1) = (c0 : Int) + 1 := by rw [IntKind.wrap_i64]; omega
        have HB6 := Lib.hid (HB2.out.up0 ((c0 : Int) + 1) rfl)
        have HK6 := Lib.hid (cntbox_keep (o := 0) (v := .int .i64 ((c0 : Int) + 1)) HK5.out HLT.out)
        go_wp2_with fail
        go_roundw
        case rel => exact ⟨i + 1, c0 + 1, c1, c2, by omega, by omega, by omega, by omega, by go_num, ⟨by rw [HC0.out, HS.out.1]; rfl, by rw [HC0.out, HS.out.2.1]; rfl, by rw [HC0.out, HS.out.2.2]; rfl⟩, HB6.out, HK6.out⟩
        case measure => simp [intOf]; omega
      · have hcw : IntKind.i64.wrap ((c1 : Int) + 1) = (c1 : Int) + 1 := by rw [IntKind.wrap_i64]; omega
        have HB6 := Lib.hid (HB2.out.up1 ((c1 : Int) + 1) rfl)
        have HK6 := Lib.hid (cntbox_keep (o := 1) (v := .int .i64 ((c1 : Int) + 1)) HK5.out HLT.out)
        go_wp2_with fail
        go_roundw
        case rel => exact ⟨i + 1, c0, c1 + 1, c2, by omega, by omega, by omega, by omega, by go_num, ⟨by rw [HC0.out, HS.out.1]; rfl, by rw [HC0.out, HS.out.2.1]; rfl, by rw [HC0.out, HS.out.2.2]; rfl⟩, HB6.out, HK6.out⟩
        case measure => simp [intOf]; omega
      · have hcw : IntKind.i64.wrap ((c2 : Int) + 1) = (c2 : Int) + 1 := by rw [IntKind.wrap_i64]; omega
        have HB6 := Lib.hid (HB2.out.up2 ((c2 : Int) + 1) rfl)
        have HK6 := Lib.hid (cntbox_keep (o := 2) (v := .int .i64 ((c2 : Int) + 1)) HK5.out HLT.out)
        go_wp2_with fail
        go_roundw
        case rel => exact ⟨i + 1, c0, c1, c2 + 1, by omega, by omega, by omega, by omega, by go_num, ⟨by rw [HC0.out, HS.out.1]; rfl, by rw [HC0.out, HS.out.2.1]; rfl, by rw [HC0.out, HS.out.2.2]; rfl⟩, HB6.out, HK6.out⟩
        case measure => simp [intOf]; omega
    · have hin : i = n := by omega
      have HT := Lib.hid (show Ir.cnt l 0 = c0 ∧ Ir.cnt l 1 = c1 ∧ Ir.cnt l 2 = c2 by
        have e : l.take i = l := List.take_of_length_le (by rw [HL.out]; omega)
        have h := HS.out
        rwa [e] at h)
      clear HS
      obtain ⟨r0, r1, r2, g0, g1, g2⟩ := HB.out.cells
      have HBS := Lib.hid HB.out.same
      have HLT : Hid (w.heap.size ≤ x) := Lib.hid (by rw [HX.out]; exact Nat.le_refl _)
      have HKS := Lib.hid (cntbox_keep (o := 2) (v := .int .i64 (c2 : Int)) (cntbox_keep (o := 1) (v := .int .i64 (c1 : Int)) (cntbox_keep (o := 0) (v := .int .i64 (c0 : Int)) HK.out HLT.out) HLT.out) HLT.out)
      subst hin
      go_wp2_with fail
      refine bodyPost_ret (results_cell_row rfl _ _ x 123 #[.int .i64 c0, .int .i64 c1, .int .i64 c2] (0, 0) _ rfl HBS.out.blk Tryd.underlying123 rfl size_arr3) rfl ⟨by rw [HT.out.1, HT.out.2.1, HT.out.2.2], HKS.out⟩
/-- where the first op stands of which p holds -/
def idxP (p : Ir.Op → Bool) : Nat → List Ir.Op → Int
  | _, [] => -1
  | i, o :: r => if p o = true then i else idxP p (i + 1) r
theorem idxP_at {p : Ir.Op → Bool} : ∀ (l : List Ir.Op) (s i : Nat), i < l.length → (∀ j, j < i → p (l.getD j Ir.nop) = false) → p (l.getD i Ir.nop) = true → idxP p s l = ((s + i : Nat) : Int)
  | [], s, i, h, _, _ => by simp at h
  | o :: r, s, 0, _, _, h => by
    have h2 : p o = true := h
    unfold idxP
    rw [if_pos h2]
    rfl
  | o :: r, s, i + 1, h, hj, hn => by
    have h0 : p o = false := hj 0 (by omega)
    unfold idxP
    rw [if_neg (by rw [h0]; decide), idxP_at r (s + 1) i (by simpa using h) (fun j hj' => hj (j + 1) (by omega)) hn]
    congr 1
    omega
theorem idxP_none {p : Ir.Op → Bool} : ∀ (l : List Ir.Op) (s : Nat), (∀ j, j < l.length → p (l.getD j Ir.nop) = false) → idxP p s l = -1
  | [], s, _ => rfl
  | o :: r, s, h => by
    have h0 : p o = false := h 0 (by simp)
    unfold idxP
    rw [if_neg (by rw [h0]; decide)]
    exact idxP_none r (s + 1) (fun j hj => h (j + 1) (by simpa using hj))
theorem idxP_any {p : Ir.Op → Bool} : ∀ (l : List Ir.Op) (s : Nat), decide (0 ≤ idxP p s l) = l.any p
  | [], s => rfl
  | o :: r, s => by
    unfold idxP
    rw [List.any_cons]
    cases h : p o with
    | true => rw [if_pos rfl, Bool.true_or, decide_eq_true (by omega)]
    | false => rw [if_neg (by decide), idxP_any r (s + 1), Bool.false_or]
theorem idxP_le {p : Ir.Op → Bool} : ∀ (l : List Ir.Op) (s : Nat), -1 ≤ idxP p s l ∧ idxP p s l < ((s + l.length : Nat) : Int) + 1
  | [], s => by unfold idxP; omega
  | o :: r, s => by
    unfold idxP
    split
    · rw [List.length_cons]; omega
    · have := idxP_le (p := p) r (s + 1)
      rw [List.length_cons]
      omega
/-- what is asked of a predicate over ops -/
def PredOp (g : Nat) (lb : Array Value) (p : Ir.Op → Bool) (w : World) : Prop :=
  ∀ (o : Ir.Op) (W : World), Keeps (fun _ => False) w W → Calls Tryd.prog g (#[.agg (opC o)] ++ lb) W fun e w' => e = .returned (.bool (p o)) ∧ Keeps (fun _ => False) W w'
theorem PredOp.quiet {g : Nat} {lb : Array Value} {p : Ir.Op → Bool} {w w' : World} (h : PredOp g lb p w) (k : Keeps (fun _ => False) w w') : PredOp g lb p w' := fun o W kw => h o W (k.trans kw (fun _ _ h => h))
set_option maxHeartbeats 4000000 in
set_option maxRecDepth 100000 in
theorem indexFunc_any (g : Nat) (lb : Array Value) (p : Ir.Op → Bool) (eg : ∀ args w, (callFunc g args).run Tryd.prog w = .ok (.enter g args) w) (A : Option Addr) (n cap : Nat) (l : List Ir.Op) (w : World) (V : OpsAt w A n cap l) (hc : cap ≤ 9223372036854775807) (hp : PredOp g lb p w) :
    Calls Tryd.prog 100 #[.slice A n cap, .func (.func g) #[] lb] w fun e w' => e = .returned (.int .i64 (idxP p 0 l)) ∧ Keeps (fun _ => False) w w' := by
  have HV := Lib.hid V
  have HL := Lib.hid V.len
  have HP := Lib.hid hp
  have hnc := V.le
  obtain ⟨r, hr⟩ : ∃ r, idxP p 0 l = r := ⟨_, rfl⟩
  rw [hr]
  have HR := Lib.hid hr
  clear V hp hr
  go_enter Tryd.func100, Tryd.ntmps100
  go_wp2_with fail
  go_loopw [5, 8] (fun _ s8 wr => ∃ i : Nat, i ≤ n ∧ s8 = .int .i64 i ∧ (∀ j, j < i → p (l.getD j Ir.nop) = false) ∧ Keeps (fun _ => False) w wr) (fun _ s8 _ => n - (intOf s8).toNat)
  case atStart => exact ⟨0, by omega, rfl, fun j hj => absurd hj (by omega), Keeps.refl _ _⟩
  case round =>
    obtain ⟨i, hi, rfl, hZ, hK⟩ := hrel
    have HZ := Lib.hid hZ
    have HK := Lib.hid hK
    clear hZ hK
    by_cases hlt : i < n
    · obtain ⟨ob, oo, rfl, e0, e1, e2, e3, e4, e5⟩ := (HV.out.quiet HK.out).get hlt
      have hil : i < l.length := by rw [HL.out]; exact hlt
      have hi63 : (i : Int) < n := by omega
      have HAT := Lib.hid (fun h => idxP_at (p := p) l 0 i hil HZ.out h)
      obtain ⟨op, hop⟩ : ∃ op, l.getD i Ir.nop = op := ⟨_, rfl⟩
      rw [hop] at e0 e1 e2 e3 e4 e5 HAT
      have HOP := Lib.hid hop
      clear hop hil
      have HCA := Lib.hid (HP.out op wr HK.out)
      obtain ⟨pv, hpv⟩ : ∃ b, p op = b := ⟨_, rfl⟩
      rw [hpv] at HCA HAT
      have HPV := Lib.hid hpv
      clear hpv
      obtain ⟨ok, od, oa, ob2, oim, oat⟩ := op
      simp only at e0 e1 e2 e3 e4 e5
      unfold opC at HCA
      go_wp2_with fail
      refine HCA.out.mono ?_
      rintro e w5 ⟨rfl, hk5⟩
      have HK5 := Lib.hid (HK.out.trans hk5 (fun _ _ h => h))
      clear hk5 e0 e1 e2 e3 e4 e5
      cases pv
      · have HZ2 := Lib.hid (show ∀ j, j < i + 1 → p (l.getD j Ir.nop) = false from fun j hj => by
          by_cases e : j = i
          · subst e; rw [HOP.out]; exact HPV.out
          · exact HZ.out j (by omega))
        go_wp2_with fail
        go_roundw
        case rel => exact ⟨i + 1, by omega, by go_num, HZ2.out, HK5.out⟩
        case measure => simp [intOf]; omega
      · have HE := Lib.hid (show r = (i : Int) by rw [← HR.out, HAT.out rfl, Nat.zero_add])
        go_wp2_with fail
        go_ret
        exact ⟨by rw [HE.out]; rfl, HK5.out⟩
    · have hin : i = n := by omega
      have HE := Lib.hid (show r = -1 by rw [← HR.out, idxP_none l 0 (fun j hj => HZ.out j (by rw [HL.out] at hj; omega))])
      subst hin
      go_wp2_with fail
      go_ret
      exact ⟨by rw [HE.out]; rfl, HK.out⟩
set_option maxRecDepth 100000 in
theorem containsFunc_any (g : Nat) (lb : Array Value) (p : Ir.Op → Bool) (eg : ∀ args w, (callFunc g args).run Tryd.prog w = .ok (.enter g args) w) (A : Option Addr) (n cap : Nat) (l : List Ir.Op) (w : World) (V : OpsAt w A n cap l) (hc : cap ≤ 9223372036854775807) (hp : PredOp g lb p w) :
    Calls Tryd.prog 71 #[.slice A n cap, .func (.func g) #[] lb] w fun e w' => e = .returned (.bool (l.any p)) ∧ Keeps (fun _ => False) w w' := by
  have HI := Lib.hid (fun w V hp => indexFunc_any g lb p eg A n cap l w V hc hp)
  have HV := Lib.hid V
  have HP := Lib.hid hp
  have hb := idxP_any (p := p) l 0
  obtain ⟨r, hr⟩ : ∃ r, idxP p 0 l = r := ⟨_, rfl⟩
  rw [hr] at HI hb
  obtain ⟨q, hq⟩ : ∃ q, l.any p = q := ⟨_, rfl⟩
  rw [hq] at hb ⊢
  clear V hp hr hq eg
  go_enter Tryd.func71, Tryd.ntmps71
  go_wp2_with fail
  refine (HI.out _ HV.out HP.out).mono ?_
  rintro e w5 ⟨rfl, hk5⟩
  go_wp2_with fail
  go_ret
  exact ⟨rfl, hk5⟩
end Go.Proofs.YtlmnmncdoiealaaDoor
