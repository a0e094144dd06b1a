import Derived.Test.YtlmnmncdoiealaaGreatDoorKaz10
import Derived.Test.YtlmnmncdoiealaaGreatDoorIrOp3
import Derived.Test.YtlmnmncdoiealaaGreatDoorIrOps
import Derived.Laws.Rows
import Derived.BigQuiet
import Derived.Test.YtlmnmncdoiealaaGreatDoorKaz13
import Derived.Test.YtlmnmncdoiealaaGreatDoorKaz06
import Derived.Deep.RegionHeld3

/- PlanFaultL -/
/- What is wrong of a plan, by places. No program in sight. -/
namespace Go.Proofs.YtlmnmncdoiealaaGreatDoor
open Go.RowKit
set_option linter.unusedVariables false
namespace Ir
theorem rowsErr_from {many : Int} {n : Nat} : ∀ (r : List (List Op)) (s i : Nat), i < r.length → (∀ j, j < i → rowErr many (r.getD j []) (decide (s + j + 1 = n)) = 0) → rowErr many (r.getD i []) (decide (s + i + 1 = n)) ≠ 0 →
    rowsErr many n s r = some (rowErr many (r.getD i []) (decide (s + i + 1 = n)), s + i)
  | [], s, i, h, _, _ => by simp at h
  | l :: r, s, 0, _, _, h => by
    have h2 : rowErr many l (decide (s + 1 = n)) ≠ 0 := h
    unfold rowsErr
    rw [if_pos h2]
    rfl
  | l :: r, s, i + 1, h, hj, hn => by
    have h0 : rowErr many l (decide (s + 1 = n)) = 0 := hj 0 (by omega)
    unfold rowsErr
    rw [if_neg (by rw [h0]; decide)]
    have := rowsErr_from (many := many) (n := n) r (s + 1) i (by simpa using h) (fun j hj' => by
      have := hj (j + 1) (by omega)
      rw [show s + 1 + j + 1 = s + (j + 1) + 1 by omega]
      exact this) (by
      rw [show s + 1 + i + 1 = s + (i + 1) + 1 by omega]
      exact hn)
    rw [this, show s + 1 + i = s + (i + 1) by omega]
    rfl
theorem rowsErr_at {many : Int} {rows : List (List Op)} {i : Nat} (h : i < rows.length) (hj : ∀ j, j < i → rowErr many (rows.getD j []) (decide (j + 1 = rows.length)) = 0) (hn : rowErr many (rows.getD i []) (decide (i + 1 = rows.length)) ≠ 0) :
    rowsErr many rows.length 0 rows = some (rowErr many (rows.getD i []) (decide (i + 1 = rows.length)), i) := by
  have := rowsErr_from (many := many) (n := rows.length) rows 0 i h (by simpa using hj) (by simpa using hn)
  simpa using this
theorem rowsErr_all {many : Int} {rows : List (List Op)} (h : ∀ j, j < rows.length → rowErr many (rows.getD j []) (decide (j + 1 = rows.length)) = 0) : rowsErr many rows.length 0 rows = none :=
  rowsErr_none rows 0 (fun j hj => by simpa using h j hj)
theorem planStores_step (rows : List (List Op)) (i : Nat) (h : i < rows.length) : planStores (rows.take (i + 1)) = planStores (rows.take i) + stores (rows.getD i []) := by
  unfold planStores
  rw [List.take_succ_eq_append_getElem h, List.map_append, List.sum_append]
  have : rows.getD i [] = rows[i] := by simp [List.getD, h]
  rw [this]
  simp
theorem rowErr_le (many : Int) (l : List Op) (last : Bool) : rowErr many l last ≤ 8 := by
  have h1 : ∀ l : List Op, opErrs many l ≤ 8 := by
    intro l
    induction l with
    | nil => exact Nat.zero_le _
    | cons o r ih =>
      unfold opErrs
      split
      · unfold opErr; split <;> (try split) <;> (try split) <;> omega
      · exact ih
  unfold rowErr
  split
  · omega
  · split
    · exact h1 l
    · split
      · omega
      · split
        · omega
        · split <;> omega
theorem rowErr_len {many : Int} {l : List Op} {last : Bool} (h : rowErr many l last = 0) : 0 < l.length ∧ l.length ≤ 4 := by
  unfold rowErr at h
  split at h
  · omega
  · omega
theorem stores_le_len (l : List Op) : stores l ≤ l.length := List.countP_le_length
theorem planFault_le (many : Int) (rows : List (List Op)) : (planFault many rows).1 ≤ 8 := by
  unfold planFault
  split
  · exact (by omega : (2 : Nat) ≤ 8)
  · split
    · exact Nat.le_refl _
    · split
      · exact (by omega : (3 : Nat) ≤ 8)
      · split
        · rename_i c i h
          have : ∀ (r : List (List Op)) (n s : Nat) c i, rowsErr many n s r = some (c, i) → c ≤ 8 := by
            intro r n
            induction r with
            | nil => intro s c i h; simp [rowsErr] at h
            | cons l t ih =>
              intro s c i h
              unfold rowsErr at h
              split at h
              · injection h with h
                injection h with h1 h2
                rw [← h1]
                exact rowErr_le _ _ _
              · exact ih _ _ _ h
          exact this _ _ _ _ _ h
        · split
          · exact Nat.le_refl _
          · exact Nat.zero_le _
end Ir
end Go.Proofs.YtlmnmncdoiealaaGreatDoor

/- CodeFault -/
/- The walks of the reference's Bare, Fine, CodeFault. -/
namespace Go.Proofs.YtlmnmncdoiealaaGreatDoor
open Go.RowKit Go.Deep
set_option linter.unusedVariables false
set_option linter.unusedSimpArgs false

theorem size_fault : (Tryz.prog.info? 42).map (·.size) = some 2 := by kernel_rfl
/-- a fault's value -/
def faultV (f : Nat × Int) : Value := .agg #[.int .i64 f.1, .int .i64 f.2]
/-- a fault in a block of its own -/
structure FaultBox (w : World) (x : Nat) (c : Nat) (a : Int) : Prop where
  blk : w.heap[x]? = some (.cells #[.int .i64 c, .int .i64 a] 42 (0, 0))
theorem FaultBox.lt {w : World} {x c : Nat} {a : Int} (h : FaultBox w x c a) : x < w.heap.size := (Array.getElem?_eq_some_iff.1 h.blk).1
theorem FaultBox.keep {S : Nat → Prop} {w w' : World} {x c : Nat} {a : Int} (h : FaultBox w x c a) (k : Keeps S w w') (hs : ¬ S x) : FaultBox w' x c a := ⟨(k.block x h.lt hs).trans h.blk⟩
theorem FaultBox.cells {w : World} {x c : Nat} {a : Int} (h : FaultBox w x c a) :
    w.cell? ⟨x, 0, none⟩ = some (.int .i64 c) ∧ w.cell? ⟨x, 1, none⟩ = some (.int .i64 a) ∧ w.frozen? ⟨x, 0, none⟩ = false ∧ w.frozen? ⟨x, 1, none⟩ = false := by
  refine ⟨?_, ?_, frozen_of_block h.blk 0, frozen_of_block h.blk 1⟩ <;> (unfold World.cell?; rw [h.blk]; rfl)
theorem FaultBox.new (w : World) (c : Nat) (a : Int) : FaultBox (w.alloc (.cells #[.int .i64 c, .int .i64 a] 42)) w.heap.size c a := ⟨blk_alloc_new _ _⟩
theorem FaultBox.put {w : World} {x c c' : Nat} {a a' : Int} (h : FaultBox w x c a) :
    FaultBox ((w.setCell ⟨x, 0, none⟩ (.int .i64 c')).setCell ⟨x, 1, none⟩ (.int .i64 a')) x c' a' ∧ Keeps (· = x) w ((w.setCell ⟨x, 0, none⟩ (.int .i64 c')).setCell ⟨x, 1, none⟩ (.int .i64 a')) := by
  refine ⟨⟨?_⟩, Keeps.trans (Keeps.one _ _ _ _) (Keeps.one _ _ _ _) (fun _ _ h => h)⟩
  have h1 := set_block (set_block h.blk 0 (.int .i64 c')) 1 (.int .i64 a')
  simpa using h1
set_option maxRecDepth 100000 in
theorem faultBare_any (c : Nat) (w : World) :
    Calls Tryz.prog 24 #[.int .i64 c] w fun e w' => e = .returned (faultV (c, -1)) ∧ Keeps (fun _ => False) w w' := by
  have HB := Lib.hid (FaultBox.new w c (-1))
  have HK := Lib.hid ((Keeps.refl (fun _ => False) w).alloc (.cells #[.int .i64 c, .int .i64 (-1)] 42))
  go_enter Tryz.func24, Tryz.ntmps24
  go_wp2_with fail
  exact bodyPost_ret (results_cell_row rfl _ _ w.heap.size 42 #[.int .i64 c, .int .i64 (-1)] (0, 0) _ rfl HB.out.blk Tryz.underlying42 rfl size_fault) rfl ⟨rfl, HK.out⟩
set_option maxRecDepth 100000 in
theorem faultFine_any (w : World) :
    Calls Tryz.prog 27 #[] w fun e w' => e = .returned (faultV (0, -1)) ∧ Keeps (fun _ => False) w w' := by
  have HB := Lib.hid (FaultBox.new w 0 (-1))
  have HK := Lib.hid ((Keeps.refl (fun _ => False) w).alloc (.cells #[.int .i64 0, .int .i64 (-1)] 42))
  go_enter Tryz.func27, Tryz.ntmps27
  go_wp2_with fail
  exact bodyPost_ret (results_cell_row rfl _ _ w.heap.size 42 #[.int .i64 0, .int .i64 (-1)] (0, 0) _ rfl HB.out.blk Tryz.underlying42 rfl size_fault) rfl ⟨rfl, HK.out⟩
theorem errAt_le (many : Int) (l : List Ir.Op) (i : Nat) : Ir.errAt many l i ≤ 10 := by
  have h1 : ∀ o, Ir.opErr o many ≤ 10 := fun o => by unfold Ir.opErr; split <;> (try split) <;> (try split) <;> omega
  unfold Ir.errAt
  split <;> (try split) <;> first | exact h1 _ | omega
end Go.Proofs.YtlmnmncdoiealaaGreatDoor

/- PlanRow0 -/
/- The walks of plan.class, room, final, counts; of slices.IndexFunc, ContainsFunc over ops. Printed by gen/planrow.py. -/
namespace Go.Proofs.YtlmnmncdoiealaaGreatDoor
open Go.RowKit Go.Deep
set_option linter.unusedVariables false
set_option linter.unusedSimpArgs false

theorem cls_c (o : Ir.Op) : Ir.cls o = if (Ir.kn o.k == 5 || Ir.kn o.k == 6) = true then 1 else if Ir.leaves (Ir.kn o.k) = true then 2 else 0 := by
  unfold Ir.cls
  simp
set_option maxHeartbeats 2000000 in
set_option maxRecDepth 100000 in
theorem class_any (o : Ir.Op) (w : World) :
    Calls Tryz.prog 90 #[.agg (opC o)] w fun e w' => e = .returned (.int .i64 (Ir.cls o)) ∧ Keeps (fun _ => False) w w' := by
  have hr := cls_c o
  obtain ⟨r, hr0⟩ : ∃ r, Ir.cls o = r := ⟨_, rfl⟩
  rw [hr0] at hr ⊢
  clear hr0
  obtain ⟨k, d, a, b, im, t⟩ := o
  simp only at hr
  have h5 := is_load k
  have h6 := is_store k
  have HS := Lib.hid (fun w => leaves_any k w)
  have HK := Lib.hid ((Keeps.refl (fun _ => False) w).alloc (.cells (opC ⟨k, d, a, b, im, t⟩) 64))
  simp only [opC] at HK
  generalize Ir.leaves (Ir.kn k) = lv at *
  generalize (Ir.kn k == 5) = p5 at *
  generalize (Ir.kn k == 6) = p6 at *
  unfold opC
  cases p5 <;> cases p6 <;> cases lv
  all_goals
    have HR := Lib.hid hr
    clear hr
    go_enter Tryz.func90, Tryz.ntmps90
    go_wp2_with (go_at_call 101; refine (HS.out _).mono ?_; rintro e w' ⟨rfl, rfl⟩)
    go_ret
    exact ⟨by rw [HR.out]; rfl, HK.out⟩
theorem room_any (c : Nat) (w : World) :
    Calls Tryz.prog 67 #[.int .i64 c] w fun e w' => e = .returned (.int .i64 (Ir.room c)) ∧ w = w' := by
  have hr : Ir.room c = if c = 0 then 3 else 1 := rfl
  obtain ⟨r, hr0⟩ : ∃ r, Ir.room c = r := ⟨_, rfl⟩
  rw [hr0] at hr ⊢
  clear hr0
  have HR := Lib.hid hr
  clear hr
  by_cases h : c = 0
  · have t1 : ((c : Int) == 0) = true := by simp [h]
    have HE := Lib.hid (show r = 3 by rw [HR.out, if_pos h])
    clear h
    go_enter Tryz.func67, Tryz.ntmps67
    go_wp2_with fail
    go_ret
    exact ⟨by rw [HE.out]; rfl, rfl⟩
  · have t1 : ((c : Int) == 0) = false := by simp; omega
    have HE := Lib.hid (show r = 1 by rw [HR.out, if_neg h])
    clear h
    go_enter Tryz.func67, Tryz.ntmps67
    go_wp2_with fail
    go_ret
    exact ⟨by rw [HE.out]; rfl, rfl⟩
theorem final_any (o : Ir.Op) (w : World) :
    Calls Tryz.prog 71 #[.agg (opC o)] w fun e w' => e = .returned (.bool (Ir.isOut (Ir.kn o.k))) ∧ Keeps (fun _ => False) w w' := by
  obtain ⟨k, d, a, b, im, t⟩ := o
  have h8 := is_out k
  have h9 := is_outr k
  have HK := Lib.hid ((Keeps.refl (fun _ => False) w).alloc (.cells #[.string k, .int .i64 d, .int .i64 a, .int .i64 b, .int .u32 im, .int .i64 t] 64))
  have HR : Hid (Ir.isOut (Ir.kn k) = (Ir.kn k == 8 || Ir.kn k == 9)) := Lib.hid (by unfold Ir.isOut; simp [Bool.decide_or, nat_beq])
  generalize Ir.isOut (Ir.kn k) = r at *
  cases e8 : (Ir.kn k == 8) <;> cases e9 : (Ir.kn k == 9)
  all_goals
    rw [e8] at h8 HR
    rw [e9] at h9 HR
    clear e8 e9
    obtain rfl := HR.out
    unfold opC
    go_enter Tryz.func71, Tryz.ntmps71
    go_wp2_with fail
    go_ret
    exact ⟨rfl, HK.out⟩
/-- three counts in an array of the call's own -/
structure ArrBox (w : World) (x : Nat) (c0 c1 c2 : Nat) : Prop where
  blk : w.heap[x]? = some (.cells #[.int .i64 c0, .int .i64 c1, .int .i64 c2] 121 (0, 0))
theorem ArrBox.lt {w : World} {x c0 c1 c2 : Nat} (h : ArrBox w x c0 c1 c2) : x < w.heap.size := (Array.getElem?_eq_some_iff.1 h.blk).1
theorem ArrBox.keep {S : Nat → Prop} {w w' : World} {x c0 c1 c2 : Nat} (h : ArrBox w x c0 c1 c2) (k : Keeps S w w') (hs : ¬ S x) : ArrBox w' x c0 c1 c2 := ⟨(k.block x h.lt hs).trans h.blk⟩
theorem ArrBox.cells {w : World} {x c0 c1 c2 : Nat} (h : ArrBox w x c0 c1 c2) :
    w.cell? ⟨x, 0, none⟩ = some (.int .i64 c0) ∧ w.cell? ⟨x, 1, none⟩ = some (.int .i64 c1) ∧ w.cell? ⟨x, 2, none⟩ = some (.int .i64 c2) ∧ w.frozen? ⟨x, 0, none⟩ = false ∧ w.frozen? ⟨x, 1, none⟩ = false ∧ w.frozen? ⟨x, 2, none⟩ = false := by
  refine ⟨?_, ?_, ?_, frozen_of_block h.blk 0, frozen_of_block h.blk 1, frozen_of_block h.blk 2⟩ <;> (unfold World.cell?; rw [h.blk]; rfl)
theorem ArrBox.new (w : World) : ArrBox (w.alloc (.cells #[.int .i64 0, .int .i64 0, .int .i64 0] 121)) w.heap.size 0 0 0 := ⟨blk_alloc_new _ _⟩
theorem ArrBox.up0 {w : World} {x c0 c1 c2 : Nat} (h : ArrBox w x c0 c1 c2) (v : Int) (hv : v = (c0 : Int) + 1) : ArrBox (w.setCell ⟨x, 0, none⟩ (.int .i64 v)) x (c0 + 1) c1 c2 := by
  refine ⟨?_⟩; rw [hv]; have h1 := set_block h.blk 0 (.int .i64 ((c0 : Int) + 1)); simpa using h1
theorem ArrBox.up1 {w : World} {x c0 c1 c2 : Nat} (h : ArrBox w x c0 c1 c2) (v : Int) (hv : v = (c1 : Int) + 1) : ArrBox (w.setCell ⟨x, 1, none⟩ (.int .i64 v)) x c0 (c1 + 1) c2 := by
  refine ⟨?_⟩; rw [hv]; have h1 := set_block h.blk 1 (.int .i64 ((c1 : Int) + 1)); simpa using h1
theorem ArrBox.up2 {w : World} {x c0 c1 c2 : Nat} (h : ArrBox w x c0 c1 c2) (v : Int) (hv : v = (c2 : Int) + 1) : ArrBox (w.setCell ⟨x, 2, none⟩ (.int .i64 v)) x c0 c1 (c2 + 1) := by
  refine ⟨?_⟩; rw [hv]; have h1 := set_block h.blk 2 (.int .i64 ((c2 : Int) + 1)); simpa using h1
theorem ArrBox.same {w : World} {x c0 c1 c2 : Nat} (h : ArrBox w x c0 c1 c2) : ArrBox (((w.setCell ⟨x, 0, none⟩ (.int .i64 c0)).setCell ⟨x, 1, none⟩ (.int .i64 c1)).setCell ⟨x, 2, none⟩ (.int .i64 c2)) x c0 c1 c2 := by
  refine ⟨?_⟩
  have h1 := set_block (set_block (set_block h.blk 0 (.int .i64 c0)) 1 (.int .i64 c1)) 2 (.int .i64 c2)
  simpa using h1
theorem size_arr3 : (Tryz.prog.info? 121).map (·.size) = some 3 := by kernel_rfl
set_option maxHeartbeats 4000000 in
set_option maxRecDepth 100000 in
theorem counts_any (A : Option Addr) (n cap : Nat) (l : List Ir.Op) (w : World) (V : OpsAt w A n cap l) (hc : cap ≤ 9223372036854775807) (hn : n ≤ 4) :
    Calls Tryz.prog 66 #[.slice A n cap] w fun e w' => e = .returned (.agg #[.int .i64 (Ir.cnt l 0), .int .i64 (Ir.cnt l 1), .int .i64 (Ir.cnt l 2)]) ∧ Keeps (fun _ => False) w w' := by
  have HV := Lib.hid V
  have HL := Lib.hid V.len
  have hnc := V.le
  have HB0 := Lib.hid (ArrBox.new w)
  have HK0 := Lib.hid ((Keeps.refl (fun _ => False) w).alloc (.cells #[.int .i64 0, .int .i64 0, .int .i64 0] 121))
  clear V
  go_enter Tryz.func66, Tryz.ntmps66
  go_upto_region 1 with fail
  obtain ⟨x, hx⟩ : ∃ x, w.heap.size = x := ⟨_, rfl⟩
  have HX := Lib.hid hx
  rw [hx] at HB0 ⊢
  clear hx
  generalize w.alloc _ = w1 at *
  go_wp2_with fail
  go_loopw [7] (fun s7 wr => ∃ i c0 c1 c2 : Nat, i ≤ n ∧ c0 ≤ i ∧ c1 ≤ i ∧ c2 ≤ i ∧ s7 = .int .i64 i ∧ (Ir.cnt (l.take i) 0 = c0 ∧ Ir.cnt (l.take i) 1 = c1 ∧ Ir.cnt (l.take i) 2 = c2) ∧ ArrBox wr x c0 c1 c2 ∧ Keeps (fun _ => False) w wr) (fun s7 _ => n - (intOf s7).toNat)
  case atStart => exact ⟨0, 0, 0, 0, by omega, by omega, by omega, by omega, rfl, ⟨rfl, rfl, rfl⟩, HB0.out, HK0.out⟩
  case round =>
    obtain ⟨i, c0, c1, c2, hi, h0, h1, h2, rfl, hS, hB, hK⟩ := hrel
    have HS := Lib.hid hS
    have HB := Lib.hid hB
    have HK := Lib.hid hK
    clear hS hB hK
    by_cases hlt : i < n
    · obtain ⟨ob0, oo0, rfl, e0, e1, e2, e3, e4, e5⟩ := (HV.out.quiet HK.out).get hlt
      have hil : i < l.length := by rw [HL.out]; exact hlt
      have hi63 : (i : Int) < n := by omega
      have HC0 := Lib.hid (cnt_step l i hil)
      obtain ⟨op, hop⟩ : ∃ op, l.getD i Ir.nop = op := ⟨_, rfl⟩
      rw [hop] at e0 e1 e2 e3 e4 e5 HC0
      clear hop hil
      have HCL := Lib.hid (cls_lt op)
      have HCO := Lib.hid (fun w => class_any op w)
      obtain ⟨cc, hcc⟩ : ∃ cc, Ir.cls op = cc := ⟨_, rfl⟩
      rw [hcc] at HCO HC0 HCL
      clear hcc
      obtain ⟨ok, od, oa, ob2, oim, oat⟩ := op
      have HN := Lib.hid (op_new wr ok od oa ob2 oim oat 64)
      simp only at e0 e1 e2 e3 e4 e5
      go_upto_region 4 with fail
      obtain ⟨hV, hK⟩ := HN.out
      have HKn := Lib.hid (HK.out.trans hK (fun _ _ h => h))
      have HBn := Lib.hid (HB.out.keep hK (fun h => h))
      generalize wr.alloc _ = w4 at *
      generalize wr.heap.size = y at *
      clear e0 e1 e2 e3 e4 e5 hK HN
      obtain ⟨v0, v1, v2, v3, v4, v5⟩ := hV
      simp only at v0 v1 v2 v3 v4 v5
      go_wp2_with fail
      refine (HCO.out _).mono ?_
      rintro e w5 ⟨rfl, hk5⟩
      have HK5 := Lib.hid (HKn.out.trans hk5 (fun _ _ h => h))
      have HB2 := Lib.hid (HBn.out.keep hk5 (fun h => h))
      clear hk5 v0 v1 v2 v3 v4 v5
      obtain ⟨r0, r1, r2, g0, g1, g2⟩ := HB2.out.cells
      have HLT : Hid (w.heap.size ≤ x) := Lib.hid (by rw [HX.out]; exact Nat.le_refl _)
      obtain rfl | rfl | rfl : cc = 0 ∨ cc = 1 ∨ cc = 2 := by have := HCL.out; omega
      · have hcw : IntKind.i64.wrap ((c0 : Int) + 1) = (c0 : Int) + 1 := by rw [IntKind.wrap_i64]; omega
        have HB6 := Lib.hid (HB2.out.up0 ((c0 : Int) + 1) rfl)
        have HK6 := Lib.hid (cntbox_keep (o := 0) (v := .int .i64 ((c0 : Int) + 1)) HK5.out HLT.out)
        go_wp2_with fail
        go_roundw
        case rel => exact ⟨i + 1, c0 + 1, c1, c2, by omega, by omega, by omega, by omega, by go_num, ⟨by rw [HC0.out, HS.out.1]; rfl, by rw [HC0.out, HS.out.2.1]; rfl, by rw [HC0.out, HS.out.2.2]; rfl⟩, HB6.out, HK6.out⟩
        case measure => simp [intOf]; omega
      · have hcw : IntKind.i64.wrap ((c1 : Int) + 1) = (c1 : Int) + 1 := by rw [IntKind.wrap_i64]; omega
        have HB6 := Lib.hid (HB2.out.up1 ((c1 : Int) + 1) rfl)
        have HK6 := Lib.hid (cntbox_keep (o := 1) (v := .int .i64 ((c1 : Int) + 1)) HK5.out HLT.out)
        go_wp2_with fail
        go_roundw
        case rel => exact ⟨i + 1, c0, c1 + 1, c2, by omega, by omega, by omega, by omega, by go_num, ⟨by rw [HC0.out, HS.out.1]; rfl, by rw [HC0.out, HS.out.2.1]; rfl, by rw [HC0.out, HS.out.2.2]; rfl⟩, HB6.out, HK6.out⟩
        case measure => simp [intOf]; omega
      · have hcw : IntKind.i64.wrap ((c2 : Int) + 1) = (c2 : Int) + 1 := by rw [IntKind.wrap_i64]; omega
        have HB6 := Lib.hid (HB2.out.up2 ((c2 : Int) + 1) rfl)
        have HK6 := Lib.hid (cntbox_keep (o := 2) (v := .int .i64 ((c2 : Int) + 1)) HK5.out HLT.out)
        go_wp2_with fail
        go_roundw
        case rel => exact ⟨i + 1, c0, c1, c2 + 1, by omega, by omega, by omega, by omega, by go_num, ⟨by rw [HC0.out, HS.out.1]; rfl, by rw [HC0.out, HS.out.2.1]; rfl, by rw [HC0.out, HS.out.2.2]; rfl⟩, HB6.out, HK6.out⟩
        case measure => simp [intOf]; omega
    · have hin : i = n := by omega
      have HT := Lib.hid (show Ir.cnt l 0 = c0 ∧ Ir.cnt l 1 = c1 ∧ Ir.cnt l 2 = c2 by
        have e : l.take i = l := List.take_of_length_le (by rw [HL.out]; omega)
        have h := HS.out
        rwa [e] at h)
      clear HS
      obtain ⟨r0, r1, r2, g0, g1, g2⟩ := HB.out.cells
      have HBS := Lib.hid HB.out.same
      have HLT : Hid (w.heap.size ≤ x) := Lib.hid (by rw [HX.out]; exact Nat.le_refl _)
      have HKS := Lib.hid (cntbox_keep (o := 2) (v := .int .i64 (c2 : Int)) (cntbox_keep (o := 1) (v := .int .i64 (c1 : Int)) (cntbox_keep (o := 0) (v := .int .i64 (c0 : Int)) HK.out HLT.out) HLT.out) HLT.out)
      subst hin
      go_wp2_with fail
      refine bodyPost_ret (results_cell_row rfl _ _ x 121 #[.int .i64 c0, .int .i64 c1, .int .i64 c2] (0, 0) _ rfl HBS.out.blk Tryz.underlying121 rfl size_arr3) rfl ⟨by rw [HT.out.1, HT.out.2.1, HT.out.2.2], HKS.out⟩
/-- where the first op stands of which p holds -/
def idxP (p : Ir.Op → Bool) : Nat → List Ir.Op → Int
  | _, [] => -1
  | i, o :: r => if p o = true then i else idxP p (i + 1) r
theorem idxP_at {p : Ir.Op → Bool} : ∀ (l : List Ir.Op) (s i : Nat), i < l.length → (∀ j, j < i → p (l.getD j Ir.nop) = false) → p (l.getD i Ir.nop) = true → idxP p s l = ((s + i : Nat) : Int)
  | [], s, i, h, _, _ => by simp at h
  | o :: r, s, 0, _, _, h => by
    have h2 : p o = true := h
    unfold idxP
    rw [if_pos h2]
    rfl
  | o :: r, s, i + 1, h, hj, hn => by
    have h0 : p o = false := hj 0 (by omega)
    unfold idxP
    rw [if_neg (by rw [h0]; decide), idxP_at r (s + 1) i (by simpa using h) (fun j hj' => hj (j + 1) (by omega)) hn]
    congr 1
    omega
theorem idxP_none {p : Ir.Op → Bool} : ∀ (l : List Ir.Op) (s : Nat), (∀ j, j < l.length → p (l.getD j Ir.nop) = false) → idxP p s l = -1
  | [], s, _ => rfl
  | o :: r, s, h => by
    have h0 : p o = false := h 0 (by simp)
    unfold idxP
    rw [if_neg (by rw [h0]; decide)]
    exact idxP_none r (s + 1) (fun j hj => h (j + 1) (by simpa using hj))
theorem idxP_any {p : Ir.Op → Bool} : ∀ (l : List Ir.Op) (s : Nat), decide (0 ≤ idxP p s l) = l.any p
  | [], s => rfl
  | o :: r, s => by
    unfold idxP
    rw [List.any_cons]
    cases h : p o with
    | true => rw [if_pos rfl, Bool.true_or, decide_eq_true (by omega)]
    | false => rw [if_neg (by decide), idxP_any r (s + 1), Bool.false_or]
theorem idxP_le {p : Ir.Op → Bool} : ∀ (l : List Ir.Op) (s : Nat), -1 ≤ idxP p s l ∧ idxP p s l < ((s + l.length : Nat) : Int) + 1
  | [], s => by unfold idxP; omega
  | o :: r, s => by
    unfold idxP
    split
    · rw [List.length_cons]; omega
    · have := idxP_le (p := p) r (s + 1)
      rw [List.length_cons]
      omega
/-- what is asked of a predicate over ops -/
def PredOp (g : Nat) (lb : Array Value) (p : Ir.Op → Bool) (w : World) : Prop :=
  ∀ (o : Ir.Op) (W : World), Keeps (fun _ => False) w W → Calls Tryz.prog g (#[.agg (opC o)] ++ lb) W fun e w' => e = .returned (.bool (p o)) ∧ Keeps (fun _ => False) W w'
theorem PredOp.quiet {g : Nat} {lb : Array Value} {p : Ir.Op → Bool} {w w' : World} (h : PredOp g lb p w) (k : Keeps (fun _ => False) w w') : PredOp g lb p w' := fun o W kw => h o W (k.trans kw (fun _ _ h => h))
set_option maxHeartbeats 4000000 in
set_option maxRecDepth 100000 in
theorem indexFunc_any (g : Nat) (lb : Array Value) (p : Ir.Op → Bool) (eg : ∀ args w, (callFunc g args).run Tryz.prog w = .ok (.enter g args) w) (A : Option Addr) (n cap : Nat) (l : List Ir.Op) (w : World) (V : OpsAt w A n cap l) (hc : cap ≤ 9223372036854775807) (hp : PredOp g lb p w) :
    Calls Tryz.prog 92 #[.slice A n cap, .func (.func g) #[] lb] w fun e w' => e = .returned (.int .i64 (idxP p 0 l)) ∧ Keeps (fun _ => False) w w' := by
  have HV := Lib.hid V
  have HL := Lib.hid V.len
  have HP := Lib.hid hp
  have hnc := V.le
  obtain ⟨r, hr⟩ : ∃ r, idxP p 0 l = r := ⟨_, rfl⟩
  rw [hr]
  have HR := Lib.hid hr
  clear V hp hr
  go_enter Tryz.func92, Tryz.ntmps92
  go_wp2_with fail
  go_loopw [5, 8] (fun _ s8 wr => ∃ i : Nat, i ≤ n ∧ s8 = .int .i64 i ∧ (∀ j, j < i → p (l.getD j Ir.nop) = false) ∧ Keeps (fun _ => False) w wr) (fun _ s8 _ => n - (intOf s8).toNat)
  case atStart => exact ⟨0, by omega, rfl, fun j hj => absurd hj (by omega), Keeps.refl _ _⟩
  case round =>
    obtain ⟨i, hi, rfl, hZ, hK⟩ := hrel
    have HZ := Lib.hid hZ
    have HK := Lib.hid hK
    clear hZ hK
    by_cases hlt : i < n
    · obtain ⟨ob, oo, rfl, e0, e1, e2, e3, e4, e5⟩ := (HV.out.quiet HK.out).get hlt
      have hil : i < l.length := by rw [HL.out]; exact hlt
      have hi63 : (i : Int) < n := by omega
      have HAT := Lib.hid (fun h => idxP_at (p := p) l 0 i hil HZ.out h)
      obtain ⟨op, hop⟩ : ∃ op, l.getD i Ir.nop = op := ⟨_, rfl⟩
      rw [hop] at e0 e1 e2 e3 e4 e5 HAT
      have HOP := Lib.hid hop
      clear hop hil
      have HCA := Lib.hid (HP.out op wr HK.out)
      obtain ⟨pv, hpv⟩ : ∃ b, p op = b := ⟨_, rfl⟩
      rw [hpv] at HCA HAT
      have HPV := Lib.hid hpv
      clear hpv
      obtain ⟨ok, od, oa, ob2, oim, oat⟩ := op
      simp only at e0 e1 e2 e3 e4 e5
      unfold opC at HCA
      go_wp2_with fail
      refine HCA.out.mono ?_
      rintro e w5 ⟨rfl, hk5⟩
      have HK5 := Lib.hid (HK.out.trans hk5 (fun _ _ h => h))
      clear hk5 e0 e1 e2 e3 e4 e5
      cases pv
      · have HZ2 := Lib.hid (show ∀ j, j < i + 1 → p (l.getD j Ir.nop) = false from fun j hj => by
          by_cases e : j = i
          · subst e; rw [HOP.out]; exact HPV.out
          · exact HZ.out j (by omega))
        go_wp2_with fail
        go_roundw
        case rel => exact ⟨i + 1, by omega, by go_num, HZ2.out, HK5.out⟩
        case measure => simp [intOf]; omega
      · have HE := Lib.hid (show r = (i : Int) by rw [← HR.out, HAT.out rfl, Nat.zero_add])
        go_wp2_with fail
        go_ret
        exact ⟨by rw [HE.out]; rfl, HK5.out⟩
    · have hin : i = n := by omega
      have HE := Lib.hid (show r = -1 by rw [← HR.out, idxP_none l 0 (fun j hj => HZ.out j (by rw [HL.out] at hj; omega))])
      subst hin
      go_wp2_with fail
      go_ret
      exact ⟨by rw [HE.out]; rfl, HK.out⟩
set_option maxRecDepth 100000 in
theorem containsFunc_any (g : Nat) (lb : Array Value) (p : Ir.Op → Bool) (eg : ∀ args w, (callFunc g args).run Tryz.prog w = .ok (.enter g args) w) (A : Option Addr) (n cap : Nat) (l : List Ir.Op) (w : World) (V : OpsAt w A n cap l) (hc : cap ≤ 9223372036854775807) (hp : PredOp g lb p w) :
    Calls Tryz.prog 69 #[.slice A n cap, .func (.func g) #[] lb] w fun e w' => e = .returned (.bool (l.any p)) ∧ Keeps (fun _ => False) w w' := by
  have HI := Lib.hid (fun w V hp => indexFunc_any g lb p eg A n cap l w V hc hp)
  have HV := Lib.hid V
  have HP := Lib.hid hp
  have hb := idxP_any (p := p) l 0
  obtain ⟨r, hr⟩ : ∃ r, idxP p 0 l = r := ⟨_, rfl⟩
  rw [hr] at HI hb
  obtain ⟨q, hq⟩ : ∃ q, l.any p = q := ⟨_, rfl⟩
  rw [hq] at hb ⊢
  clear V hp hr hq eg
  go_enter Tryz.func69, Tryz.ntmps69
  go_wp2_with fail
  refine (HI.out _ HV.out HP.out).mono ?_
  rintro e w5 ⟨rfl, hk5⟩
  go_wp2_with fail
  go_ret
  exact ⟨rfl, hk5⟩
end Go.Proofs.YtlmnmncdoiealaaGreatDoor
