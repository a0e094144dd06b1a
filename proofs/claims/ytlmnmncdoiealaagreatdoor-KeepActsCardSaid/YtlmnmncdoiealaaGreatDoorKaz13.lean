import Derived.Test.YtlmnmncdoiealaaGreatDoorKaz10
import Derived.Test.YtlmnmncdoiealaaGreatDoorIrOp3
import Derived.Test.YtlmnmncdoiealaaGreatDoorIrOps
import Derived.Test.YtlmnmncdoiealaaGreatDoorFacts
import Derived.BigQuiet
import Derived.Deep.RegionHeld3

/- RowErr -/
/- The walks of the reference's classOf, rowError. Printed by gen/rowerr.py. -/
namespace Go.Proofs.YtlmnmncdoiealaaGreatDoor
open Go.RowKit Go.Deep
set_option linter.unusedVariables false
set_option linter.unusedSimpArgs false

set_option maxHeartbeats 4000000 in
set_option maxRecDepth 100000 in
theorem classOf_any (o : Ir.Op) (w : World) :
    Calls Tryz.prog 44 #[.agg (opC o)] w fun e w' => e = .returned (.int .i64 (Ir.cls o)) ∧ Keeps (fun _ => False) w w' := by
  obtain ⟨k, d, a, b, im, t⟩ := o
  have hle := Ir.kn_le k
  have HK := fun c h => Ir.kinds k c h
  have HO := Lib.hid (op_new w k d a b im t 64)
  have hcl : Ir.cls ⟨k, d, a, b, im, t⟩ = (if Ir.kn k = 5 ∨ Ir.kn k = 6 then 1 else if Ir.leaves (Ir.kn k) = true then 2 else 0) := rfl
  obtain ⟨r, hr⟩ : ∃ r, Ir.cls ⟨k, d, a, b, im, t⟩ = r := ⟨_, rfl⟩
  rw [hr] at hcl ⊢
  generalize Ir.kn k = c at *
  replace HK := HK c rfl
  have HC := Lib.hid hcl
  clear hcl hr
  have h : c = 0 ∨ c = 1 ∨ c = 2 ∨ c = 3 ∨ c = 4 ∨ c = 5 ∨ c = 6 ∨ c = 7 ∨ c = 8 ∨ c = 9 ∨ c = 10 ∨ c = 11 ∨ c = 12 ∨ c = 13 ∨ c = 14 ∨ c = 15 ∨ c = 16 ∨ c = 17 ∨ c = 18 ∨ c = 19 ∨ c = 20 ∨ c = 21 ∨ c = 22 ∨ c = 23 ∨ c = 24 ∨ c = 25 ∨ c = 26 ∨ c = 27 := by omega
  clear hle
  unfold opC
  rcases h with rfl | rfl | rfl | rfl | rfl | rfl | rfl | rfl | rfl | rfl | rfl | rfl | rfl | rfl | rfl | rfl | rfl | rfl | rfl | rfl | rfl | rfl | rfl | rfl | rfl | rfl | rfl | rfl
  all_goals
    simp only [Nat.reduceBEq] at HK
    obtain ⟨k1, k2, k3, k4, k5, k6, k7, k8, k9, k10, k11, k12, k13, k14, k15, k16, k17, k18, k19, k20, k21, k22, k23, k24, k25, k26, k27⟩ := HK
    go_enter Tryz.func44, Tryz.ntmps44
    go_upto_region 1 with fail
    obtain ⟨hV, hK⟩ := HO.out
    have HKx := Lib.hid hK
    generalize w.alloc _ = w1 at *
    generalize w.heap.size = x at *
    obtain ⟨v0, v1, v2, v3, v4, v5⟩ := hV
    simp only at v0
    clear v1 v2 v3 v4 v5 hK
    go_wp2
    go_ret
    exact ⟨by rw [HC.out]; rfl, HKx.out⟩
theorem opErrs_at {many : Int} : ∀ (l : List Ir.Op) (i : Nat), i < l.length → (∀ j, j < i → Ir.opErr (l.getD j Ir.nop) many = 0) → Ir.opErr (l.getD i Ir.nop) many ≠ 0 → Ir.opErrs many l = Ir.opErr (l.getD i Ir.nop) many
  | [], i, h, _, _ => by simp at h
  | o :: r, 0, _, _, h => by
    have h2 : Ir.opErr o many ≠ 0 := h
    unfold Ir.opErrs
    rw [if_pos h2]
    rfl
  | o :: r, i + 1, h, hj, hn => by
    have h0 : Ir.opErr o many = 0 := hj 0 (by omega)
    unfold Ir.opErrs
    rw [if_neg (by omega)]
    exact opErrs_at r i (by simpa using h) (fun j hj' => hj (j + 1) (by omega)) hn
theorem opErrs_all {many : Int} {l : List Ir.Op} (h : ∀ j, j < l.length → Ir.opErr (l.getD j Ir.nop) many = 0) : Ir.opErrs many l = 0 := Ir.opErrs_zero (fun o ho => by
  obtain ⟨i, hi, rfl⟩ := List.getElem_of_mem ho
  have := h i hi
  rwa [List.getD_eq_getElem?_getD, List.getElem?_eq_getElem hi] at this)
theorem cls_lt (o : Ir.Op) : Ir.cls o < 3 := by
  unfold Ir.cls
  split
  · decide
  · split <;> decide
theorem cnt_step (l : List Ir.Op) (i : Nat) (h : i < l.length) (c : Nat) : Ir.cnt (l.take (i + 1)) c = Ir.cnt (l.take i) c + if c = Ir.cls (l.getD i Ir.nop) then 1 else 0 := by
  rw [List.take_succ_eq_append_getElem h, Ir.cnt_snoc]
  have : l.getD i Ir.nop = l[i] := by simp [List.getD, h]
  rw [this]
  by_cases e : c = Ir.cls l[i]
  · rw [if_pos e, if_pos e.symm]
  · rw [if_neg e, if_neg (fun h => e h.symm)]
theorem outs_step (l : List Ir.Op) (i : Nat) (h : i < l.length) : Ir.outs (l.take (i + 1)) = Ir.outs (l.take i) + if Ir.isOut (Ir.kn (l.getD i Ir.nop).k) = true then 1 else 0 := by
  unfold Ir.outs
  rw [List.take_succ_eq_append_getElem h, List.countP_append, List.countP_singleton]
  have : l.getD i Ir.nop = l[i] := by simp [List.getD, h]
  rw [this]
/-- is a register written twice, by places? -/
def dupAt (l : List Ir.Op) (i k : Nat) : Prop := 0 < Ir.writes (l.getD i Ir.nop) ∧ Ir.writes (l.getD i Ir.nop) = Ir.writes (l.getD k Ir.nop)
theorem dupW_iff : ∀ (l : List Ir.Op), Ir.dupW l = true ↔ ∃ i k, k < i ∧ i < l.length ∧ dupAt l i k
  | [] => by simp [Ir.dupW]
  | o :: r => by
    have ih := dupW_iff r
    unfold Ir.dupW
    rw [Bool.or_eq_true, ih, List.any_eq_true]
    constructor
    · rintro (⟨p, hp, hq⟩ | ⟨i, k, h1, h2, h3⟩)
      · obtain ⟨j, hj, rfl⟩ := List.getElem_of_mem hp
        have hq := of_decide_eq_true hq
        refine ⟨j + 1, 0, by omega, by simpa using hj, ?_⟩
        unfold dupAt
        have e : (o :: r).getD (j + 1) Ir.nop = r[j] := by simp [List.getD, hj]
        rw [e]
        exact hq
      · exact ⟨i + 1, k + 1, by omega, by simpa using h2, h3⟩
    · rintro ⟨i, k, h1, h2, h3⟩
      cases i with
      | zero => omega
      | succ i =>
        have hi : i < r.length := by simpa using h2
        cases k with
        | zero =>
          left
          refine ⟨r[i], List.getElem_mem hi, decide_eq_true ?_⟩
          unfold dupAt at h3
          have e : (o :: r).getD (i + 1) Ir.nop = r[i] := by simp [List.getD, hi]
          rw [e] at h3
          exact h3
        | succ k => exact .inr ⟨i, k, by omega, hi, h3⟩
/-- the three counts in a block of their own -/
structure CntBox (w : World) (x : Nat) (c0 c1 c2 : Nat) : Prop where
  blk : w.heap[x]? = some (.cells #[.int .i64 c0, .int .i64 c1, .int .i64 c2] 3 (0, 0))
theorem CntBox.lt {w : World} {x c0 c1 c2 : Nat} (h : CntBox w x c0 c1 c2) : x < w.heap.size := (Array.getElem?_eq_some_iff.1 h.blk).1
theorem CntBox.keep {S : Nat → Prop} {w w' : World} {x c0 c1 c2 : Nat} (h : CntBox w x c0 c1 c2) (k : Keeps S w w') (hs : ¬ S x) : CntBox w' x c0 c1 c2 := ⟨(k.block x h.lt hs).trans h.blk⟩
theorem CntBox.cells {w : World} {x c0 c1 c2 : Nat} (h : CntBox w x c0 c1 c2) :
    w.cell? ⟨x, 0, none⟩ = some (.int .i64 c0) ∧ w.cell? ⟨x, 1, none⟩ = some (.int .i64 c1) ∧ w.cell? ⟨x, 2, none⟩ = some (.int .i64 c2) ∧ w.frozen? ⟨x, 0, none⟩ = false ∧ w.frozen? ⟨x, 1, none⟩ = false ∧ w.frozen? ⟨x, 2, none⟩ = false := by
  refine ⟨?_, ?_, ?_, frozen_of_block h.blk 0, frozen_of_block h.blk 1, frozen_of_block h.blk 2⟩ <;> (unfold World.cell?; rw [h.blk]; rfl)
theorem CntBox.new (w : World) : CntBox (w.alloc (.cells #[.int .i64 0, .int .i64 0, .int .i64 0] 3)) w.heap.size 0 0 0 := ⟨blk_alloc_new _ _⟩
theorem CntBox.up0 {w : World} {x c0 c1 c2 : Nat} (h : CntBox w x c0 c1 c2) (v : Int) (hv : v = (c0 : Int) + 1) : CntBox (w.setCell ⟨x, 0, none⟩ (.int .i64 v)) x (c0 + 1) c1 c2 := by
  refine ⟨?_⟩; rw [hv]; have h1 := set_block h.blk 0 (.int .i64 ((c0 : Int) + 1)); simpa using h1
theorem CntBox.up1 {w : World} {x c0 c1 c2 : Nat} (h : CntBox w x c0 c1 c2) (v : Int) (hv : v = (c1 : Int) + 1) : CntBox (w.setCell ⟨x, 1, none⟩ (.int .i64 v)) x c0 (c1 + 1) c2 := by
  refine ⟨?_⟩; rw [hv]; have h1 := set_block h.blk 1 (.int .i64 ((c1 : Int) + 1)); simpa using h1
theorem CntBox.up2 {w : World} {x c0 c1 c2 : Nat} (h : CntBox w x c0 c1 c2) (v : Int) (hv : v = (c2 : Int) + 1) : CntBox (w.setCell ⟨x, 2, none⟩ (.int .i64 v)) x c0 c1 (c2 + 1) := by
  refine ⟨?_⟩; rw [hv]; have h1 := set_block h.blk 2 (.int .i64 ((c2 : Int) + 1)); simpa using h1
theorem cntbox_keep {w w' : World} {x o : Nat} {v : Value} (h : Keeps (fun _ => False) w w') (hx : w.heap.size ≤ x) : Keeps (fun _ => False) w (w'.setCell ⟨x, o, none⟩ v) := h.setCell (a := ⟨x, o, none⟩) (fun hh => absurd hh (Nat.not_lt.2 hx)) _
set_option maxHeartbeats 8000000 in
set_option maxRecDepth 100000 in
theorem rowError_any (many : Int) (last : Bool) (A : Option Addr) (n cap : Nat) (l : List Ir.Op) (w : World) (V : OpsAt w A n cap l) (hc : cap ≤ 9223372036854775807) :
    Calls Tryz.prog 25 #[.slice A n cap, .int .i64 many, .bool last] w fun e w' => e = .returned (.int .i64 (Ir.rowErr many l last)) ∧ Keeps (fun _ => False) w w' := by
  have HV := Lib.hid V
  have HL := Lib.hid V.len
  have hnc := V.le
  have HR := Lib.hid (show Ir.rowErr many l last = (if n = 0 ∨ 4 < n then 3 else if Ir.opErrs many l ≠ 0 then Ir.opErrs many l
      else if 3 < Ir.cnt l 0 ∨ 1 < Ir.cnt l 1 ∨ 1 < Ir.cnt l 2 then 8 else if Ir.dupW l = true then 7 else if last ≠ decide (0 < Ir.outs l) then 3 else 0) by rw [← HL.out]; rfl)
  obtain ⟨re, hre⟩ : ∃ r, Ir.rowErr many l last = r := ⟨_, rfl⟩
  rw [hre] at HR ⊢
  clear V hre
  by_cases h1 : n = 0 ∨ 4 < n
  · have HE := Lib.hid (show re = 3 by rw [HR.out, if_pos h1])
    rcases h1 with h1 | h1
    · have t1 : ((n : Int) == 0) = true := by simp [h1]
      have H1 := Lib.hid h1
      clear h1
      go_enter Tryz.func25, Tryz.ntmps25
      go_wp2_with fail
      go_ret
      exact ⟨by rw [HE.out]; rfl, Keeps.refl _ _⟩
    · have t1 : ((n : Int) == 0) = false := by simp; omega
      have t2 : decide ((4 : Int) < (n : Int)) = true := decide_eq_true (by omega)
      clear h1
      go_enter Tryz.func25, Tryz.ntmps25
      go_wp2_with fail
      go_ret
      exact ⟨by rw [HE.out]; rfl, Keeps.refl _ _⟩
  have t1 : ((n : Int) == 0) = false := by simp; omega
  have t2 : decide ((4 : Int) < (n : Int)) = false := decide_eq_false (by omega)
  have hn4 : n ≤ 4 := by omega
  have HR1 := Lib.hid (show re = (if Ir.opErrs many l ≠ 0 then Ir.opErrs many l else if 3 < Ir.cnt l 0 ∨ 1 < Ir.cnt l 1 ∨ 1 < Ir.cnt l 2 then 8 else if Ir.dupW l = true then 7 else if last ≠ decide (0 < Ir.outs l) then 3 else 0) by rw [HR.out, if_neg h1])
  clear h1 HR
  go_enter Tryz.func25, Tryz.ntmps25
  go_wp2_with fail
  go_loopw [7] (fun s7 wr => ∃ i : Nat, i ≤ n ∧ s7 = .int .i64 i ∧ (∀ j, j < i → Ir.opErr (l.getD j Ir.nop) many = 0) ∧ Keeps (fun _ => False) w wr) (fun s7 _ => n - (intOf s7).toNat)
  case atStart => exact ⟨0, by omega, rfl, fun j hj => absurd hj (by omega), Keeps.refl _ _⟩
  case round =>
    obtain ⟨i, hi, rfl, hZ, hK⟩ := hrel
    have HZ := Lib.hid hZ
    have HK := Lib.hid hK
    clear hZ hK
    by_cases hlt : i < n
    · obtain ⟨ob, oo, rfl, e0, e1, e2, e3, e4, e5⟩ := (HV.out.quiet HK.out).get hlt
      have hil : i < l.length := by rw [HL.out]; exact hlt
      have HAT := Lib.hid (opErrs_at (many := many) l i hil HZ.out)
      have hi63 : (i : Int) < n := by omega
      obtain ⟨op, hop⟩ : ∃ op, l.getD i Ir.nop = op := ⟨_, rfl⟩
      rw [hop] at e0 e1 e2 e3 e4 e5 HAT
      have HOP := Lib.hid hop
      clear hop
      have HOE := Lib.hid (fun w => opError_any op many w)
      obtain ⟨c, hcc⟩ : ∃ c, Ir.opErr op many = c := ⟨_, rfl⟩
      rw [hcc] at HOE HAT
      have HCC := Lib.hid hcc
      clear hcc
      obtain ⟨ok, od, oa, ob2, oim, oat⟩ := op
      simp only at e0 e1 e2 e3 e4 e5
      go_wp2_with fail
      refine (HOE.out _).mono ?_
      rintro e w1 ⟨rfl, hk1⟩
      have HK1 := Lib.hid (HK.out.trans hk1 (fun _ _ h => h))
      clear hk1 e0 e1 e2 e3 e4 e5
      by_cases hc0 : c = 0
      · have t3 : decide (0 < c) = false := decide_eq_false (by omega)
        have HZ1 := Lib.hid (show ∀ j, j < i + 1 → Ir.opErr (l.getD j Ir.nop) many = 0 from fun j hj => by
          by_cases hji : j < i
          · exact HZ.out j hji
          · obtain rfl : j = i := by omega
            rw [HOP.out, HCC.out, hc0])
        clear hc0
        go_wp2_with fail
        go_roundw
        case rel => exact ⟨i + 1, by omega, by go_num, HZ1.out, HK1.out⟩
        case measure => simp [intOf]; omega
      · have t3 : decide (0 < c) = true := decide_eq_true (by omega)
        have HE := Lib.hid (show re = c by rw [HR1.out, HAT.out hc0, if_pos hc0])
        clear hc0
        go_wp2_with fail
        go_ret
        exact ⟨by rw [HE.out]; rfl, HK1.out⟩
    · obtain rfl : i = n := by omega
      have HR2 := Lib.hid (show re = (if 3 < Ir.cnt l 0 ∨ 1 < Ir.cnt l 1 ∨ 1 < Ir.cnt l 2 then 8 else if Ir.dupW l = true then 7 else if last ≠ decide (0 < Ir.outs l) then 3 else 0) by
        rw [HR1.out, opErrs_all (fun j hj => HZ.out j (by rw [← HL.out]; exact hj)), if_neg (by decide)])
      clear HZ
      generalize wr = w3 at *
      go_upto_region 10 with fail
      have HB0 := Lib.hid (CntBox.new w3)
      have HK4 := Lib.hid (HK.out.alloc (.cells #[.int .i64 0, .int .i64 0, .int .i64 0] 3))
      have HLT := Lib.hid (show w.heap.size ≤ w3.heap.size from HK.out.size)
      generalize w3.alloc _ = w4 at *
      generalize w3.heap.size = x at *
      clear HK
      generalize i = n at *
      go_wp2_with fail
      go_loopw [10, 11] (fun s10 s11 wr => ∃ i o c0 c1 c2 : Nat, i ≤ n ∧ o ≤ i ∧ c0 ≤ i ∧ c1 ≤ i ∧ c2 ≤ i ∧ s10 = .int .i64 o ∧ s11 = .int .i64 i ∧ (Ir.outs (l.take i) = o ∧ Ir.cnt (l.take i) 0 = c0 ∧ Ir.cnt (l.take i) 1 = c1 ∧ Ir.cnt (l.take i) 2 = c2) ∧ CntBox wr x c0 c1 c2 ∧ Keeps (fun _ => False) w wr) (fun _ s11 _ => n - (intOf s11).toNat)
      case atStart => exact ⟨0, 0, 0, 0, 0, by omega, by omega, by omega, by omega, by omega, rfl, rfl, ⟨rfl, rfl, rfl, rfl⟩, HB0.out, HK4.out⟩
      case round =>
        obtain ⟨i, o, c0, c1, c2, hi, ho, h0, h1, h2, rfl, rfl, hS, hB, hK⟩ := hrel
        have HS := Lib.hid hS
        have HB := Lib.hid hB
        have HK := Lib.hid hK
        clear hS hB hK HB0 HK4
        by_cases hlt : i < n
        · obtain ⟨ob0, oo0, rfl, e0, e1, e2, e3, e4, e5⟩ := (HV.out.quiet HK.out).get hlt
          have hil : i < l.length := by rw [HL.out]; exact hlt
          have hi63 : (i : Int) < n := by omega
          have HC0 := Lib.hid (cnt_step l i hil)
          have HO0 := Lib.hid (outs_step l i hil)
          have HGI := Lib.hid (fun w' (k : Keeps (fun _ => False) w w') => (HV.out.quiet k).get hlt)
          obtain ⟨op, hop⟩ : ∃ op, l.getD i Ir.nop = op := ⟨_, rfl⟩
          rw [hop] at e0 e1 e2 e3 e4 e5 HC0 HO0 HGI
          clear hop hil
          have HCL := Lib.hid (cls_lt op)
          have HCO := Lib.hid (fun w => classOf_any op w)
          have HIO := Lib.hid (fun w => isOut_any op w)
          obtain ⟨cc, hcc⟩ : ∃ cc, Ir.cls op = cc := ⟨_, rfl⟩
          obtain ⟨io, hio⟩ : ∃ io, Ir.isOut (Ir.kn op.k) = io := ⟨_, rfl⟩
          rw [hcc] at HCO HC0 HCL
          rw [hio] at HIO HO0
          clear hcc hio
          obtain ⟨ok, od, oa, ob2, oim, oat⟩ := op
          simp only at e0 e1 e2 e3 e4 e5
          go_wp2_with fail
          refine (HCO.out _).mono ?_
          rintro e w5 ⟨rfl, hk5⟩
          have HK5 := Lib.hid (HK.out.trans hk5 (fun _ _ h => h))
          have HB2 := Lib.hid (HB.out.keep hk5 (fun h => h))
          clear hk5 e0 e1 e2 e3 e4 e5
          obtain ⟨r0, r1, r2, g0, g1, g2⟩ := HB2.out.cells
          obtain rfl | rfl | rfl : cc = 0 ∨ cc = 1 ∨ cc = 2 := by have := HCL.out; omega
          · have hcw : IntKind.i64.wrap ((c0 : Int) + 1) = (c0 : Int) + 1 := by rw [IntKind.wrap_i64]; omega
            go_upto_region 15 with fail
            have HB6 := Lib.hid (HB2.out.up0 ((c0 : Int) + 1) rfl)
            have HK6 := Lib.hid (cntbox_keep (o := 0) (v := .int .i64 ((c0 : Int) + 1)) HK5.out HLT.out)
            generalize w5.setCell ⟨x, 0, none⟩ _ = w6 at *
            obtain ⟨ob, oo, hab, e0, e1, e2, e3, e4, e5⟩ := HGI.out w6 HK6.out
            obtain ⟨rfl, rfl⟩ : ob0 = ob ∧ oo0 = oo := by injection hab with h; injection h with h1 h2; exact ⟨h1, h2⟩
            clear hab r0 r1 r2 g0 g1 g2 hcw
            simp only at e0 e1 e2 e3 e4 e5
            go_wp2_with fail
            refine (HIO.out _).mono ?_
            rintro e w7 ⟨rfl, hk7⟩
            have HK7 := Lib.hid (HK6.out.trans hk7 (fun _ _ h => h))
            have HB7 := Lib.hid (HB6.out.keep hk7 (fun h => h))
            clear hk7 e0 e1 e2 e3 e4 e5
            have ho63 : (o : Int) + 1 ≤ 9223372036854775807 := by omega
            cases io
            · go_wp2_with fail
              go_roundw
              case rel => exact ⟨i + 1, o, c0 + 1, c1, c2, by omega, by omega, by omega, by omega, by omega, rfl, by go_num, ⟨by rw [HO0.out, HS.out.1]; rfl, by rw [HC0.out, HS.out.2.1]; rfl, by rw [HC0.out, HS.out.2.2.1]; rfl, by rw [HC0.out, HS.out.2.2.2]; rfl⟩, HB7.out, HK7.out⟩
              case measure => simp [intOf]; omega
            · go_wp2_with fail
              go_roundw
              case rel => exact ⟨i + 1, o + 1, c0 + 1, c1, c2, by omega, by omega, by omega, by omega, by omega, by go_num, by go_num, ⟨by rw [HO0.out, HS.out.1]; rfl, by rw [HC0.out, HS.out.2.1]; rfl, by rw [HC0.out, HS.out.2.2.1]; rfl, by rw [HC0.out, HS.out.2.2.2]; rfl⟩, HB7.out, HK7.out⟩
              case measure => simp [intOf]; omega
          · have hcw : IntKind.i64.wrap ((c1 : Int) + 1) = (c1 : Int) + 1 := by rw [IntKind.wrap_i64]; omega
            go_upto_region 15 with fail
            have HB6 := Lib.hid (HB2.out.up1 ((c1 : Int) + 1) rfl)
            have HK6 := Lib.hid (cntbox_keep (o := 1) (v := .int .i64 ((c1 : Int) + 1)) HK5.out HLT.out)
            generalize w5.setCell ⟨x, 1, none⟩ _ = w6 at *
            obtain ⟨ob, oo, hab, e0, e1, e2, e3, e4, e5⟩ := HGI.out w6 HK6.out
            obtain ⟨rfl, rfl⟩ : ob0 = ob ∧ oo0 = oo := by injection hab with h; injection h with h1 h2; exact ⟨h1, h2⟩
            clear hab r0 r1 r2 g0 g1 g2 hcw
            simp only at e0 e1 e2 e3 e4 e5
            go_wp2_with fail
            refine (HIO.out _).mono ?_
            rintro e w7 ⟨rfl, hk7⟩
            have HK7 := Lib.hid (HK6.out.trans hk7 (fun _ _ h => h))
            have HB7 := Lib.hid (HB6.out.keep hk7 (fun h => h))
            clear hk7 e0 e1 e2 e3 e4 e5
            have ho63 : (o : Int) + 1 ≤ 9223372036854775807 := by omega
            cases io
            · go_wp2_with fail
              go_roundw
              case rel => exact ⟨i + 1, o, c0, c1 + 1, c2, by omega, by omega, by omega, by omega, by omega, rfl, by go_num, ⟨by rw [HO0.out, HS.out.1]; rfl, by rw [HC0.out, HS.out.2.1]; rfl, by rw [HC0.out, HS.out.2.2.1]; rfl, by rw [HC0.out, HS.out.2.2.2]; rfl⟩, HB7.out, HK7.out⟩
              case measure => simp [intOf]; omega
            · go_wp2_with fail
              go_roundw
              case rel => exact ⟨i + 1, o + 1, c0, c1 + 1, c2, by omega, by omega, by omega, by omega, by omega, by go_num, by go_num, ⟨by rw [HO0.out, HS.out.1]; rfl, by rw [HC0.out, HS.out.2.1]; rfl, by rw [HC0.out, HS.out.2.2.1]; rfl, by rw [HC0.out, HS.out.2.2.2]; rfl⟩, HB7.out, HK7.out⟩
              case measure => simp [intOf]; omega
          · have hcw : IntKind.i64.wrap ((c2 : Int) + 1) = (c2 : Int) + 1 := by rw [IntKind.wrap_i64]; omega
            go_upto_region 15 with fail
            have HB6 := Lib.hid (HB2.out.up2 ((c2 : Int) + 1) rfl)
            have HK6 := Lib.hid (cntbox_keep (o := 2) (v := .int .i64 ((c2 : Int) + 1)) HK5.out HLT.out)
            generalize w5.setCell ⟨x, 2, none⟩ _ = w6 at *
            obtain ⟨ob, oo, hab, e0, e1, e2, e3, e4, e5⟩ := HGI.out w6 HK6.out
            obtain ⟨rfl, rfl⟩ : ob0 = ob ∧ oo0 = oo := by injection hab with h; injection h with h1 h2; exact ⟨h1, h2⟩
            clear hab r0 r1 r2 g0 g1 g2 hcw
            simp only at e0 e1 e2 e3 e4 e5
            go_wp2_with fail
            refine (HIO.out _).mono ?_
            rintro e w7 ⟨rfl, hk7⟩
            have HK7 := Lib.hid (HK6.out.trans hk7 (fun _ _ h => h))
            have HB7 := Lib.hid (HB6.out.keep hk7 (fun h => h))
            clear hk7 e0 e1 e2 e3 e4 e5
            have ho63 : (o : Int) + 1 ≤ 9223372036854775807 := by omega
            cases io
            · go_wp2_with fail
              go_roundw
              case rel => exact ⟨i + 1, o, c0, c1, c2 + 1, by omega, by omega, by omega, by omega, by omega, rfl, by go_num, ⟨by rw [HO0.out, HS.out.1]; rfl, by rw [HC0.out, HS.out.2.1]; rfl, by rw [HC0.out, HS.out.2.2.1]; rfl, by rw [HC0.out, HS.out.2.2.2]; rfl⟩, HB7.out, HK7.out⟩
              case measure => simp [intOf]; omega
            · go_wp2_with fail
              go_roundw
              case rel => exact ⟨i + 1, o + 1, c0, c1, c2 + 1, by omega, by omega, by omega, by omega, by omega, by go_num, by go_num, ⟨by rw [HO0.out, HS.out.1]; rfl, by rw [HC0.out, HS.out.2.1]; rfl, by rw [HC0.out, HS.out.2.2.1]; rfl, by rw [HC0.out, HS.out.2.2.2]; rfl⟩, HB7.out, HK7.out⟩
              case measure => simp [intOf]; omega
        · have hin : i = n := by omega
          have HT := Lib.hid (show Ir.outs l = o ∧ Ir.cnt l 0 = c0 ∧ Ir.cnt l 1 = c1 ∧ Ir.cnt l 2 = c2 by
            have e : l.take i = l := List.take_of_length_le (by rw [HL.out]; omega)
            have h := HS.out
            rwa [e] at h)
          have HR3 := Lib.hid (show re = (if 3 < c0 ∨ 1 < c1 ∨ 1 < c2 then 8 else if Ir.dupW l = true then 7 else if last ≠ decide (0 < o) then 3 else 0) by
            rw [HR2.out, HT.out.1, HT.out.2.1, HT.out.2.2.1, HT.out.2.2.2])
          clear HR2 HR1 HS HT
          subst hin
          generalize i = n at *
          generalize wr = w5 at *
          obtain ⟨r0, r1, r2, g0, g1, g2⟩ := HB.out.cells
          by_cases a0 : 3 < c0
          · have t3 : decide ((3 : Int) < (c0 : Int)) = true := decide_eq_true (by omega)
            have HE := Lib.hid (show re = 8 by rw [HR3.out, if_pos (.inl a0)])
            clear a0
            go_wp2_with fail
            go_ret
            exact ⟨by rw [HE.out]; rfl, HK.out⟩
          have t3 : decide ((3 : Int) < (c0 : Int)) = false := decide_eq_false (by omega)
          by_cases a1 : 1 < c1
          · have t4 : decide ((1 : Int) < (c1 : Int)) = true := decide_eq_true (by omega)
            have HE := Lib.hid (show re = 8 by rw [HR3.out, if_pos (.inr (.inl a1))])
            clear a0 a1
            go_wp2_with fail
            go_ret
            exact ⟨by rw [HE.out]; rfl, HK.out⟩
          have t4 : decide ((1 : Int) < (c1 : Int)) = false := decide_eq_false (by omega)
          by_cases a2 : 1 < c2
          · have t5 : decide ((1 : Int) < (c2 : Int)) = true := decide_eq_true (by omega)
            have HE := Lib.hid (show re = 8 by rw [HR3.out, if_pos (.inr (.inr a2))])
            clear a0 a1 a2
            go_wp2_with fail
            go_ret
            exact ⟨by rw [HE.out]; rfl, HK.out⟩
          have t5 : decide ((1 : Int) < (c2 : Int)) = false := decide_eq_false (by omega)
          have HR4 := Lib.hid (show re = (if Ir.dupW l = true then 7 else if last ≠ decide (0 < o) then 3 else 0) by
            rw [HR3.out, if_neg (by omega)])
          have HKB := Lib.hid HK.out
          clear HR3 a0 a1 a2 HK
          go_wp2_with fail
          go_loopw [13] (fun s13 wr => ∃ i : Nat, i ≤ n ∧ s13 = .int .i64 i ∧ (∀ a k, k < a → a < i → ¬ dupAt l a k) ∧ Keeps (fun _ => False) w wr) (fun s13 _ => n - (intOf s13).toNat)
          case atStart => exact ⟨0, by omega, rfl, fun a k h1 h2 => absurd h2 (by omega), HKB.out⟩
          case round =>
            obtain ⟨i, hi, rfl, hZ, hK⟩ := hrel
            have HZ := Lib.hid hZ
            have HK := Lib.hid hK
            clear hZ hK HKB
            by_cases hlt : i < n
            · have hi63 : (i : Int) < n := by omega
              generalize wr = w6 at *
              go_wp2_with fail
              go_loopw [14] (fun s14 wr => ∃ k : Nat, k ≤ i ∧ s14 = .int .i64 k ∧ (∀ j, j < k → ¬ dupAt l i j) ∧ Keeps (fun _ => False) w wr) (fun s14 _ => i - (intOf s14).toNat)
              case atStart => exact ⟨0, by omega, rfl, fun j h => absurd h (by omega), HK.out⟩
              case round =>
                obtain ⟨k, hk, rfl, hZ, hK⟩ := hrel
                have HZ2 := Lib.hid hZ
                have HK2 := Lib.hid hK
                clear hZ hK HK
                by_cases hkt : k < i
                · have hk63 : (k : Int) < i := by omega
                  have hkn : k < n := by omega
                  have hkn63 : (k : Int) < n := by omega
                  have HGI := Lib.hid (fun w' (q : Keeps (fun _ => False) w w') => (HV.out.quiet q).get hlt)
                  have HGK := Lib.hid (fun w' (q : Keeps (fun _ => False) w w') => (HV.out.quiet q).get hkn)
                  have HD := Lib.hid (show dupAt l i k ↔ 0 < Ir.writes (l.getD i Ir.nop) ∧ Ir.writes (l.getD i Ir.nop) = Ir.writes (l.getD k Ir.nop) from Iff.rfl)
                  have HF := Lib.hid (show dupAt l i k → re = 7 from fun h => by
                    rw [HR4.out, if_pos ((dupW_iff l).2 ⟨i, k, hkt, by rw [HL.out]; exact hlt, h⟩)])
                  obtain ⟨op, hop⟩ : ∃ op, l.getD i Ir.nop = op := ⟨_, rfl⟩
                  obtain ⟨oq, hoq⟩ : ∃ oq, l.getD k Ir.nop = oq := ⟨_, rfl⟩
                  rw [hop] at HGI HD
                  rw [hoq] at HGK HD
                  clear hop hoq
                  have HWI := Lib.hid (fun w => writeOf_any op w)
                  have HWK := Lib.hid (fun w => writeOf_any oq w)
                  obtain ⟨x1, hx1⟩ : ∃ x1, Ir.writes op = x1 := ⟨_, rfl⟩
                  obtain ⟨x2, hx2⟩ : ∃ x2, Ir.writes oq = x2 := ⟨_, rfl⟩
                  rw [hx1] at HWI HD
                  rw [hx2] at HWK HD
                  clear hx1 hx2
                  obtain ⟨db, hdb⟩ : ∃ b, decide (0 < x1 ∧ x1 = x2) = b := ⟨_, rfl⟩
                  have HDB := Lib.hid hdb
                  clear hdb
                  generalize wr = w7 at *
                  obtain ⟨ob, oo, hab, e0, e1, e2, e3, e4, e5⟩ := HGI.out w7 HK2.out
                  obtain ⟨obk, ook, habk, f0, f1, f2, f3, f4, f5⟩ := HGK.out w7 HK2.out
                  obtain ⟨ok, od, oa, ob2, oim, oat⟩ := op
                  obtain ⟨pk, pd, pa, pb2, pim, pat⟩ := oq
                  simp only at e0 e1 e2 e3 e4 e5 f0 f1 f2 f3 f4 f5
                  subst hab
                  obtain ⟨rfl, rfl⟩ : ob = obk ∧ oo = ook := by injection habk with h; injection h with h1 h2; exact ⟨h1, h2⟩
                  clear habk
                  have hcur : Keeps (fun _ => False) w w7 := HK2.out
                  go_upto_region 26 with fail
                  go_cut [108] from 85 to 108 (fun s108 wx => s108 = .bool db ∧ Keeps (fun _ => False) w wx)
                  case first =>
                    by_cases g : 0 < x1
                    · have t7 : decide ((0 : Int) < x1) = true := decide_eq_true g
                      refine wp_region_held_drew (S := fun w' => Keeps (fun _ => False) w7 w') (by kernel_rfl) (Keeps.refl _ w7).drew (fun hH0 => ?_)
                      refine wpAnyH_take (i := 0) (v := ?_) rfl (by kernel_rfl) (by kernel_rfl) (by kernel_rfl) (fun _ _ _ h => h) (Or.inl ⟨by go_simp, ?_⟩) hH0 ?_
                      rotate_left
                      · intro w' hSw
                        go_simp
                        try with_reducible rfl
                      simp only [Act.put, List.setIfInBounds_toArray, List.set_cons_zero, List.set_cons_succ]
                      refine wpAnyH_take (i := 1) (v := ?_) rfl (by kernel_rfl) (by kernel_rfl) (by kernel_rfl) (fun _ _ _ h => h) (Or.inl ⟨by go_simp, ?_⟩) hH0 ?_
                      rotate_left
                      · intro w' hSw
                        go_simp
                        try with_reducible rfl
                      simp only [Act.put, List.setIfInBounds_toArray, List.set_cons_zero, List.set_cons_succ]
                      refine wpAnyH_take (i := 2) (v := ?_) rfl (by kernel_rfl) (by kernel_rfl) (by kernel_rfl) (fun _ _ _ h => h) (Or.inl ⟨by go_simp, ?_⟩) hH0 ?_
                      rotate_left
                      · intro w' hSw
                        go_simp
                        try with_reducible rfl
                      simp only [Act.put, List.setIfInBounds_toArray, List.set_cons_zero, List.set_cons_succ]
                      refine wpAnyH_take (i := 3) (v := ?_) rfl (by kernel_rfl) (by kernel_rfl) (by kernel_rfl) (fun _ _ _ h => h) (Or.inl ⟨by go_simp, ?_⟩) hH0 ?_
                      rotate_left
                      · intro w' hSw
                        have g0 := Keeps.cell' hSw e0 (fun f => f)
                        have g1 := Keeps.cell' hSw e1 (fun f => f)
                        have g2 := Keeps.cell' hSw e2 (fun f => f)
                        have g3 := Keeps.cell' hSw e3 (fun f => f)
                        have g4 := Keeps.cell' hSw e4 (fun f => f)
                        have g5 := Keeps.cell' hSw e5 (fun f => f)
                        go_simp
                        try with_reducible rfl
                      simp only [Act.put, List.setIfInBounds_toArray, List.set_cons_zero, List.set_cons_succ]
                      refine wpAnyH_ready (rs := [4]) (by kernel_rfl) (by simp) ?_
                      refine AllReadyH.cons rfl (fun K hK => ?_) AllReadyH.nil
                      go_simp
                      refine (HWI.out _).mono ?_
                      rintro e wa ⟨rfl, hka⟩
                      go_wp2_with fail
                      have hH1 := Keeps.trans hH0 hka (fun _ _ h => h)
                      refine hK.out _ _ hH1 (fun _ => ?_)
                      clear hK K
                      try simp only [Act.put, List.setIfInBounds_toArray, List.set_cons_zero, List.set_cons_succ]
                      refine wpAnyH_take (i := 5) (v := ?_) rfl (by kernel_rfl) (by kernel_rfl) (by kernel_rfl) (fun _ _ _ h => h) (Or.inl ⟨by go_simp, ?_⟩) hH1 ?_
                      rotate_left
                      · intro w' hSw
                        go_simp
                        try with_reducible rfl
                      simp only [Act.put, List.setIfInBounds_toArray, List.set_cons_zero, List.set_cons_succ]
                      refine wpAnyH_take (i := 6) (v := ?_) rfl (by kernel_rfl) (by kernel_rfl) (by kernel_rfl) (fun _ _ _ h => h) (Or.inl ⟨by go_simp, ?_⟩) hH1 ?_
                      rotate_left
                      · intro w' hSw
                        go_simp
                        try with_reducible rfl
                      simp only [Act.put, List.setIfInBounds_toArray, List.set_cons_zero, List.set_cons_succ]
                      refine wpAnyH_take (i := 7) (v := ?_) rfl (by kernel_rfl) (by kernel_rfl) (by kernel_rfl) (fun _ _ _ h => h) (Or.inl ⟨by go_simp, ?_⟩) hH1 ?_
                      rotate_left
                      · intro w' hSw
                        go_simp
                        try with_reducible rfl
                      simp only [Act.put, List.setIfInBounds_toArray, List.set_cons_zero, List.set_cons_succ]
                      refine wpAnyH_take (i := 8) (v := ?_) rfl (by kernel_rfl) (by kernel_rfl) (by kernel_rfl) (fun _ _ _ h => h) (Or.inl ⟨by go_simp, ?_⟩) hH1 ?_
                      rotate_left
                      · intro w' hSw
                        go_simp
                        try with_reducible rfl
                      simp only [Act.put, List.setIfInBounds_toArray, List.set_cons_zero, List.set_cons_succ]
                      refine wpAnyH_take (i := 9) (v := ?_) rfl (by kernel_rfl) (by kernel_rfl) (by kernel_rfl) (fun _ _ _ h => h) (Or.inl ⟨by go_simp, ?_⟩) hH1 ?_
                      rotate_left
                      · intro w' hSw
                        go_simp
                        try with_reducible rfl
                      simp only [Act.put, List.setIfInBounds_toArray, List.set_cons_zero, List.set_cons_succ]
                      refine wpAnyH_take (i := 10) (v := ?_) rfl (by kernel_rfl) (by kernel_rfl) (by kernel_rfl) (fun _ _ _ h => h) (Or.inl ⟨by go_simp, ?_⟩) hH1 ?_
                      rotate_left
                      · intro w' hSw
                        have g0 := Keeps.cell' hSw e0 (fun f => f)
                        have g1 := Keeps.cell' hSw e1 (fun f => f)
                        have g2 := Keeps.cell' hSw e2 (fun f => f)
                        have g3 := Keeps.cell' hSw e3 (fun f => f)
                        have g4 := Keeps.cell' hSw e4 (fun f => f)
                        have g5 := Keeps.cell' hSw e5 (fun f => f)
                        go_simp
                        try with_reducible rfl
                      simp only [Act.put, List.setIfInBounds_toArray, List.set_cons_zero, List.set_cons_succ]
                      refine wpAnyH_take (i := 12) (v := ?_) rfl (by kernel_rfl) (by kernel_rfl) (by kernel_rfl) (fun _ _ _ h => h) (Or.inl ⟨by go_simp, ?_⟩) hH1 ?_
                      rotate_left
                      · intro w' hSw
                        go_simp
                        try with_reducible rfl
                      simp only [Act.put, List.setIfInBounds_toArray, List.set_cons_zero, List.set_cons_succ]
                      refine wpAnyH_take (i := 13) (v := ?_) rfl (by kernel_rfl) (by kernel_rfl) (by kernel_rfl) (fun _ _ _ h => h) (Or.inl ⟨by go_simp, ?_⟩) hH1 ?_
                      rotate_left
                      · intro w' hSw
                        go_simp
                        try with_reducible rfl
                      simp only [Act.put, List.setIfInBounds_toArray, List.set_cons_zero, List.set_cons_succ]
                      refine wpAnyH_take (i := 14) (v := ?_) rfl (by kernel_rfl) (by kernel_rfl) (by kernel_rfl) (fun _ _ _ h => h) (Or.inl ⟨by go_simp, ?_⟩) hH1 ?_
                      rotate_left
                      · intro w' hSw
                        go_simp
                        try with_reducible rfl
                      simp only [Act.put, List.setIfInBounds_toArray, List.set_cons_zero, List.set_cons_succ]
                      refine wpAnyH_take (i := 15) (v := ?_) rfl (by kernel_rfl) (by kernel_rfl) (by kernel_rfl) (fun _ _ _ h => h) (Or.inl ⟨by go_simp, ?_⟩) hH1 ?_
                      rotate_left
                      · intro w' hSw
                        have g0 := Keeps.cell' hSw f0 (fun f => f)
                        have g1 := Keeps.cell' hSw f1 (fun f => f)
                        have g2 := Keeps.cell' hSw f2 (fun f => f)
                        have g3 := Keeps.cell' hSw f3 (fun f => f)
                        have g4 := Keeps.cell' hSw f4 (fun f => f)
                        have g5 := Keeps.cell' hSw f5 (fun f => f)
                        go_simp
                        try with_reducible rfl
                      simp only [Act.put, List.setIfInBounds_toArray, List.set_cons_zero, List.set_cons_succ]
                      refine wpAnyH_ready (rs := [11]) (by kernel_rfl) (by simp) ?_
                      refine AllReadyH.cons rfl (fun K hK => ?_) AllReadyH.nil
                      go_simp
                      refine (HWI.out _).mono ?_
                      rintro e wb ⟨rfl, hkb⟩
                      go_wp2_with fail
                      have hH2 := Keeps.trans hH1 hkb (fun _ _ h => h)
                      refine hK.out _ _ hH2 (fun _ => ?_)
                      clear hK K
                      try simp only [Act.put, List.setIfInBounds_toArray, List.set_cons_zero, List.set_cons_succ]
                      refine wpAnyH_ready (rs := [16]) (by kernel_rfl) (by simp) ?_
                      refine AllReadyH.cons rfl (fun K hK => ?_) AllReadyH.nil
                      go_simp
                      refine (HWK.out _).mono ?_
                      rintro e wc ⟨rfl, hkc⟩
                      go_wp2_with fail
                      have hH3 := Keeps.trans hH2 hkc (fun _ _ h => h)
                      refine hK.out _ _ hH3 (fun _ => ?_)
                      clear hK K
                      try simp only [Act.put, List.setIfInBounds_toArray, List.set_cons_zero, List.set_cons_succ]
                      refine wpAnyH_take (i := 17) (v := ?_) rfl (by kernel_rfl) (by kernel_rfl) (by kernel_rfl) (fun _ _ _ h => h) (Or.inl ⟨by go_simp, ?_⟩) hH3 ?_
                      rotate_left
                      · intro w' hSw
                        go_simp
                        try with_reducible rfl
                      simp only [Act.put, List.setIfInBounds_toArray, List.set_cons_zero, List.set_cons_succ]
                      refine wpAnyH_ready (rs := [18]) (by kernel_rfl) (by simp) ?_
                      refine AllReadyH.cons rfl (fun K hK => ?_) AllReadyH.nil
                      go_simp
                      refine hK.out _ _ hH3 (fun _ => ?_)
                      clear hK K
                      try simp only [Act.put, List.setIfInBounds_toArray, List.set_cons_zero, List.set_cons_succ]
                      refine wpAnyH_done (by kernel_rfl) ?_ _
                      go_wp2_with fail
                      go_meet
                      exact ⟨by rw [← HDB.out]; exact congrArg Value.bool (by rw [Bool.eq_iff_iff]; simp [g]), hcur.trans hH3 (fun _ _ h => h)⟩
                    · have t7 : decide ((0 : Int) < x1) = false := decide_eq_false g
                      refine wp_region_held_drew (S := fun w' => Keeps (fun _ => False) w7 w') (by kernel_rfl) (Keeps.refl _ w7).drew (fun hH0 => ?_)
                      refine wpAnyH_take (i := 0) (v := ?_) rfl (by kernel_rfl) (by kernel_rfl) (by kernel_rfl) (fun _ _ _ h => h) (Or.inl ⟨by go_simp, ?_⟩) hH0 ?_
                      rotate_left
                      · intro w' hSw
                        go_simp
                        try with_reducible rfl
                      simp only [Act.put, List.setIfInBounds_toArray, List.set_cons_zero, List.set_cons_succ]
                      refine wpAnyH_take (i := 1) (v := ?_) rfl (by kernel_rfl) (by kernel_rfl) (by kernel_rfl) (fun _ _ _ h => h) (Or.inl ⟨by go_simp, ?_⟩) hH0 ?_
                      rotate_left
                      · intro w' hSw
                        go_simp
                        try with_reducible rfl
                      simp only [Act.put, List.setIfInBounds_toArray, List.set_cons_zero, List.set_cons_succ]
                      refine wpAnyH_take (i := 2) (v := ?_) rfl (by kernel_rfl) (by kernel_rfl) (by kernel_rfl) (fun _ _ _ h => h) (Or.inl ⟨by go_simp, ?_⟩) hH0 ?_
                      rotate_left
                      · intro w' hSw
                        go_simp
                        try with_reducible rfl
                      simp only [Act.put, List.setIfInBounds_toArray, List.set_cons_zero, List.set_cons_succ]
                      refine wpAnyH_take (i := 3) (v := ?_) rfl (by kernel_rfl) (by kernel_rfl) (by kernel_rfl) (fun _ _ _ h => h) (Or.inl ⟨by go_simp, ?_⟩) hH0 ?_
                      rotate_left
                      · intro w' hSw
                        have g0 := Keeps.cell' hSw e0 (fun f => f)
                        have g1 := Keeps.cell' hSw e1 (fun f => f)
                        have g2 := Keeps.cell' hSw e2 (fun f => f)
                        have g3 := Keeps.cell' hSw e3 (fun f => f)
                        have g4 := Keeps.cell' hSw e4 (fun f => f)
                        have g5 := Keeps.cell' hSw e5 (fun f => f)
                        go_simp
                        try with_reducible rfl
                      simp only [Act.put, List.setIfInBounds_toArray, List.set_cons_zero, List.set_cons_succ]
                      refine wpAnyH_ready (rs := [4]) (by kernel_rfl) (by simp) ?_
                      refine AllReadyH.cons rfl (fun K hK => ?_) AllReadyH.nil
                      go_simp
                      refine (HWI.out _).mono ?_
                      rintro e wa ⟨rfl, hka⟩
                      go_wp2_with fail
                      have hH1 := Keeps.trans hH0 hka (fun _ _ h => h)
                      refine hK.out _ _ hH1 (fun _ => ?_)
                      clear hK K
                      try simp only [Act.put, List.setIfInBounds_toArray, List.set_cons_zero, List.set_cons_succ]
                      refine wpAnyH_take (i := 5) (v := ?_) rfl (by kernel_rfl) (by kernel_rfl) (by kernel_rfl) (fun _ _ _ h => h) (Or.inl ⟨by go_simp, ?_⟩) hH1 ?_
                      rotate_left
                      · intro w' hSw
                        go_simp
                        try with_reducible rfl
                      simp only [Act.put, List.setIfInBounds_toArray, List.set_cons_zero, List.set_cons_succ]
                      refine wpAnyH_take (i := 6) (v := ?_) rfl (by kernel_rfl) (by kernel_rfl) (by kernel_rfl) (fun _ _ _ h => h) (Or.inl ⟨by go_simp, ?_⟩) hH1 ?_
                      rotate_left
                      · intro w' hSw
                        go_simp
                        try with_reducible rfl
                      simp only [Act.put, List.setIfInBounds_toArray, List.set_cons_zero, List.set_cons_succ]
                      refine wpAnyH_take (i := 7) (v := undef) rfl (by kernel_rfl) (by kernel_rfl) (by kernel_rfl) (fun _ _ _ h => h) (Or.inr ⟨by first | (go_simp; done) | (go_simp; intro h; cases h), rfl⟩) hH1 ?_
                      simp only [Act.put, List.setIfInBounds_toArray, List.set_cons_zero, List.set_cons_succ]
                      refine wpAnyH_take (i := 8) (v := undef) rfl (by kernel_rfl) (by kernel_rfl) (by kernel_rfl) (fun _ _ _ h => h) (Or.inr ⟨by first | (go_simp; done) | (go_simp; intro h; cases h), rfl⟩) hH1 ?_
                      simp only [Act.put, List.setIfInBounds_toArray, List.set_cons_zero, List.set_cons_succ]
                      refine wpAnyH_take (i := 9) (v := undef) rfl (by kernel_rfl) (by kernel_rfl) (by kernel_rfl) (fun _ _ _ h => h) (Or.inr ⟨by first | (go_simp; done) | (go_simp; intro h; cases h), rfl⟩) hH1 ?_
                      simp only [Act.put, List.setIfInBounds_toArray, List.set_cons_zero, List.set_cons_succ]
                      refine wpAnyH_take (i := 10) (v := undef) rfl (by kernel_rfl) (by kernel_rfl) (by kernel_rfl) (fun _ _ _ h => h) (Or.inr ⟨by first | (go_simp; done) | (go_simp; intro h; cases h), rfl⟩) hH1 ?_
                      simp only [Act.put, List.setIfInBounds_toArray, List.set_cons_zero, List.set_cons_succ]
                      refine wpAnyH_take (i := 11) (v := undef) rfl (by kernel_rfl) (by kernel_rfl) (by kernel_rfl) (fun _ _ _ h => h) (Or.inr ⟨by first | (go_simp; done) | (go_simp; intro h; cases h), rfl⟩) hH1 ?_
                      simp only [Act.put, List.setIfInBounds_toArray, List.set_cons_zero, List.set_cons_succ]
                      refine wpAnyH_take (i := 12) (v := undef) rfl (by kernel_rfl) (by kernel_rfl) (by kernel_rfl) (fun _ _ _ h => h) (Or.inr ⟨by first | (go_simp; done) | (go_simp; intro h; cases h), rfl⟩) hH1 ?_
                      simp only [Act.put, List.setIfInBounds_toArray, List.set_cons_zero, List.set_cons_succ]
                      refine wpAnyH_take (i := 13) (v := undef) rfl (by kernel_rfl) (by kernel_rfl) (by kernel_rfl) (fun _ _ _ h => h) (Or.inr ⟨by first | (go_simp; done) | (go_simp; intro h; cases h), rfl⟩) hH1 ?_
                      simp only [Act.put, List.setIfInBounds_toArray, List.set_cons_zero, List.set_cons_succ]
                      refine wpAnyH_take (i := 14) (v := undef) rfl (by kernel_rfl) (by kernel_rfl) (by kernel_rfl) (fun _ _ _ h => h) (Or.inr ⟨by first | (go_simp; done) | (go_simp; intro h; cases h), rfl⟩) hH1 ?_
                      simp only [Act.put, List.setIfInBounds_toArray, List.set_cons_zero, List.set_cons_succ]
                      refine wpAnyH_take (i := 15) (v := undef) rfl (by kernel_rfl) (by kernel_rfl) (by kernel_rfl) (fun _ _ _ h => h) (Or.inr ⟨by first | (go_simp; done) | (go_simp; intro h; cases h), rfl⟩) hH1 ?_
                      simp only [Act.put, List.setIfInBounds_toArray, List.set_cons_zero, List.set_cons_succ]
                      refine wpAnyH_take (i := 16) (v := undef) rfl (by kernel_rfl) (by kernel_rfl) (by kernel_rfl) (fun _ _ _ h => h) (Or.inr ⟨by first | (go_simp; done) | (go_simp; intro h; cases h), rfl⟩) hH1 ?_
                      simp only [Act.put, List.setIfInBounds_toArray, List.set_cons_zero, List.set_cons_succ]
                      refine wpAnyH_take (i := 17) (v := undef) rfl (by kernel_rfl) (by kernel_rfl) (by kernel_rfl) (fun _ _ _ h => h) (Or.inr ⟨by first | (go_simp; done) | (go_simp; intro h; cases h), rfl⟩) hH1 ?_
                      simp only [Act.put, List.setIfInBounds_toArray, List.set_cons_zero, List.set_cons_succ]
                      refine wpAnyH_ready (rs := [18]) (by kernel_rfl) (by simp) ?_
                      refine AllReadyH.cons rfl (fun K hK => ?_) AllReadyH.nil
                      go_simp
                      refine hK.out _ _ hH1 (fun _ => ?_)
                      clear hK K
                      try simp only [Act.put, List.setIfInBounds_toArray, List.set_cons_zero, List.set_cons_succ]
                      refine wpAnyH_done (by kernel_rfl) ?_ _
                      go_wp2_with fail
                      go_meet
                      exact ⟨by rw [← HDB.out, decide_eq_false (by omega)], hcur.trans hH1 (fun _ _ h => h)⟩
                  case rest =>
                    obtain ⟨rfl, hkc⟩ := hcut
                    have HKC := Lib.hid hkc
                    clear e0 e1 e2 e3 e4 e5 f0 f1 f2 f3 f4 f5 hkc hcur
                    cases db
                    · have HND := Lib.hid (show ¬ dupAt l i k from fun h => of_decide_eq_false HDB.out (HD.out.1 h))
                      go_wp2_with fail
                      go_roundw
                      case rel => exact ⟨k + 1, by omega, by go_num, fun j hj => by
                        by_cases e : j < k
                        · exact HZ2.out j e
                        · obtain rfl : j = k := by omega
                          exact HND.out, HKC.out⟩
                      case measure => simp [intOf]; omega
                    · have HE := Lib.hid (HF.out (HD.out.2 (of_decide_eq_true HDB.out)))
                      go_wp2_with fail
                      go_ret
                      exact ⟨by rw [HE.out]; rfl, HKC.out⟩
                · have hki : k = i := by omega
                  have HZ3 := Lib.hid (show ∀ a k, k < a → a < i + 1 → ¬ dupAt l a k from fun a k' h1 h2 => by
                    by_cases e : a < i
                    · exact HZ.out a k' h1 e
                    · obtain rfl : a = i := by omega
                      exact HZ2.out k' (by omega))
                  subst hki
                  go_wp2_with fail
                  go_roundw
                  case rel => exact ⟨k + 1, by omega, by go_num, HZ3.out, HK2.out⟩
                  case measure => simp [intOf]; omega
            · have hin : i = n := by omega
              have HR5 := Lib.hid (show re = (if last ≠ decide (0 < o) then 3 else 0) by
                rw [HR4.out, if_neg (fun h => by
                  obtain ⟨a, k, h1, h2, h3⟩ := (dupW_iff l).1 h
                  exact HZ.out a k h1 (by rw [← HL.out] at hin; omega) h3)])
              clear HR4 HZ
              subst hin
              by_cases hz : 0 < o
              · have t6 : decide ((0 : Int) < (o : Int)) = true := decide_eq_true (by omega)
                have HE := Lib.hid (show re = (if last = true then 0 else 3) by rw [HR5.out, decide_eq_true hz]; cases last <;> rfl)
                clear HR5
                cases last
                · go_wp2_with fail
                  all_goals (first | (exfalso; omega) | (go_ret; exact ⟨by rw [HE.out]; rfl, HK.out⟩))
                · go_wp2_with fail
                  all_goals (first | (exfalso; omega) | (go_ret; exact ⟨by rw [HE.out]; rfl, HK.out⟩))
              · have t6 : decide ((0 : Int) < (o : Int)) = false := decide_eq_false (by omega)
                have HE := Lib.hid (show re = (if last = true then 3 else 0) by rw [HR5.out, decide_eq_false hz]; cases last <;> rfl)
                clear HR5
                cases last
                · go_wp2_with fail
                  all_goals (first | (exfalso; omega) | (go_ret; exact ⟨by rw [HE.out]; rfl, HK.out⟩))
                · go_wp2_with fail
                  all_goals (first | (exfalso; omega) | (go_ret; exact ⟨by rw [HE.out]; rfl, HK.out⟩))
end Go.Proofs.YtlmnmncdoiealaaGreatDoor
