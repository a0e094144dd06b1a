import Derived.Test.YtknhfobcejpmeaaGreatDoorHrz00
import Derived.WalkKit
import Derived.LoopTactic
import Derived.Test.YtknhfobcejpmeaaGreatDoorOptDefs
import Derived.Maps.OwnSet
import Derived.Test.YtknhfobcejpmeaaGreatDoorStDefs
import Derived.Laws.BitsAllLaws

/- IrOp3 -/
/- The walks of the reference's isOut, IsOf, isSize, OpError. -/
namespace Go.Proofs.YtknhfobcejpmeaaGreatDoor
open Go.RowKit Go.Deep
set_option linter.unusedVariables false
set_option linter.unusedSimpArgs false

theorem isOut_any (o : Ir.Op) (w : World) :
    Calls Tryz.prog 48 #[.agg (opC o)] w fun e w' => e = .returned (.bool (Ir.isOut (Ir.kn o.k))) ∧ Keeps (fun _ => False) w w' := by
  obtain ⟨k, d, a, b, im, t⟩ := o
  have h8 := is_out k
  have h9 := is_outr k
  have HK := Lib.hid ((Keeps.refl (fun _ => False) w).alloc (.cells #[.string k, .int .i64 d, .int .i64 a, .int .i64 b, .int .u32 im, .int .i64 t] 100))
  have HR : Hid (Ir.isOut (Ir.kn k) = (Ir.kn k == 8 || Ir.kn k == 9)) := Lib.hid (by unfold Ir.isOut; simp [Bool.decide_or, nat_beq])
  generalize Ir.isOut (Ir.kn k) = r at *
  cases e8 : (Ir.kn k == 8) <;> cases e9 : (Ir.kn k == 9)
  all_goals
    rw [e8] at h8 HR
    rw [e9] at h9 HR
    clear e8 e9
    obtain rfl := HR.out
    unfold opC
    go_enter Tryz.func48, Tryz.ntmps48
    go_wp2_with fail
    go_ret
    exact ⟨rfl, HK.out⟩

def hasC (l : List UInt8) (c : UInt8) : Bool := l.contains c
/-- a text has a letter -/
theorem has_step (l : List UInt8) (c : UInt8) (i : Nat) (hi : i < l.length) : hasC (l.take (i + 1)) c = (hasC (l.take i) c || l[i] == c) := by
  unfold hasC
  rw [List.take_succ_eq_append_getElem hi, List.contains_append]
  congr 1
  rw [List.contains_cons, List.contains_nil, Bool.or_false, Bool.beq_comm]
set_option maxHeartbeats 1000000 in
theorem isOf_any (l : List UInt8) (c : UInt8) (hl : l.length < 100) (w : World) :
    Calls Tryz.prog 89 #[.string ⟨l.toArray⟩, .int .u8 c.toNat] w fun e w' => e = .returned (.bool (hasC l c)) ∧ w = w' := by
  have hsz : (⟨l.toArray⟩ : ByteArray).size = l.length := by simp [ByteArray.size]
  go_enter Tryz.func89, Tryz.ntmps89
  go_wp2_with fail
  go_loopw [5] (fun s5 wr => ∃ i : Nat, i ≤ l.length ∧ s5 = .int .i64 i ∧ hasC (l.take i) c = false ∧ w = wr) (fun s5 _ => l.length - (intOf s5).toNat)
  case atStart => exact ⟨0, by omega, rfl, rfl, rfl⟩
  case round =>
    obtain ⟨i, hi, rfl, hf, rfl⟩ := hrel
    by_cases hlt : i < l.length
    · have hs := has_step l c i hlt
      rw [hf, Bool.false_or] at hs
      have ht : ((((⟨l.toArray⟩ : ByteArray)[i]'(by rw [hsz]; exact hlt)).toNat : Int) == (c.toNat : Int)) = (l[i] == c) := by
        have e : (⟨l.toArray⟩ : ByteArray)[i]'(by rw [hsz]; exact hlt) = l[i] := rfl
        rw [e, Bool.eq_iff_iff, beq_iff_eq, beq_iff_eq]
        constructor
        · intro h
          exact UInt8.toNat_inj.1 (by omega)
        · intro h
          rw [h]
      cases hb : (l[i] == c)
      · rw [hb] at hs ht
        clear hb
        go_wp2_with fail
        go_roundw
        case rel => exact ⟨i + 1, by omega, by go_num, hs, trivial⟩
        case measure => simp [intOf]; omega
      · rw [hb] at hs ht
        have HF : Hid (hasC l c = true) := Lib.hid (by
          unfold hasC at hs ⊢
          rw [List.contains_iff_mem] at hs ⊢
          exact List.mem_of_mem_take hs)
        clear hb
        go_wp2_with fail
        go_ret
        exact ⟨by rw [HF.out]; rfl, rfl⟩
    · obtain rfl : i = l.length := by omega
      rw [List.take_length] at hf
      have HF := Lib.hid hf
      clear hf
      go_wp2_with fail
      go_ret
      exact ⟨by rw [HF.out]; rfl, rfl⟩

set_option maxRecDepth 100000 in
theorem has_fields (c : Nat) (hc : c ≤ 27) (l : UInt8) (hl : l = 68 ∨ l = 65 ∨ l = 66 ∨ l = 73) : hasC (Ir.fieldsS c) l = hasL c l ∧ (Ir.fieldsS c).length < 100 := by
  have key : ∀ c : Fin 28, ∀ l ∈ [(68 : UInt8), 65, 66, 73], hasC (Ir.fieldsS c.val) l = hasL c.val l ∧ (Ir.fieldsS c.val).length < 100 := by decide +kernel
  exact key ⟨c, by omega⟩ l (by rcases hl with rfl | rfl | rfl | rfl <;> decide)
theorem isOf_fields (c : Nat) (hc : c ≤ 27) (l : UInt8) (hl : l = 68 ∨ l = 65 ∨ l = 66 ∨ l = 73) (w : World) :
    Calls Tryz.prog 89 #[.string (fieldsB c), .int .u8 l.toNat] w fun e w' => e = .returned (.bool (hasL c l)) ∧ w' = w := by
  obtain ⟨h1, h2⟩ := has_fields c hc l hl
  rw [← h1]
  exact (isOf_any (Ir.fieldsS c) l h2 w).mono fun e w' ⟨he, hw⟩ => ⟨he, hw.symm⟩
theorem isSize5 (n : Int) (w : World) :
    Calls Tryz.prog 90 #[.int .i64 n, .bool true] w fun e w' => e = .returned (.bool (decide (n = 1 ∨ n = 2 ∨ n = 4 ∨ n = -1 ∨ n = -2))) ∧ w' = w := by
  obtain ⟨r, hr⟩ : ∃ r, decide (n = 1 ∨ n = 2 ∨ n = 4 ∨ n = -1 ∨ n = -2) = r := ⟨_, rfl⟩
  rw [hr]
  have HR := Lib.hid hr.symm
  clear hr
  by_cases g0 : n = 1
  · subst g0
    have HR2 := Lib.hid (HR.out.trans (decide_eq_true (by omega)))
    clear HR
    go_enter Tryz.func90, Tryz.ntmps90
    go_wp2_with fail
    go_ret
    exact ⟨by rw [HR2.out]; rfl, rfl⟩
  · have f0 : (n == 1) = false := by simpa using g0
    by_cases g1 : n = 2
    · subst g1
      have HR2 := Lib.hid (HR.out.trans (decide_eq_true (by omega)))
      clear HR
      go_enter Tryz.func90, Tryz.ntmps90
      go_wp2_with fail
      go_ret
      exact ⟨by rw [HR2.out]; rfl, rfl⟩
    · have f1 : (n == 2) = false := by simpa using g1
      by_cases g2 : n = 4
      · subst g2
        have HR2 := Lib.hid (HR.out.trans (decide_eq_true (by omega)))
        clear HR
        go_enter Tryz.func90, Tryz.ntmps90
        go_wp2_with fail
        go_ret
        exact ⟨by rw [HR2.out]; rfl, rfl⟩
      · have f2 : (n == 4) = false := by simpa using g2
        by_cases g3 : n = (-1)
        · subst g3
          have HR2 := Lib.hid (HR.out.trans (decide_eq_true (by omega)))
          clear HR
          go_enter Tryz.func90, Tryz.ntmps90
          go_wp2_with fail
          go_ret
          exact ⟨by rw [HR2.out]; rfl, rfl⟩
        · have f3 : (n == (-1)) = false := by simpa using g3
          by_cases g4 : n = (-2)
          · subst g4
            have HR2 := Lib.hid (HR.out.trans (decide_eq_true (by omega)))
            clear HR
            go_enter Tryz.func90, Tryz.ntmps90
            go_wp2_with fail
            go_ret
            exact ⟨by rw [HR2.out]; rfl, rfl⟩
          · have f4 : (n == (-2)) = false := by simpa using g4
            have HR2 := Lib.hid (HR.out.trans (decide_eq_false (by omega)))
            clear HR
            go_enter Tryz.func90, Tryz.ntmps90
            go_wp2_with fail
            go_ret
            exact ⟨by rw [HR2.out]; rfl, rfl⟩
theorem isSize6 (n : Int) (w : World) :
    Calls Tryz.prog 90 #[.int .i64 n, .bool false] w fun e w' => e = .returned (.bool (decide (n = 1 ∨ n = 2 ∨ n = 4))) ∧ w' = w := by
  obtain ⟨r, hr⟩ : ∃ r, decide (n = 1 ∨ n = 2 ∨ n = 4) = r := ⟨_, rfl⟩
  rw [hr]
  have HR := Lib.hid hr.symm
  clear hr
  by_cases g0 : n = 1
  · subst g0
    have HR2 := Lib.hid (HR.out.trans (decide_eq_true (by omega)))
    clear HR
    go_enter Tryz.func90, Tryz.ntmps90
    go_wp2_with fail
    go_ret
    exact ⟨by rw [HR2.out]; rfl, rfl⟩
  · have f0 : (n == 1) = false := by simpa using g0
    by_cases g1 : n = 2
    · subst g1
      have HR2 := Lib.hid (HR.out.trans (decide_eq_true (by omega)))
      clear HR
      go_enter Tryz.func90, Tryz.ntmps90
      go_wp2_with fail
      go_ret
      exact ⟨by rw [HR2.out]; rfl, rfl⟩
    · have f1 : (n == 2) = false := by simpa using g1
      by_cases g2 : n = 4
      · subst g2
        have HR2 := Lib.hid (HR.out.trans (decide_eq_true (by omega)))
        clear HR
        go_enter Tryz.func90, Tryz.ntmps90
        go_wp2_with fail
        go_ret
        exact ⟨by rw [HR2.out]; rfl, rfl⟩
      · have f2 : (n == 4) = false := by simpa using g2
        have HR2 := Lib.hid (HR.out.trans (decide_eq_false (by omega)))
        clear HR
        go_enter Tryz.func90, Tryz.ntmps90
        go_wp2_with fail
        go_ret
        exact ⟨by rw [HR2.out]; rfl, rfl⟩
set_option maxHeartbeats 4000000 in
set_option maxRecDepth 100000 in
theorem opError_any (o : Ir.Op) (many : Int) (w : World) :
    Calls Tryz.prog 49 #[.agg (opC o), .int .i64 many] w fun e w' => e = .returned (.int .i64 (Ir.opErr o many)) ∧ Keeps (fun _ => False) w w' := by
  obtain ⟨k, d, a, b, im, t⟩ := o
  have HN := Lib.hid (op_new w k d a b im t 100)
  have HH := Lib.hid (fun w => fieldsOf_any k w)
  have HC := Lib.hid (fun l hl w => isOf_fields (Ir.kn k) (Ir.kn_le k) l hl w)
  have hf := fields_none (Ir.kn k) (Ir.kn_le k)
  have H5 := Lib.hid (is_load k)
  have H6 := Lib.hid (is_store k)
  obtain ⟨r, hr⟩ : ∃ r : Nat, Ir.opErr ⟨k, d, a, b, im, t⟩ many = r := ⟨_, rfl⟩
  rw [hr]
  have hr0 : r = if Ir.kn k = 0 then 4 else if ((((!hasL (Ir.kn k) 68 || (Ir.kn k == 6) || decide (1 ≤ d ∧ d < 64)) && (!hasL (Ir.kn k) 65 || decide (0 ≤ a ∧ a < 64)) && (!hasL (Ir.kn k) 66 || (Ir.kn k == 5) || decide (0 ≤ b ∧ b < 64))) && (if Ir.kn k = 5 then decide (b = 1 ∨ b = 2 ∨ b = 4 ∨ b = -1 ∨ b = -2) else if Ir.kn k = 6 then decide (d = 1 ∨ d = 2 ∨ d = 4) else true)) && decide (0 ≤ t) && decide (t < many)) = false then 2
      else if ((hasL (Ir.kn k) 68 || decide (d = 0)) && (hasL (Ir.kn k) 65 || decide (a = 0)) && (hasL (Ir.kn k) 66 || decide (b = 0)) && (hasL (Ir.kn k) 73 || decide (im = 0))) = false then 3 else 0 := by
    rw [← hr]
    unfold Ir.opErr Ir.regs Ir.bytes Ir.bare
    simp only [nat_beq]
    rfl
  clear hr
  generalize hcc : Ir.kn k = c at *
  clear hcc
  by_cases h0 : c = 0
  · rw [if_pos h0] at hr0
    subst hr0
    have hf' : (fieldsB c).toList.isEmpty = true := by rw [hf, h0]; rfl
    clear h0 hf
    generalize fieldsB c = fb at *
    unfold opC
    go_enter Tryz.func49, Tryz.ntmps49
    go_upto_region 1 with fail
    obtain ⟨hV, hK⟩ := HN.out
    generalize w.alloc _ = w1 at *
    generalize w.heap.size = x at *
    have v0 := hV.v0
    have HK := Lib.hid hK
    clear hK HN
    go_wp2_with fail
    refine (HH.out _).mono ?_
    rintro e w' ⟨rfl, rfl⟩
    go_wp2_with fail
    go_ret
    exact ⟨rfl, HK.out⟩
  rw [if_neg h0] at hr0
  have hf' : (fieldsB c).toList.isEmpty = false := by rw [hf]; simpa using h0
  have HD := Lib.hid (HC.out 68 (.inl rfl))
  have HA := Lib.hid (HC.out 65 (.inr (.inl rfl)))
  have HB := Lib.hid (HC.out 66 (.inr (.inr (.inl rfl))))
  have HI := Lib.hid (HC.out 73 (.inr (.inr (.inr rfl))))
  have hex : ¬ ((c == 5) = true ∧ (c == 6) = true) := by simp only [beq_iff_eq]; omega
  have e5 : (c = 5) = ((c == 5) = true) := by rw [beq_iff_eq]
  have e6 : (c = 6) = ((c == 6) = true) := by rw [beq_iff_eq]
  simp only [e5, e6] at hr0
  clear HC hf h0 e5 e6
  generalize hasL c 68 = pd at *
  generalize hasL c 65 = pa at *
  generalize hasL c 66 = pb at *
  generalize hasL c 73 = pi at *
  generalize fieldsB c = fb at *
  generalize (c == 5) = p5 at *
  generalize (c == 6) = p6 at *
  obtain ⟨b0, hb0⟩ : ∃ x, (decide (t < 0) || decide (many ≤ t)) = x := ⟨_, rfl⟩
  obtain ⟨b1, hb1⟩ : ∃ x, (b0 || (if p6 = true then !decide (d = 1 ∨ d = 2 ∨ d = 4) else pd && (decide (d < 1) || decide (64 ≤ d)))) = x := ⟨_, rfl⟩
  obtain ⟨y2, hy2⟩ : ∃ x, (pa && (decide (a < 0) || decide (64 ≤ a))) = x := ⟨_, rfl⟩
  obtain ⟨b2, hb2⟩ : ∃ x, (b1 || y2) = x := ⟨_, rfl⟩
  obtain ⟨b3, hb3⟩ : ∃ x, (b2 || (if p5 = true then !decide (b = 1 ∨ b = 2 ∨ b = 4 ∨ b = -1 ∨ b = -2) else pb && (decide (b < 0) || decide (64 ≤ b)))) = x := ⟨_, rfl⟩
  obtain ⟨c1, hc1⟩ : ∃ x, ((!pd && (d != 0)) || (!pa && (a != 0))) = x := ⟨_, rfl⟩
  obtain ⟨c2, hc2⟩ : ∃ x, ((!pb && (b != 0)) || (!pi && (im != 0))) = x := ⟨_, rfl⟩
  have HR : Hid (r = if b3 = true then 2 else if c1 = true then 3 else if c2 = true then 3 else 0) := Lib.hid (by
    have k1 : ∀ (x l h : Int), decide (l ≤ x ∧ x < h) = !(decide (x < l) || decide (h ≤ x)) := fun x l h => by
      rw [Bool.eq_iff_iff]; simp
    have k2 : ((((!pd || p6 || decide (1 ≤ d ∧ d < 64)) && (!pa || decide (0 ≤ a ∧ a < 64)) && (!pb || p5 || decide (0 ≤ b ∧ b < 64))) && (if p5 = true then decide (b = 1 ∨ b = 2 ∨ b = 4 ∨ b = -1 ∨ b = -2) else if p6 = true then decide (d = 1 ∨ d = 2 ∨ d = 4) else true)) && decide (0 ≤ t) && decide (t < many)) = !b3 := by
      rw [← hb3, ← hb2, ← hy2, ← hb1, ← hb0, k1, k1, k1, show decide (0 ≤ t) = !decide (t < 0) by rw [Bool.eq_iff_iff]; simp, show decide (t < many) = !decide (many ≤ t) by rw [Bool.eq_iff_iff]; simp]
      generalize decide (t < 0) = y1
      generalize decide (many ≤ t) = y2
      generalize (decide (d < 1) || decide (64 ≤ d)) = y3
      generalize (decide (a < 0) || decide (64 ≤ a)) = y4
      generalize (decide (b < 0) || decide (64 ≤ b)) = y5
      generalize decide (d = 1 ∨ d = 2 ∨ d = 4) = y6
      generalize decide (b = 1 ∨ b = 2 ∨ b = 4 ∨ b = -1 ∨ b = -2) = y7
      clear hr0 hb0 hb1 hb2 hb3 hc1 hc2 hy2
      cases p5 <;> cases p6 <;> simp at hex ⊢ <;> cases pd <;> cases pa <;> cases pb <;> cases y1 <;> cases y2 <;> cases y3 <;> cases y4 <;> cases y5 <;> cases y6 <;> cases y7 <;> rfl
    have k3 : ((pd || decide (d = 0)) && (pa || decide (a = 0)) && (pb || decide (b = 0)) && (pi || decide (im = 0))) = !(c1 || c2) := by
      rw [← hc1, ← hc2]
      have z : ∀ x : Int, (x != 0) = !decide (x = 0) := fun x => by rw [Bool.eq_iff_iff]; simp
      rw [z, z, z, z]
      generalize decide (d = 0) = y1
      generalize decide (a = 0) = y2
      generalize decide (b = 0) = y3
      generalize decide (im = 0) = y4
      cases pd <;> cases pa <;> cases pb <;> cases pi <;> cases y1 <;> cases y2 <;> cases y3 <;> cases y4 <;> rfl
    rw [hr0, k2, k3]
    cases b3 <;> cases c1 <;> cases c2 <;> rfl)
  have HB0 := Lib.hid hb0
  have HB1 := Lib.hid hb1
  have HB2 := Lib.hid hb2
  have HY2 := Lib.hid hy2
  have HB3 := Lib.hid hb3
  have HC1 := Lib.hid hc1
  have HC2 := Lib.hid hc2
  clear hr0 hex hb0 hb1 hb2 hb3 hc1 hc2 hy2
  unfold opC
  go_enter Tryz.func49, Tryz.ntmps49
  go_upto_region 1 with fail
  obtain ⟨hV, hK⟩ := HN.out
  generalize w.alloc _ = w1 at *
  generalize w.heap.size = x at *
  obtain ⟨v0, v1, v2, v3, v4, v5⟩ := hV
  simp only at v0 v1 v2 v3 v4 v5
  have HK := Lib.hid hK
  clear hK HN
  go_wp2_with fail
  refine (HH.out _).mono ?_
  rintro e w' ⟨rfl, rfl⟩
  go_wp2_with fail
  refine (HD.out _).mono ?_
  rintro e w' ⟨rfl, rfl⟩
  go_wp2_with fail
  refine (HA.out _).mono ?_
  rintro e w' ⟨rfl, rfl⟩
  go_wp2_with fail
  refine (HB.out _).mono ?_
  rintro e w' ⟨rfl, rfl⟩
  go_wp2_with fail
  refine (HI.out _).mono ?_
  rintro e w' ⟨rfl, rfl⟩
  go_upto_region 8 with fail
  go_cut [10] (fun s10 wx => s10 = .bool b0 ∧ wx = w')
  case first =>
    by_cases q1 : t < 0
    · have q1' : decide (t < 0) = true := decide_eq_true q1
      clear q1
      go_wp2_with fail
      go_meet
      exact ⟨by rw [← HB0.out, q1']; rfl, rfl⟩
    · have q1' : decide (t < 0) = false := decide_eq_false q1
      by_cases q2 : many ≤ t
      · have q2' : decide (many ≤ t) = true := decide_eq_true q2
        clear q1 q2
        go_wp2_with fail
        go_meet
        exact ⟨by rw [← HB0.out, q1', q2']; rfl, rfl⟩
      · have q2' : decide (many ≤ t) = false := decide_eq_false q2
        clear q1 q2
        go_wp2_with fail
        go_meet
        exact ⟨by rw [← HB0.out, q1', q2']; rfl, rfl⟩
  case rest =>
    obtain ⟨rfl, rfl⟩ := hcut
    clear hf'
    have h6 := H6.out
    go_upto_if 37 with fail
    go_cut [10] (fun s10 wx => s10 = .bool b1 ∧ wx = wc)
    case first =>
      cases p6
      · cases pd
        · go_wp2_with fail
          go_meet
          exact ⟨by rw [← HB1.out]; simp, rfl⟩
        · clear h6
          by_cases q1 : d < 1
          · have q1' : decide (d < 1) = true := decide_eq_true q1
            clear q1
            go_wp2_with fail
            go_meet
            exact ⟨by rw [← HB1.out, q1']; simp, rfl⟩
          · have q1' : decide (d < 1) = false := decide_eq_false q1
            by_cases q2 : 64 ≤ d
            · have q2' : decide (64 ≤ d) = true := decide_eq_true q2
              clear q1 q2
              go_wp2_with fail
              go_meet
              exact ⟨by rw [← HB1.out, q1', q2']; simp, rfl⟩
            · have q2' : decide (64 ≤ d) = false := decide_eq_false q2
              clear q1 q2
              go_wp2_with fail
              go_meet
              exact ⟨by rw [← HB1.out, q1', q2']; simp, rfl⟩
      · go_wp2_with fail
        refine (isSize6 d _).mono ?_
        rintro e w2 ⟨rfl, rfl⟩
        cases b0
        · go_wp2_with fail
          go_meet
          exact ⟨by rw [← HB1.out]; simp, rfl⟩
        · go_wp2_with fail
          go_meet
          exact ⟨by rw [← HB1.out]; simp, rfl⟩
    case rest =>
      obtain ⟨rfl, rfl⟩ := hcut
      clear h6
      go_upto_region 14 with fail
      go_cut [67] (fun s67 wx => s67 = .bool y2 ∧ wx = wc)
      case first =>
        cases pa
        · go_wp2_with fail
          go_meet
          exact ⟨by rw [← HY2.out]; rfl, rfl⟩
        ·
          by_cases q1 : a < 0
          · have q1' : decide (a < 0) = true := decide_eq_true q1
            clear q1
            go_wp2_with fail
            go_meet
            exact ⟨by rw [← HY2.out, q1']; rfl, rfl⟩
          · have q1' : decide (a < 0) = false := decide_eq_false q1
            by_cases q2 : 64 ≤ a
            · have q2' : decide (64 ≤ a) = true := decide_eq_true q2
              clear q1 q2
              go_wp2_with fail
              go_meet
              exact ⟨by rw [← HY2.out, q1', q2']; rfl, rfl⟩
            · have q2' : decide (64 ≤ a) = false := decide_eq_false q2
              clear q1 q2
              go_wp2_with fail
              go_meet
              exact ⟨by rw [← HY2.out, q1', q2']; rfl, rfl⟩
      case rest =>
        obtain ⟨rfl, rfl⟩ := hcut
        go_upto_if 67 with fail
        go_cut [10] (fun s10 wx => s10 = .bool b2 ∧ wx = wc)
        case first =>
          cases y2
          · go_wp2_with fail
            go_meet
            exact ⟨by rw [← HB2.out]; simp, rfl⟩
          · go_wp2_with fail
            go_meet
            exact ⟨by rw [← HB2.out]; simp, rfl⟩
        case rest =>
          obtain ⟨rfl, rfl⟩ := hcut
          have h5 := H5.out
          go_upto_if 70 with fail
          go_cut [10] (fun s10 wx => s10 = .bool b3 ∧ wx = wc)
          case first =>
            cases p5
            · cases pb
              · go_wp2_with fail
                go_meet
                exact ⟨by rw [← HB3.out]; simp, rfl⟩
              · clear h5
                by_cases q1 : b < 0
                · have q1' : decide (b < 0) = true := decide_eq_true q1
                  clear q1
                  go_wp2_with fail
                  go_meet
                  exact ⟨by rw [← HB3.out, q1']; simp, rfl⟩
                · have q1' : decide (b < 0) = false := decide_eq_false q1
                  by_cases q2 : 64 ≤ b
                  · have q2' : decide (64 ≤ b) = true := decide_eq_true q2
                    clear q1 q2
                    go_wp2_with fail
                    go_meet
                    exact ⟨by rw [← HB3.out, q1', q2']; simp, rfl⟩
                  · have q2' : decide (64 ≤ b) = false := decide_eq_false q2
                    clear q1 q2
                    go_wp2_with fail
                    go_meet
                    exact ⟨by rw [← HB3.out, q1', q2']; simp, rfl⟩
            · go_wp2_with fail
              refine (isSize5 b _).mono ?_
              rintro e w2 ⟨rfl, rfl⟩
              cases b2
              · go_wp2_with fail
                go_meet
                exact ⟨by rw [← HB3.out]; simp, rfl⟩
              · go_wp2_with fail
                go_meet
                exact ⟨by rw [← HB3.out]; simp, rfl⟩
          case rest =>
            obtain ⟨rfl, rfl⟩ := hcut
            clear h5
            have hr := HR.out
            cases b3
            · rw [if_neg (by decide)] at hr
              have HR2 := Lib.hid hr
              clear hr
              go_upto_region 23 with fail
              go_cut [106] (fun s106 wx => s106 = .bool c1 ∧ wx = wc)
              case first =>
                have hz := HC1.out

                cases pd
                · by_cases z1 : d = 0
                  · have z1' : (d != 0) = false := by simp [z1]
                    clear z1
                    cases pa
                    · rw [z1'] at hz
                      simp only [Bool.not_false, Bool.true_and, Bool.false_or, Bool.and_false] at hz
                      have HZ := Lib.hid hz
                      clear hz
                      go_wp2_with fail
                      go_meet
                      exact ⟨by rw [← HZ.out], rfl⟩
                    · rw [z1'] at hz
                      subst hz
                      go_wp2_with fail
                      go_meet
                      exact ⟨rfl, rfl⟩
                  · have z1' : (d != 0) = true := by simp [z1]
                    rw [z1'] at hz
                    simp only [Bool.not_false, Bool.true_and, Bool.true_or] at hz
                    subst hz
                    clear z1
                    go_wp2_with fail
                    go_meet
                    exact ⟨rfl, rfl⟩
                · cases pa
                  · simp only [Bool.not_true, Bool.false_and, Bool.false_or, Bool.not_false, Bool.true_and] at hz
                    have HZ := Lib.hid hz
                    clear hz
                    go_wp2_with fail
                    go_meet
                    exact ⟨by rw [← HZ.out], rfl⟩
                  · simp only [Bool.not_true, Bool.false_and, Bool.false_or] at hz
                    subst hz
                    go_wp2_with fail
                    go_meet
                    exact ⟨rfl, rfl⟩
              case rest =>
                obtain ⟨rfl, rfl⟩ := hcut
                have hr := HR2.out
                cases c1
                · rw [if_neg (by decide)] at hr
                  have HR3 := Lib.hid hr
                  clear hr HR HR2
                  go_upto_region 25 with fail
                  go_cut [122] (fun s122 wx => s122 = .bool c2 ∧ wx = wc)
                  case first =>
                    have hz := HC2.out
                    cases pb
                    · by_cases z1 : b = 0
                      · have z1' : (b != 0) = false := by simp [z1]
                        clear z1
                        cases pi
                        · rw [z1'] at hz
                          simp only [Bool.not_false, Bool.true_and, Bool.false_or, Bool.and_false] at hz
                          have HZ := Lib.hid hz
                          clear hz
                          go_wp2_with fail
                          go_meet
                          exact ⟨by rw [← HZ.out], rfl⟩
                        · rw [z1'] at hz
                          subst hz
                          go_wp2_with fail
                          go_meet
                          exact ⟨rfl, rfl⟩
                      · have z1' : (b != 0) = true := by simp [z1]
                        rw [z1'] at hz
                        simp only [Bool.not_false, Bool.true_and, Bool.true_or] at hz
                        subst hz
                        clear z1
                        go_wp2_with fail
                        go_meet
                        exact ⟨rfl, rfl⟩
                    · cases pi
                      · simp only [Bool.not_true, Bool.false_and, Bool.false_or, Bool.not_false, Bool.true_and] at hz
                        have HZ := Lib.hid hz
                        clear hz
                        go_wp2_with fail
                        go_meet
                        exact ⟨by rw [← HZ.out], rfl⟩
                      · simp only [Bool.not_true, Bool.false_and, Bool.false_or] at hz
                        subst hz
                        go_wp2_with fail
                        go_meet
                        exact ⟨rfl, rfl⟩
                  case rest =>
                    obtain ⟨rfl, rfl⟩ := hcut
                    have hr := HR3.out
                    cases c2
                    · rw [if_neg (by decide)] at hr
                      subst hr
                      go_wp2_with fail
                      go_ret
                      exact ⟨rfl, HK.out⟩
                    · rw [if_pos rfl] at hr
                      subst hr
                      go_wp2_with fail
                      go_ret
                      exact ⟨rfl, HK.out⟩
                · rw [if_pos rfl] at hr
                  subst hr
                  clear HR HR2
                  go_wp2_with fail
                  go_ret
                  exact ⟨rfl, HK.out⟩
            · rw [if_pos rfl] at hr
              subst hr
              clear HR
              go_wp2_with fail
              go_ret
              exact ⟨rfl, HK.out⟩
end Go.Proofs.YtknhfobcejpmeaaGreatDoor

/- IrOps -/
/- Rows of ops in memory; the walks of Stores, storesOf. -/
namespace Go.Proofs.YtknhfobcejpmeaaGreatDoor
open Go.RowKit Go.Deep
set_option linter.unusedVariables false
set_option linter.unusedSimpArgs false

/-- an op's cells from a place on -/
structure OpLies (w : World) (b o : Nat) (x : Ir.Op) : Prop where
  v0 : w.cell? ⟨b, o, none⟩ = some (.string x.k)
  v1 : w.cell? ⟨b, o + 1, none⟩ = some (.int .i64 x.d)
  v2 : w.cell? ⟨b, o + 2, none⟩ = some (.int .i64 x.a)
  v3 : w.cell? ⟨b, o + 3, none⟩ = some (.int .i64 x.b)
  v4 : w.cell? ⟨b, o + 4, none⟩ = some (.int .u32 x.imm)
  v5 : w.cell? ⟨b, o + 5, none⟩ = some (.int .i64 x.at_)
theorem OpLies.keep {S : Nat → Prop} {w w' : World} {b o : Nat} {x : Ir.Op} (V : OpLies w b o x) (k : Keeps S w w') (h : ¬ S b) : OpLies w' b o x :=
  ⟨k.cell' V.v0 h, k.cell' V.v1 h, k.cell' V.v2 h, k.cell' V.v3 h, k.cell' V.v4 h, k.cell' V.v5 h⟩
/-- A SLICE OF OPS -/
structure OpsAt (w : World) (A : Option Addr) (n cap : Nat) (l : List Ir.Op) : Prop where
  len : l.length = n
  le : n ≤ cap
  lies : cap = 0 ∨ ∃ b o, A = some ⟨b, o, none⟩ ∧ b < w.heap.size ∧ ∀ i, i < n → OpLies w b (o + i * 6) (l.getD i Ir.nop)
theorem OpsAt.keep {S : Nat → Prop} {w w' : World} {A : Option Addr} {n cap : Nat} {l : List Ir.Op} (V : OpsAt w A n cap l) (k : Keeps S w w') (h : ∀ b, A.map (·.block) = some b → ¬ S b) : OpsAt w' A n cap l := by
  obtain ⟨h1, h2, h3 | ⟨b, o, rfl, hb, hc⟩⟩ := V
  · exact ⟨h1, h2, .inl h3⟩
  · exact ⟨h1, h2, .inr ⟨b, o, rfl, Nat.lt_of_lt_of_le hb k.size, fun i hi => (hc i hi).keep k (h b rfl)⟩⟩
theorem OpsAt.quiet {w w' : World} {A : Option Addr} {n cap : Nat} {l : List Ir.Op} (V : OpsAt w A n cap l) (k : Keeps (fun _ => False) w w') : OpsAt w' A n cap l := V.keep k (fun _ _ h => h)
theorem OpsAt.get {w : World} {A : Option Addr} {n cap : Nat} {l : List Ir.Op} (V : OpsAt w A n cap l) {i : Nat} (hi : i < n) : ∃ b o, A = some ⟨b, o, none⟩ ∧ OpLies w b (o + i * 6) (l.getD i Ir.nop) := by
  obtain ⟨h1, h2, h3 | ⟨b, o, rfl, hb, hc⟩⟩ := V
  · omega
  · exact ⟨b, o, rfl, hc i hi⟩
theorem stores_step (l : List Ir.Op) (i : Nat) (hi : i < l.length) : Ir.stores (l.take (i + 1)) = Ir.stores (l.take i) + (if Ir.kn (l.getD i Ir.nop).k == 6 then 1 else 0) := by
  unfold Ir.stores
  have : l.getD i Ir.nop = l[i] := by simp [List.getD, hi]
  rw [List.take_succ_eq_append_getElem hi, List.countP_append, this]
  congr 1
  by_cases h : Ir.kn l[i].k = 6 <;> simp [h]
theorem stores_le (l : List Ir.Op) (i : Nat) : Ir.stores (l.take i) ≤ i := by
  unfold Ir.stores
  exact Nat.le_trans List.countP_le_length (by simp; omega)

set_option maxHeartbeats 2000000 in
set_option maxRecDepth 100000 in
theorem Stores_any (A : Option Addr) (n cap : Nat) (l : List Ir.Op) (w : World) (V : OpsAt w A n cap l) (hc : cap ≤ 9223372036854775807) :
    Calls Tryz.prog 80 #[.slice A n cap] w fun e w' => e = .returned (.int .i64 (Ir.stores l)) ∧ Keeps (fun _ => False) w w' := by
  have HV := Lib.hid V
  have hn := V.le
  have HL := Lib.hid V.len
  clear V
  go_enter Tryz.func80, Tryz.ntmps80
  go_wp2_with fail
  go_loopw [8, 3] (fun s8 s3 wr => ∃ i : Nat, i ≤ n ∧ s8 = .int .i64 i ∧ s3 = .int .i64 (Ir.stores (l.take i)) ∧ Keeps (fun _ => False) w wr) (fun s8 _ _ => n - (intOf s8).toNat)
  case atStart => exact ⟨0, by omega, rfl, rfl, Keeps.refl _ _⟩
  case round =>
    obtain ⟨i, hi, rfl, rfl, hK⟩ := hrel
    have HK := Lib.hid hK
    by_cases hlt : i < n
    · obtain ⟨b, o, rfl, e0, e1, e2, e3, e4, e5⟩ := (HV.out.quiet hK).get hlt
      have HS := Lib.hid (stores_step l i (by rw [HL.out]; exact hlt))
      have h6 := is_store (l.getD i Ir.nop).k
      have hle := stores_le l i
      have HA := Lib.hid (hK.alloc (.cells (opC (l.getD i Ir.nop)) 100))
      clear hK
      generalize Ir.stores (l.take i) = q at *
      generalize l.getD i Ir.nop = op at *
      cases hp : (Ir.kn op.k == 6)
      · rw [hp] at h6 HS
        clear hp
        go_wp2_with fail
        go_roundw
        case rel => exact ⟨i + 1, by omega, by go_num, by rw [HS.out]; simp, HA.out⟩
        case measure => simp [intOf]; omega
      · rw [hp] at h6 HS
        clear hp
        go_wp2_with fail
        go_roundw
        case rel => exact ⟨i + 1, by omega, by go_num, by rw [HS.out]; simp, HA.out⟩
        case measure => simp [intOf]; omega
    · obtain rfl : i = n := by omega
      have HE := Lib.hid (show Ir.stores (l.take i) = Ir.stores l by rw [← HL.out, List.take_length])
      clear hK
      go_wp2_with fail
      go_ret
      exact ⟨by rw [← HE.out]; rfl, HK.out⟩
set_option maxHeartbeats 2000000 in
set_option maxRecDepth 100000 in
theorem storesOf_any (A : Option Addr) (n cap : Nat) (l : List Ir.Op) (w : World) (V : OpsAt w A n cap l) (hc : cap ≤ 9223372036854775807) :
    Calls Tryz.prog 47 #[.slice A n cap] w fun e w' => e = .returned (.int .i64 (Ir.stores l)) ∧ Keeps (fun _ => False) w w' := by
  have HV := Lib.hid V
  have hn := V.le
  have HL := Lib.hid V.len
  clear V
  go_enter Tryz.func47, Tryz.ntmps47
  go_wp2_with fail
  go_loopw [4, 3] (fun s4 s3 wr => ∃ i : Nat, i ≤ n ∧ s4 = .int .i64 i ∧ s3 = .int .i64 (Ir.stores (l.take i)) ∧ Keeps (fun _ => False) w wr) (fun s4 _ _ => n - (intOf s4).toNat)
  case atStart => exact ⟨0, by omega, rfl, rfl, Keeps.refl _ _⟩
  case round =>
    obtain ⟨i, hi, rfl, rfl, hK⟩ := hrel
    have HK := Lib.hid hK
    by_cases hlt : i < n
    · obtain ⟨b, o, rfl, e0, e1, e2, e3, e4, e5⟩ := (HV.out.quiet hK).get hlt
      have HS := Lib.hid (stores_step l i (by rw [HL.out]; exact hlt))
      have h6 := is_store (l.getD i Ir.nop).k
      have hle := stores_le l i
      clear hK
      generalize Ir.stores (l.take i) = q at *
      generalize l.getD i Ir.nop = op at *
      cases hp : (Ir.kn op.k == 6)
      · rw [hp] at h6 HS
        clear hp
        go_wp2_with fail
        go_roundw
        case rel => exact ⟨i + 1, by omega, by go_num, by rw [HS.out]; simp, HK.out⟩
        case measure => simp [intOf]; omega
      · rw [hp] at h6 HS
        clear hp
        go_wp2_with fail
        go_roundw
        case rel => exact ⟨i + 1, by omega, by go_num, by rw [HS.out]; simp, HK.out⟩
        case measure => simp [intOf]; omega
    · obtain rfl : i = n := by omega
      have HE := Lib.hid (show Ir.stores (l.take i) = Ir.stores l by rw [← HL.out, List.take_length])
      clear hK
      go_wp2_with fail
      go_ret
      exact ⟨by rw [← HE.out]; rfl, HK.out⟩
end Go.Proofs.YtknhfobcejpmeaaGreatDoor

/- Facts -/
/- What is known of registers, as a map lies; the walks of Writes, WriteOf, of, learn, foldable. -/
namespace Go.Proofs.YtknhfobcejpmeaaGreatDoor
open Go.RowKit Go.Deep
set_option linter.unusedVariables false
set_option linter.unusedSimpArgs false

def i64R (n : Int) : Prop := -9223372036854775808 ≤ n ∧ n ≤ 9223372036854775807
def u32R (n : Int) : Prop := 0 ≤ n ∧ n ≤ 4294967295
/-- the ranges of an op's numbers -/
structure OpOk (o : Ir.Op) : Prop where
  d : i64R o.d
  a : i64R o.a
  b : i64R o.b
  imm : u32R o.imm
  at_ : i64R o.at_
theorem wf_i {n : Int} (h : i64R n) : (Lit.int .i64 n).wf = true := WalkArith.wf_i64 h
theorem wf_u {n : Int} (h : u32R n) : (Lit.int .u32 n).wf = true := by
  have e1 : IntKind.u32.min = 0 := by decide
  have e2 : IntKind.u32.max = 4294967295 := by decide
  show (decide (IntKind.u32.min ≤ n) && decide (n ≤ IntKind.u32.max)) = true
  rw [e1, e2]
  unfold u32R at h
  simp [h]
theorem mapK : Maps.Keyed Tryz.prog 3 := Maps.int_keyed Tryz.underlying3
theorem zeroU (w : World) : (zeroValue 22).run Tryz.prog w = .ok (.int .u32 0) w := by kernel_rfl
/-- A MAP OF FACTS -/
def FactsAt (w : World) (b n : Nat) (f : Ir.Facts) : Prop := ∃ D : DataW Unit, w.ownsMap Tryz.prog 3 (plainElem Tryz.prog 22) b n D ∧
  ∀ k, i64R k → Maps.has D (.int .i64 k) = (f k).isSome ∧ ∀ v, f k = some v → D.atKey (.int .i64 k) (.lit (.int .u32 0)) = .lit (.int .u32 v)
theorem FactsAt.keep {S : Nat → Prop} {w w' : World} {b n : Nat} {f : Ir.Facts} (F : FactsAt w b n f) (k : Keeps S w w') (h : ¬ S b) : FactsAt w' b n f := by
  obtain ⟨D, ⟨es, c, hb, hf, hs, hd⟩, hD⟩ := F
  exact ⟨D, ⟨es, c, k.map hb h, hf, hs, hd⟩, hD⟩
theorem FactsAt.lt {w : World} {b n : Nat} {f : Ir.Facts} (F : FactsAt w b n f) : b < w.heap.size := by
  obtain ⟨D, h, _⟩ := F
  exact h.lt
theorem facts_made (w : World) : FactsAt (w.alloc (.map #[] 0)) w.heap.size 0 Ir.none0 :=
  ⟨.map [], World.ownsMap_made w _ _ _, fun k hk => ⟨rfl, fun v hv => by cases hv⟩⟩

theorem lit_ne {a b : Int} (h : a ≠ b) : (Lit.int .i64 a) ≠ (Lit.int .i64 b) := fun e => h (by injection e)
theorem key_lit (a : Int) : WideAt.IsKeyLit (.int .i64 a) := by first | trivial | (unfold WideAt.IsKeyLit; trivial) | exact ⟨_, _, rfl⟩
theorem facts_del {w' : World} {b n : Nat} {f : Ir.Facts} {D : DataW Unit} {d : Int} (hd : i64R d) (hD : ∀ k, i64R k → Maps.has D (.int .i64 k) = (f k).isSome ∧ ∀ v, f k = some v → D.atKey (.int .i64 k) (.lit (.int .u32 0)) = .lit (.int .u32 v))
    (h : w'.ownsMap Tryz.prog 3 (plainElem Tryz.prog 22) b n (D.del (.int .i64 d))) : FactsAt w' b n (fun k => if k = d then none else f k) := by
  refine ⟨_, h, fun k hk => ?_⟩
  by_cases e : k = d
  · subst e
    simp only [if_true]
    exact ⟨Maps.has_del_same, fun v hv => by cases hv⟩
  · simp only [if_neg e]
    rw [Maps.has_del_other (lit_ne e), Maps.atKey_del_other (lit_ne e)]
    exact hD k hk
theorem facts_put {w' : World} {b n : Nat} {f : Ir.Facts} {D : DataW Unit} {d v : Int} (hM : Maps.IsMap D) (hD : ∀ k, i64R k → Maps.has D (.int .i64 k) = (f k).isSome ∧ ∀ v, f k = some v → D.atKey (.int .i64 k) (.lit (.int .u32 0)) = .lit (.int .u32 v))
    (h : w'.ownsMap Tryz.prog 3 (plainElem Tryz.prog 22) b n (D.put (.int .i64 d) (.lit (.int .u32 v)))) : FactsAt w' b n (fun k => if k = d then some v else f k) := by
  refine ⟨_, h, fun k hk => ?_⟩
  by_cases e : k = d
  · subst e
    simp only [if_true]
    refine ⟨Maps.has_put_same hM (key_lit _) _, fun u hu => ?_⟩
    rw [Maps.atKey_put_same hM (key_lit _)]
    injection hu with hu
    rw [hu]
  · simp only [if_neg e]
    rw [Maps.has_put_other (lit_ne e), Maps.atKey_put_other (lit_ne e)]
    exact hD k hk
theorem writes_c (o : Ir.Op) : Ir.writes o = if ((Ir.kn o.k == 1 || Ir.kn o.k == 2) || Ir.kn o.k == 5) || Ir.isSum (Ir.kn o.k) then o.d else 0 := by
  unfold Ir.writes
  have : (Ir.hasD (Ir.kn o.k) && decide (Ir.kn o.k ≠ 6)) = (((Ir.kn o.k == 1 || Ir.kn o.k == 2) || Ir.kn o.k == 5) || Ir.isSum (Ir.kn o.k)) := by
    have hle := Ir.kn_le o.k
    generalize Ir.kn o.k = c at *
    have key : ∀ c : Fin 28, (Ir.hasD c.val && decide (c.val ≠ 6)) = (((c.val == 1 || c.val == 2) || c.val == 5) || Ir.isSum c.val) := by decide +kernel
    exact key ⟨c, by omega⟩
  rw [this]
set_option maxHeartbeats 2000000 in
set_option maxRecDepth 100000 in
theorem writes_any (o : Ir.Op) (w : World) :
    Calls Tryz.prog 86 #[.agg (opC o)] w fun e w' => e = .returned (.int .i64 (Ir.writes o)) ∧ Keeps (fun _ => False) w w' := by
  have hr := writes_c o
  obtain ⟨r, hr0⟩ : ∃ r, Ir.writes o = r := ⟨_, rfl⟩
  rw [hr0] at hr ⊢
  clear hr0
  obtain ⟨k, d, a, b, im, t⟩ := o
  simp only at hr
  have h1 := is_set k
  have h2 := is_copy k
  have h5 := is_load k
  have HS := Lib.hid (fun w => sum_any k w)
  have HK := Lib.hid ((Keeps.refl (fun _ => False) w).alloc (.cells (opC ⟨k, d, a, b, im, t⟩) 100))
  simp only [opC] at HK
  generalize Ir.isSum (Ir.kn k) = ps at *
  generalize (Ir.kn k == 1) = p1 at *
  generalize (Ir.kn k == 2) = p2 at *
  generalize (Ir.kn k == 5) = p5 at *
  unfold opC
  cases p1
  · cases p2
    · cases p5
      · cases ps
        · have HR := Lib.hid (show r = 0 from hr)
          clear hr
          go_enter Tryz.func86, Tryz.ntmps86
          go_wp2_with fail
          refine (HS.out _).mono ?_
          rintro e w' ⟨rfl, rfl⟩
          go_wp2_with fail
          go_ret
          exact ⟨by rw [HR.out]; rfl, HK.out⟩
        · have HR := Lib.hid (show r = d from hr)
          clear hr
          go_enter Tryz.func86, Tryz.ntmps86
          go_wp2_with fail
          refine (HS.out _).mono ?_
          rintro e w' ⟨rfl, rfl⟩
          go_wp2_with fail
          go_ret
          exact ⟨by rw [HR.out]; rfl, HK.out⟩
      all_goals
        have HR := Lib.hid (show r = d from hr)
        clear hr
        go_enter Tryz.func86, Tryz.ntmps86
        go_wp2_with fail
        go_ret
        exact ⟨by rw [HR.out]; rfl, HK.out⟩
    all_goals
      have HR := Lib.hid (show r = d from hr)
      clear hr
      go_enter Tryz.func86, Tryz.ntmps86
      go_wp2_with fail
      go_ret
      exact ⟨by rw [HR.out]; rfl, HK.out⟩
  all_goals
    have HR := Lib.hid (show r = d from hr)
    clear hr
    go_enter Tryz.func86, Tryz.ntmps86
    go_wp2_with fail
    go_ret
    exact ⟨by rw [HR.out]; rfl, HK.out⟩
theorem writeOf_c (o : Ir.Op) : Ir.writes o = if hasL (Ir.kn o.k) 68 && !(Ir.kn o.k == 6) then o.d else 0 := by
  unfold Ir.writes
  have : (Ir.hasD (Ir.kn o.k) && decide (Ir.kn o.k ≠ 6)) = (hasL (Ir.kn o.k) 68 && !(Ir.kn o.k == 6)) := by
    rw [show hasL (Ir.kn o.k) 68 = Ir.hasD (Ir.kn o.k) from rfl, nat_beq]
    simp
  rw [this]
set_option maxHeartbeats 2000000 in
set_option maxRecDepth 100000 in
theorem writeOf_any (o : Ir.Op) (w : World) :
    Calls Tryz.prog 65 #[.agg (opC o)] w fun e w' => e = .returned (.int .i64 (Ir.writes o)) ∧ Keeps (fun _ => False) w w' := by
  have hr := writeOf_c o
  obtain ⟨r, hr0⟩ : ∃ r, Ir.writes o = r := ⟨_, rfl⟩
  rw [hr0] at hr ⊢
  clear hr0
  obtain ⟨k, d, a, b, im, t⟩ := o
  simp only at hr
  have h6 := is_store k
  have HF := Lib.hid (fun w => fieldsOf_any k w)
  have HI := Lib.hid (fun w => isOf_fields (Ir.kn k) (Ir.kn_le k) 68 (.inl rfl) w)
  have HK := Lib.hid ((Keeps.refl (fun _ => False) w).alloc (.cells (opC ⟨k, d, a, b, im, t⟩) 100))
  simp only [opC] at HK
  generalize hasL (Ir.kn k) 68 = pd at *
  generalize (Ir.kn k == 6) = p6 at *
  generalize fieldsB (Ir.kn k) = fb at *
  have h6n : (k.toList != [115, 116, 111, 114, 101]) = !p6 := by rw [bne, h6]
  unfold opC
  cases pd
  · have HR := Lib.hid (show r = 0 from hr)
    clear hr
    go_enter Tryz.func65, Tryz.ntmps65
    go_wp2_with fail
    refine (HF.out _).mono ?_
    rintro e w' ⟨rfl, rfl⟩
    go_wp2_with fail
    refine (HI.out _).mono ?_
    rintro e w' ⟨rfl, rfl⟩
    go_wp2_with fail
    go_ret
    exact ⟨by rw [HR.out]; rfl, HK.out⟩
  · cases p6
    · have HR := Lib.hid (show r = d from hr)
      clear hr
      go_enter Tryz.func65, Tryz.ntmps65
      go_wp2_with fail
      refine (HF.out _).mono ?_
      rintro e w' ⟨rfl, rfl⟩
      go_wp2_with fail
      refine (HI.out _).mono ?_
      rintro e w' ⟨rfl, rfl⟩
      go_wp2_with fail
      go_ret
      exact ⟨by rw [HR.out]; rfl, HK.out⟩
    · have HR := Lib.hid (show r = 0 from hr)
      clear hr
      go_enter Tryz.func65, Tryz.ntmps65
      go_wp2_with fail
      refine (HF.out _).mono ?_
      rintro e w' ⟨rfl, rfl⟩
      go_wp2_with fail
      refine (HI.out _).mono ?_
      rintro e w' ⟨rfl, rfl⟩
      go_wp2_with fail
      go_ret
      exact ⟨by rw [HR.out]; rfl, HK.out⟩
end Go.Proofs.YtknhfobcejpmeaaGreatDoor

/- RSum -/
/- The walks of the reference's bits, plus, Bit, SumOf, at the kinds of ops. -/
namespace Go.Proofs.YtknhfobcejpmeaaGreatDoor
open Go.RowKit Go.Deep
set_option linter.unusedVariables false
set_option linter.unusedSimpArgs false

/-- bit by bit, the lowest first: what 00, 01, 10, 11 become -/
def bitF (t : Nat) : Nat → Nat → Nat → Nat
  | 0, _, _ => 0
  | n + 1, a, b => t / 2 ^ (2 * (a % 2) + b % 2) % 2 + 2 * bitF t n (a / 2) (b / 2)
theorem bitF_test (t : Nat) : ∀ n a b i, (bitF t n a b).testBit i = (decide (i < n) && decide (t / 2 ^ (2 * (a / 2 ^ i % 2) + b / 2 ^ i % 2) % 2 = 1))
  | 0, a, b, i => by simp [bitF]
  | n + 1, a, b, 0 => by
    unfold bitF
    rw [Nat.testBit_zero]
    generalize bitF t n (a / 2) (b / 2) = g
    simp only [Nat.pow_zero, Nat.div_one, Nat.zero_lt_succ, decide_true, Bool.true_and]
    generalize t / 2 ^ (2 * (a % 2) + b % 2) = c
    rw [show (c % 2 + 2 * g) % 2 = c % 2 by omega]
  | n + 1, a, b, i + 1 => by
    unfold bitF
    rw [Nat.testBit_succ]
    have ih := bitF_test t n (a / 2) (b / 2) i
    generalize bitF t n (a / 2) (b / 2) = g at *
    generalize t / 2 ^ (2 * (a % 2) + b % 2) = c
    rw [show (c % 2 + 2 * g) / 2 = g by omega, ih, Nat.div_div_eq_div_mul, Nat.div_div_eq_div_mul, show 2 * 2 ^ i = 2 ^ (i + 1) by rw [Nat.pow_succ, Nat.mul_comm]]
    simp only [Nat.add_lt_add_iff_right]
theorem test_high {a i : Nat} (ha : a < 4294967296) (h : ¬ i < 32) : a.testBit i = false := by
  have h2 : 2 ^ 32 ≤ 2 ^ i := Nat.pow_le_pow_right (by omega) (by omega)
  exact Nat.testBit_lt_two_pow (by omega)
theorem bit_of (a i : Nat) : a.testBit i = decide (a / 2 ^ i % 2 = 1) := Nat.testBit_eq_decide_div_mod_eq
theorem bitF_eq (t : Nat) (f : Nat → Nat → Nat) (g : Bool → Bool → Bool) (hf : ∀ a b i, i < 32 → (f a b).testBit i = g (a.testBit i) (b.testBit i)) (hlt : ∀ a b, a < 4294967296 → b < 4294967296 → f a b < 4294967296)
    (ht : ∀ x y : Fin 2, decide (t / 2 ^ (2 * x.val + y.val) % 2 = 1) = g (decide (x.val = 1)) (decide (y.val = 1))) (a b : Nat) (ha : a < 4294967296) (hb : b < 4294967296) : bitF t 32 a b = f a b := by
  apply Nat.eq_of_testBit_eq
  intro i
  rw [bitF_test]
  by_cases hi : i < 32
  · rw [hf a b i hi, bit_of a, bit_of b, decide_eq_true hi, Bool.true_and]
    exact ht ⟨a / 2 ^ i % 2, Nat.mod_lt _ (by omega)⟩ ⟨b / 2 ^ i % 2, Nat.mod_lt _ (by omega)⟩
  · rw [test_high (hlt a b ha hb) hi, decide_eq_false hi, Bool.false_and]
theorem bitF_and (a b : Nat) (ha : a < 4294967296) (hb : b < 4294967296) : bitF 8 32 a b = a &&& b :=
  bitF_eq 8 (· &&& ·) (· && ·) (fun a b i _ => Nat.testBit_and a b i) (fun a b _ hb => Nat.and_lt_two_pow (n := 32) a hb) (by decide) a b ha hb
theorem bitF_or (a b : Nat) (ha : a < 4294967296) (hb : b < 4294967296) : bitF 14 32 a b = a ||| b :=
  bitF_eq 14 (· ||| ·) (· || ·) (fun a b i _ => Nat.testBit_or a b i) (fun a b ha hb => Nat.or_lt_two_pow (n := 32) ha hb) (by decide) a b ha hb
theorem bitF_xor (a b : Nat) (ha : a < 4294967296) (hb : b < 4294967296) : bitF 6 32 a b = a ^^^ b :=
  bitF_eq 6 (· ^^^ ·) (fun x y => x ^^ y) (fun a b i _ => Nat.testBit_xor a b i) (fun a b ha hb => Nat.xor_lt_two_pow (n := 32) ha hb) (by decide) a b ha hb
theorem bitF_nor (a b : Nat) (ha : a < 4294967296) (hb : b < 4294967296) : bitF 1 32 a b = 4294967295 ^^^ (a ||| b) :=
  bitF_eq 1 (fun a b => 4294967295 ^^^ (a ||| b)) (fun x y => !(x || y)) (fun a b i hi => by
    rw [Nat.testBit_xor, Nat.testBit_or, show (4294967295 : Nat) = 2 ^ 32 - 1 from rfl, Nat.testBit_two_pow_sub_one, decide_eq_true hi, Bool.true_xor]) (fun a b ha hb => Nat.xor_lt_two_pow (n := 32) (by decide) (Nat.or_lt_two_pow (n := 32) ha hb)) (by decide) a b ha hb
namespace Cp
theorem W_or (a b : Int) (ha : W a) (hb : W b) : W (bits .or .u32 a b) := by
  have h := Nat.or_lt_two_pow (n := 32) (x := a.toNat) (y := b.toNat) (by have := ha.1; have := ha.2; omega) (by have := hb.1; have := hb.2; omega)
  rw [u32_or a b ha.1 ha.2 hb.1 hb.2]
  unfold W
  omega
/-- bits by a table, of words -/
def bitT (t : Nat) (a b : Int) : Int := bitF t 32 a.toNat b.toNat
theorem bitT_and (a b : Int) (ha : W a) (hb : W b) : bitT 8 a b = bits .and .u32 a b := by
  rw [u32_and a b ha.1 ha.2 hb.1 hb.2]
  unfold bitT
  rw [bitF_and _ _ (by have := ha.1; have := ha.2; omega) (by have := hb.1; have := hb.2; omega)]
theorem bitT_or (a b : Int) (ha : W a) (hb : W b) : bitT 14 a b = bits .or .u32 a b := by
  rw [u32_or a b ha.1 ha.2 hb.1 hb.2]
  unfold bitT
  rw [bitF_or _ _ (by have := ha.1; have := ha.2; omega) (by have := hb.1; have := hb.2; omega)]
theorem bitT_xor (a b : Int) (ha : W a) (hb : W b) : bitT 6 a b = bits .xor .u32 a b := by
  rw [u32_xor a b ha.1 ha.2 hb.1 hb.2]
  unfold bitT
  rw [bitF_xor _ _ (by have := ha.1; have := ha.2; omega) (by have := hb.1; have := hb.2; omega)]
theorem bitT_nor (a b : Int) (ha : W a) (hb : W b) : bitT 1 a b = bits .xor .u32 4294967295 (bits .or .u32 a b) := by
  have h := W_or a b ha hb
  rw [u32_xor _ _ (by decide) (by decide) h.1 h.2, u32_or a b ha.1 ha.2 hb.1 hb.2]
  unfold bitT
  rw [bitF_nor _ _ (by have := ha.1; have := ha.2; omega) (by have := hb.1; have := hb.2; omega)]
  rfl
end Cp
theorem plus_any (a b : Int) (w : World) (ha : 0 ≤ a ∧ a < 4294967296) (hb : 0 ≤ b ∧ b < 4294967296) :
    Calls Tryz.prog 144 #[.int .u32 a, .int .u32 b] w fun e w' => e = .returned (.int .u32 (Cp.u (a + b))) ∧ w = w' := by
  go_enter Tryz.func144, Tryz.ntmps144
  go_wp2_with fail
  refine (word_any _ _ (by omega)).mono ?_
  rintro e w' ⟨rfl, rfl⟩
  go_wp2_with fail
  go_ret
  exact ⟨rfl, rfl⟩

theorem pw33 : ∀ k : Fin 33, 1 ≤ 2 ^ k.val ∧ 2 ^ k.val ≤ 4294967296 ∧ (k.val < 32 → 2 ^ k.val ≤ 2147483648) := by decide +kernel
theorem bitF_lt (t : Nat) : ∀ n a b, bitF t n a b < 2 ^ n
  | 0, a, b => by simp [bitF]
  | n + 1, a, b => by
    have ih := bitF_lt t n (a / 2) (b / 2)
    unfold bitF
    rw [Nat.pow_succ]
    omega
theorem bitF_round (t i o p x y R : Nat) (hi : i < 32) (h : o + p * bitF t (32 - i) x y = R) : o + p * (t / 2 ^ (2 * (x % 2) + y % 2) % 2) + 2 * p * bitF t (32 - (i + 1)) (x / 2) (y / 2) = R := by
  rw [show 32 - i = 32 - (i + 1) + 1 by omega] at h
  unfold bitF at h
  rw [← h, Nat.mul_add, Nat.add_assoc, ← Nat.mul_assoc p 2, Nat.mul_comm p 2]
theorem pow_more (j t : Nat) : t / 2 ^ j / 2 = t / 2 ^ (j + 1) := by rw [Nat.div_div_eq_div_mul, Nat.pow_succ]
set_option maxHeartbeats 400000 in
theorem bits_any (a b : Int) (t : Nat) (ht : t < 16) (w : World) (ha : 0 ≤ a ∧ a < 4294967296) (hb : 0 ≤ b ∧ b < 4294967296) :
    Calls Tryz.prog 145 #[.int .u32 a, .int .u32 b, .int .i64 t] w fun e w' => e = .returned (.int .u32 (Cp.bitT t a b)) ∧ w = w' := by
  obtain ⟨a, rfl⟩ := Int.eq_ofNat_of_zero_le ha.1
  obtain ⟨b, rfl⟩ := Int.eq_ofNat_of_zero_le hb.1
  have HR : Hid (Cp.bitT t a b = (bitF t 32 a b : Nat)) := Lib.hid rfl
  have HL := bitF_lt t 32 a b
  have htt := Lib.hid ht
  clear ht
  have hRR : ∃ R, R = bitF t 32 a b := ⟨_, rfl⟩
  obtain ⟨R, hRR⟩ := hRR
  rw [← hRR] at HR HL
  have HZ : Hid (0 + 1 * bitF t (32 - 0) a b = R) := Lib.hid (by rw [hRR, Nat.zero_add, Nat.one_mul])
  have HLH := Lib.hid HL
  clear hRR HL
  go_enter Tryz.func145, Tryz.ntmps145
  go_wp2_with fail
  go_loop [7, 8, 9, 10, 11, 12, 13, 14] (fun s7 s8 s9 s10 s11 _ _ _ => ∃ i o p x y : Nat, i ≤ 32 ∧ s7 = .int .i64 o ∧ s8 = .int .i64 p ∧ s9 = .int .i64 x ∧ s10 = .int .i64 y ∧ s11 = .int .i64 i ∧ 2 ^ i = p ∧ o < p ∧ x < 4294967296 ∧ y < 4294967296 ∧ Hid (o + p * bitF t (32 - i) x y = R)) (fun _ _ _ _ s11 _ _ _ => 32 - (intOf s11).toNat)
  case atStart => exact ⟨0, 0, 1, a, b, by omega, rfl, rfl, rfl, rfl, rfl, rfl, by omega, by omega, by omega, HZ⟩
  case round =>
    obtain ⟨i, o, p, x, y, hi, rfl, rfl, rfl, rfl, rfl, hp, ho, hx, hy, hR⟩ := hrel
    have hpp := pw33 ⟨i, by omega⟩
    simp only at hpp
    rw [hp] at hpp
    have HP := Lib.hid hp
    clear hp
    by_cases hlt : i < 32
    · have hN := Lib.hid (bitF_round t i o p x y R hlt hR.out)
      have hk : ∃ k, k = 2 * (x % 2) + y % 2 ∧ k ≤ 3 := ⟨_, rfl, by omega⟩
      obtain ⟨k, hk, hk3⟩ := hk
      have HK := Lib.hid hk
      rw [← hk] at hN
      have hxy : 0 ≤ (x : Int) % 2 ∧ (x : Int) % 2 ≤ 1 ∧ 0 ≤ (y : Int) % 2 ∧ (y : Int) % 2 ≤ 1 := by omega
      have hxi : 0 ≤ (x : Int) ∧ (x : Int) < 4294967296 := by omega
      have hyi : 0 ≤ (y : Int) ∧ (y : Int) < 4294967296 := by omega
      have hii : 0 ≤ (i : Int) ∧ (i : Int) < 32 := by omega
      have hpi : 1 ≤ (p : Int) ∧ (p : Int) ≤ 2147483648 := by omega
      have hoi : 0 ≤ (o : Int) ∧ (o : Int) < p := by omega
      have HH := Lib.hid (And.intro hx (And.intro hy (And.intro ho hpp)))
      clear ha hb hk HR hx hy ho hpp hlt hi
      go_upto_region 9 with fail
      rw [show (2 * ((x : Int) % 2) + (y : Int) % 2) = (k : Int) by have := HK.out; omega]
      clear hxy
      have HT0 : Hid (t / 2 ^ 0 = t) := Lib.hid (by simp)
      have hki : 0 ≤ (k : Int) ∧ (k : Int) ≤ 3 := by omega
      go_wp2_with fail
      go_loop [13, 14] (fun s13 s14 => ∃ j c : Nat, j ≤ k ∧ s14 = .int .i64 j ∧ s13 = .int .i64 c ∧ Hid (t / 2 ^ j = c) ∧ c < 16) (fun _ s14 => k - (intOf s14).toNat)
      case atStart => exact ⟨0, t, Nat.zero_le _, rfl, rfl, HT0, htt.out⟩
      case round =>
        obtain ⟨j, c, hj, rfl, rfl, hc, hc16⟩ := hrel
        have hci : 0 ≤ (c : Int) ∧ (c : Int) < 16 := by omega
        have hji : 0 ≤ (j : Int) ∧ (j : Int) ≤ k := by omega
        clear hc16
        by_cases hjk : j < k
        · have hjk2 : (j : Int) < k := by omega
          clear hjk
          go_wp2_with fail
          go_round
          case rel => exact ⟨j + 1, c / 2, by omega, by go_num, by first | rfl | go_num, Lib.hid (by rw [← hc.out, pow_more]), by omega⟩
          case measure => simp [intOf]; omega
        · have hjk2 : j = k := by omega
          subst hjk2
          have hcc := hN.out
          rw [hc.out] at hcc
          have hc2 : c % 2 = 0 ∨ c % 2 = 1 := by omega
          have hci2 : (c : Int) % 2 = ((c % 2 : Nat) : Int) := by omega
          clear hN hc
          generalize hd : c % 2 = d at *
          have HD := Lib.hid hd
          have HC := Lib.hid hcc
          have HPP : Hid (2 ^ (i + 1) = 2 * p) := Lib.hid (by rw [Nat.pow_succ, HP.out, Nat.mul_comm])
          clear hd hcc HP
          have hb5 := HH.out
          rcases hc2 with rfl | rfl
          · have HC2 : Hid (o + 2 * p * bitF t (32 - (i + 1)) (x / 2) (y / 2) = R) := Lib.hid (by have := HC.out; rwa [Nat.mul_zero, Nat.add_zero] at this)
            clear hb5
            go_wp2_with fail
            go_round
            case rel =>
              have hb5 := HH.out
              exact ⟨i + 1, o, 2 * p, x / 2, y / 2, by omega, rfl, by go_num, by go_num, by go_num, by go_num, HPP.out, by omega, by omega, by omega, HC2⟩
            case measure => simp [intOf]; omega
          · have HC2 : Hid (o + p + 2 * p * bitF t (32 - (i + 1)) (x / 2) (y / 2) = R) := Lib.hid (by have := HC.out; rwa [Nat.mul_one] at this)
            clear hb5
            go_wp2_with fail
            go_round
            case rel =>
              have hb5 := HH.out
              exact ⟨i + 1, o + p, 2 * p, x / 2, y / 2, by omega, by go_num, by go_num, by go_num, by go_num, by go_num, HPP.out, by omega, by omega, by omega, HC2⟩
            case measure => simp [intOf]; omega
    · have h32 : i = 32 := by omega
      subst h32
      have hRR := hR.out
      rw [show 32 - 32 = 0 from rfl, show bitF t 0 x y = 0 from rfl, Nat.mul_zero, Nat.add_zero] at hRR
      subst hRR
      have HLI : 0 ≤ (o : Int) ∧ (o : Int) < 4294967296 := by have := HLH.out; omega
      clear ho hpp hx hy hlt
      go_wp2_with fail
      go_ret
      refine ⟨ret_i ?_, rfl⟩
      rw [HR.out]
def bitI (b : Bool) : Int := if b = true then 1 else 0
theorem bit2_any (b : Bool) (w : World) : Calls Tryz.prog 147 #[.bool b] w fun e w' => e = .returned (.int .u32 (bitI b)) ∧ w = w' := by
  cases b
  all_goals
    go_enter Tryz.func147, Tryz.ntmps147
    go_wp2
    go_ret
    exact ⟨rfl, rfl⟩
theorem rplus_any (a b : Int) (w : World) (ha : 0 ≤ a ∧ a < 4294967296) (hb : 0 ≤ b ∧ b < 4294967296) :
    Calls Tryz.prog 67 #[.int .u32 a, .int .u32 b] w fun e w' => e = .returned (.int .u32 ((a + b) % 4294967296)) ∧ w = w' := by
  go_enter Tryz.func67, Tryz.ntmps67
  go_wp2_with fail
  refine (word_any _ _ (by omega)).mono ?_
  rintro e w' ⟨rfl, rfl⟩
  go_wp2_with fail
  go_ret
  exact ⟨rfl, rfl⟩
set_option maxHeartbeats 8000000 in
set_option maxRecDepth 100000 in
theorem rsumOf_any (k : ByteArray) (hc0 : 10 ≤ Ir.kn k ∧ Ir.kn k < 24) (a b : Int) (w : World) (ha : 0 ≤ a ∧ a < 4294967296) (hb : 0 ≤ b ∧ b < 4294967296) :
    Calls Tryz.prog 108 #[.string k, .int .u32 a, .int .u32 b] w fun e w' => e = .returned (.int .u32 (Ir.sumsV (Ir.kn k) a b)) ∧ w = w' := by
  have HS := Lib.hid (fun q w => shiftOf_any q a b w ha hb)
  have HM := Lib.hid (fun s w => mulOf_any a b s w ha hb)
  have HL := Lib.hid (fun s w => lessOf_any a b s w ha hb)
  have HP := Lib.hid (fun w => plus_any a b w ha hb)
  have HD := Lib.hid (fun w => word_any (a - b) w (by omega))
  have HB := Lib.hid (fun t (ht : t < 16) w => bits_any a b t ht w ha hb)
  have HA := Lib.hid (Cp.bitT_and a b ha hb)
  have HO := Lib.hid (Cp.bitT_or a b ha hb)
  have HX := Lib.hid (Cp.bitT_xor a b ha hb)
  have HN := Lib.hid (Cp.bitT_nor a b ha hb)
  have HK := fun c h => Ir.kinds k c h
  generalize Ir.kn k = c at *
  replace HK := HK c rfl
  obtain ⟨r, hr⟩ : ∃ r, Ir.sumsV c a b = r := ⟨_, rfl⟩
  rw [hr]
  have HR := Lib.hid hr
  have HRNG := Lib.hid (And.intro ha hb)
  clear hr
  have h : c = 10 ∨ c = 11 ∨ c = 12 ∨ c = 13 ∨ c = 14 ∨ c = 15 ∨ c = 16 ∨ c = 17 ∨ c = 18 ∨ c = 19 ∨ c = 20 ∨ c = 21 ∨ c = 22 ∨ c = 23 := by omega
  clear hc0
  rcases h with rfl | rfl | rfl | rfl | rfl | rfl | rfl | rfl | rfl | rfl | rfl | rfl | rfl | rfl
  · simp only [Nat.reduceBEq] at HK
    obtain ⟨k1, k2, k3, k4, k5, k6, k7, k8, k9, k10, k11, k12, k13, k14, k15, k16, k17, k18, k19, k20, k21, k22, k23, k24, k25, k26, k27⟩ := HK
    go_enter Tryz.func108, Tryz.ntmps108
    go_wp2_with fail
    refine (HP.out _).mono ?_
    rintro e w' ⟨rfl, rfl⟩
    go_wp2_with fail
    go_ret
    exact ⟨by rw [← HR.out]; first | rfl | (simp [Ir.sumsV]; done), rfl⟩
  · simp only [Nat.reduceBEq] at HK
    obtain ⟨k1, k2, k3, k4, k5, k6, k7, k8, k9, k10, k11, k12, k13, k14, k15, k16, k17, k18, k19, k20, k21, k22, k23, k24, k25, k26, k27⟩ := HK
    go_enter Tryz.func108, Tryz.ntmps108
    go_wp2_with fail
    refine (HD.out _).mono ?_
    rintro e w' ⟨rfl, rfl⟩
    go_wp2_with fail
    go_ret
    exact ⟨by rw [← HR.out]; first | rfl | (simp [Ir.sumsV]; done), rfl⟩
  · simp only [Nat.reduceBEq] at HK
    obtain ⟨k1, k2, k3, k4, k5, k6, k7, k8, k9, k10, k11, k12, k13, k14, k15, k16, k17, k18, k19, k20, k21, k22, k23, k24, k25, k26, k27⟩ := HK
    go_enter Tryz.func108, Tryz.ntmps108
    go_wp2_with fail
    refine (HB.out 8 (by omega) _).mono ?_
    rintro e w' ⟨rfl, rfl⟩
    go_wp2_with fail
    go_ret
    exact ⟨ret_i (HA.out.trans (by rw [← HR.out]; rfl)), rfl⟩
  · simp only [Nat.reduceBEq] at HK
    obtain ⟨k1, k2, k3, k4, k5, k6, k7, k8, k9, k10, k11, k12, k13, k14, k15, k16, k17, k18, k19, k20, k21, k22, k23, k24, k25, k26, k27⟩ := HK
    go_enter Tryz.func108, Tryz.ntmps108
    go_wp2_with fail
    refine (HB.out 14 (by omega) _).mono ?_
    rintro e w' ⟨rfl, rfl⟩
    go_wp2_with fail
    go_ret
    exact ⟨ret_i (HO.out.trans (by rw [← HR.out]; rfl)), rfl⟩
  · simp only [Nat.reduceBEq] at HK
    obtain ⟨k1, k2, k3, k4, k5, k6, k7, k8, k9, k10, k11, k12, k13, k14, k15, k16, k17, k18, k19, k20, k21, k22, k23, k24, k25, k26, k27⟩ := HK
    go_enter Tryz.func108, Tryz.ntmps108
    go_wp2_with fail
    refine (HB.out 6 (by omega) _).mono ?_
    rintro e w' ⟨rfl, rfl⟩
    go_wp2_with fail
    go_ret
    exact ⟨ret_i (HX.out.trans (by rw [← HR.out]; rfl)), rfl⟩
  · simp only [Nat.reduceBEq] at HK
    obtain ⟨k1, k2, k3, k4, k5, k6, k7, k8, k9, k10, k11, k12, k13, k14, k15, k16, k17, k18, k19, k20, k21, k22, k23, k24, k25, k26, k27⟩ := HK
    go_enter Tryz.func108, Tryz.ntmps108
    go_wp2_with fail
    refine (HB.out 1 (by omega) _).mono ?_
    rintro e w' ⟨rfl, rfl⟩
    go_wp2_with fail
    go_ret
    exact ⟨ret_i (HN.out.trans (by rw [← HR.out]; rfl)), rfl⟩
  · simp only [Nat.reduceBEq] at HK
    obtain ⟨k1, k2, k3, k4, k5, k6, k7, k8, k9, k10, k11, k12, k13, k14, k15, k16, k17, k18, k19, k20, k21, k22, k23, k24, k25, k26, k27⟩ := HK
    go_enter Tryz.func108, Tryz.ntmps108
    go_wp2_with fail
    refine (HL.out _ _).mono ?_
    rintro e w' ⟨rfl, rfl⟩
    go_wp2_with fail
    refine (bit2_any _ _).mono ?_
    rintro e w' ⟨rfl, rfl⟩
    go_wp2_with fail
    go_ret
    exact ⟨by rw [← HR.out]; first | rfl | (simp [Ir.sumsV]; done), rfl⟩
  · simp only [Nat.reduceBEq] at HK
    obtain ⟨k1, k2, k3, k4, k5, k6, k7, k8, k9, k10, k11, k12, k13, k14, k15, k16, k17, k18, k19, k20, k21, k22, k23, k24, k25, k26, k27⟩ := HK
    go_enter Tryz.func108, Tryz.ntmps108
    go_wp2_with fail
    refine (HL.out _ _).mono ?_
    rintro e w' ⟨rfl, rfl⟩
    go_wp2_with fail
    refine (bit2_any _ _).mono ?_
    rintro e w' ⟨rfl, rfl⟩
    go_wp2_with fail
    go_ret
    exact ⟨by rw [← HR.out]; first | rfl | (simp [Ir.sumsV]; done), rfl⟩
  · simp only [Nat.reduceBEq] at HK
    obtain ⟨k1, k2, k3, k4, k5, k6, k7, k8, k9, k10, k11, k12, k13, k14, k15, k16, k17, k18, k19, k20, k21, k22, k23, k24, k25, k26, k27⟩ := HK
    go_enter Tryz.func108, Tryz.ntmps108
    go_wp2_with fail
    refine (HS.out _ _).mono ?_
    rintro e w' ⟨rfl, rfl⟩
    go_wp2_with fail
    go_ret
    exact ⟨by rw [← HR.out]; first | rfl | (simp [Ir.sumsV]; done), rfl⟩
  · simp only [Nat.reduceBEq] at HK
    obtain ⟨k1, k2, k3, k4, k5, k6, k7, k8, k9, k10, k11, k12, k13, k14, k15, k16, k17, k18, k19, k20, k21, k22, k23, k24, k25, k26, k27⟩ := HK
    go_enter Tryz.func108, Tryz.ntmps108
    go_wp2_with fail
    refine (HS.out _ _).mono ?_
    rintro e w' ⟨rfl, rfl⟩
    go_wp2_with fail
    go_ret
    exact ⟨by rw [← HR.out]; first | rfl | (simp [Ir.sumsV]; done), rfl⟩
  · simp only [Nat.reduceBEq] at HK
    obtain ⟨k1, k2, k3, k4, k5, k6, k7, k8, k9, k10, k11, k12, k13, k14, k15, k16, k17, k18, k19, k20, k21, k22, k23, k24, k25, k26, k27⟩ := HK
    go_enter Tryz.func108, Tryz.ntmps108
    go_wp2_with fail
    refine (HS.out _ _).mono ?_
    rintro e w' ⟨rfl, rfl⟩
    go_wp2_with fail
    go_ret
    exact ⟨by rw [← HR.out]; first | rfl | (simp [Ir.sumsV]; done), rfl⟩
  · simp only [Nat.reduceBEq] at HK
    obtain ⟨k1, k2, k3, k4, k5, k6, k7, k8, k9, k10, k11, k12, k13, k14, k15, k16, k17, k18, k19, k20, k21, k22, k23, k24, k25, k26, k27⟩ := HK
    go_enter Tryz.func108, Tryz.ntmps108
    go_wp2_with fail
    refine (HM.out _ _).mono ?_
    rintro e w' ⟨rfl, rfl⟩
    go_wp2_with fail
    go_ret
    exact ⟨by rw [← HR.out]; first | rfl | (simp [Ir.sumsV]; done), rfl⟩
  · simp only [Nat.reduceBEq] at HK
    obtain ⟨k1, k2, k3, k4, k5, k6, k7, k8, k9, k10, k11, k12, k13, k14, k15, k16, k17, k18, k19, k20, k21, k22, k23, k24, k25, k26, k27⟩ := HK
    go_enter Tryz.func108, Tryz.ntmps108
    go_wp2_with fail
    refine (HM.out _ _).mono ?_
    rintro e w' ⟨rfl, rfl⟩
    go_wp2_with fail
    go_ret
    exact ⟨by rw [← HR.out]; first | rfl | (simp [Ir.sumsV]; done), rfl⟩
  · simp only [Nat.reduceBEq] at HK
    obtain ⟨k1, k2, k3, k4, k5, k6, k7, k8, k9, k10, k11, k12, k13, k14, k15, k16, k17, k18, k19, k20, k21, k22, k23, k24, k25, k26, k27⟩ := HK
    go_enter Tryz.func108, Tryz.ntmps108
    go_wp2_with fail
    refine (HM.out _ _).mono ?_
    rintro e w' ⟨rfl, rfl⟩
    go_wp2_with fail
    go_ret
    exact ⟨by rw [← HR.out]; first | rfl | (simp [Ir.sumsV]; done), rfl⟩
end Go.Proofs.YtknhfobcejpmeaaGreatDoor
