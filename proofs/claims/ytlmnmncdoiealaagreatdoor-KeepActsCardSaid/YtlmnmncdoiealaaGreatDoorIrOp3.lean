
/- The walks of the reference's isOut, IsOf, isSize, OpError. -/
import Derived.Test.YtlmnmncdoiealaaGreatDoorIrOp2
import Derived.WalkKit
namespace Go.Proofs.YtlmnmncdoiealaaGreatDoor
open Go.RowKit Go.Deep
set_option linter.unusedVariables false
set_option linter.unusedSimpArgs false

theorem isOut_any (o : Ir.Op) (w : World) :
    Calls Tryz.prog 45 #[.agg (opC o)] w fun e w' => e = .returned (.bool (Ir.isOut (Ir.kn o.k))) ∧ Keeps (fun _ => False) w w' := by
  obtain ⟨k, d, a, b, im, t⟩ := o
  have h8 := is_out k
  have h9 := is_outr k
  have HK := Lib.hid ((Keeps.refl (fun _ => False) w).alloc (.cells #[.string k, .int .i64 d, .int .i64 a, .int .i64 b, .int .u32 im, .int .i64 t] 64))
  have HR : Hid (Ir.isOut (Ir.kn k) = (Ir.kn k == 8 || Ir.kn k == 9)) := Lib.hid (by unfold Ir.isOut; simp [Bool.decide_or, nat_beq])
  generalize Ir.isOut (Ir.kn k) = r at *
  cases e8 : (Ir.kn k == 8) <;> cases e9 : (Ir.kn k == 9)
  all_goals
    rw [e8] at h8 HR
    rw [e9] at h9 HR
    clear e8 e9
    obtain rfl := HR.out
    unfold opC
    go_enter Tryz.func45, Tryz.ntmps45
    go_wp2_with fail
    go_ret
    exact ⟨rfl, HK.out⟩

def hasC (l : List UInt8) (c : UInt8) : Bool := l.contains c
/-- a text has a letter -/
theorem has_step (l : List UInt8) (c : UInt8) (i : Nat) (hi : i < l.length) : hasC (l.take (i + 1)) c = (hasC (l.take i) c || l[i] == c) := by
  unfold hasC
  rw [List.take_succ_eq_append_getElem hi, List.contains_append]
  congr 1
  rw [List.contains_cons, List.contains_nil, Bool.or_false, Bool.beq_comm]
set_option maxHeartbeats 1000000 in
theorem isOf_any (l : List UInt8) (c : UInt8) (hl : l.length < 100) (w : World) :
    Calls Tryz.prog 63 #[.string ⟨l.toArray⟩, .int .u8 c.toNat] w fun e w' => e = .returned (.bool (hasC l c)) ∧ w = w' := by
  have hsz : (⟨l.toArray⟩ : ByteArray).size = l.length := by simp [ByteArray.size]
  go_enter Tryz.func63, Tryz.ntmps63
  go_wp2_with fail
  go_loopw [5] (fun s5 wr => ∃ i : Nat, i ≤ l.length ∧ s5 = .int .i64 i ∧ hasC (l.take i) c = false ∧ w = wr) (fun s5 _ => l.length - (intOf s5).toNat)
  case atStart => exact ⟨0, by omega, rfl, rfl, rfl⟩
  case round =>
    obtain ⟨i, hi, rfl, hf, rfl⟩ := hrel
    by_cases hlt : i < l.length
    · have hs := has_step l c i hlt
      rw [hf, Bool.false_or] at hs
      have ht : ((((⟨l.toArray⟩ : ByteArray)[i]'(by rw [hsz]; exact hlt)).toNat : Int) == (c.toNat : Int)) = (l[i] == c) := by
        have e : (⟨l.toArray⟩ : ByteArray)[i]'(by rw [hsz]; exact hlt) = l[i] := rfl
        rw [e, Bool.eq_iff_iff, beq_iff_eq, beq_iff_eq]
        constructor
        · intro h
          exact UInt8.toNat_inj.1 (by omega)
        · intro h
          rw [h]
      cases hb : (l[i] == c)
      · rw [hb] at hs ht
        clear hb
        go_wp2_with fail
        go_roundw
        case rel => exact ⟨i + 1, by omega, by go_num, hs, trivial⟩
        case measure => simp [intOf]; omega
      · rw [hb] at hs ht
        have HF : Hid (hasC l c = true) := Lib.hid (by
          unfold hasC at hs ⊢
          rw [List.contains_iff_mem] at hs ⊢
          exact List.mem_of_mem_take hs)
        clear hb
        go_wp2_with fail
        go_ret
        exact ⟨by rw [HF.out]; rfl, rfl⟩
    · obtain rfl : i = l.length := by omega
      rw [List.take_length] at hf
      have HF := Lib.hid hf
      clear hf
      go_wp2_with fail
      go_ret
      exact ⟨by rw [HF.out]; rfl, rfl⟩

set_option maxRecDepth 100000 in
theorem has_fields (c : Nat) (hc : c ≤ 27) (l : UInt8) (hl : l = 68 ∨ l = 65 ∨ l = 66 ∨ l = 73) : hasC (Ir.fieldsS c) l = hasL c l ∧ (Ir.fieldsS c).length < 100 := by
  have key : ∀ c : Fin 28, ∀ l ∈ [(68 : UInt8), 65, 66, 73], hasC (Ir.fieldsS c.val) l = hasL c.val l ∧ (Ir.fieldsS c.val).length < 100 := by decide +kernel
  exact key ⟨c, by omega⟩ l (by rcases hl with rfl | rfl | rfl | rfl <;> decide)
theorem isOf_fields (c : Nat) (hc : c ≤ 27) (l : UInt8) (hl : l = 68 ∨ l = 65 ∨ l = 66 ∨ l = 73) (w : World) :
    Calls Tryz.prog 63 #[.string (fieldsB c), .int .u8 l.toNat] w fun e w' => e = .returned (.bool (hasL c l)) ∧ w' = w := by
  obtain ⟨h1, h2⟩ := has_fields c hc l hl
  rw [← h1]
  exact (isOf_any (Ir.fieldsS c) l h2 w).mono fun e w' ⟨he, hw⟩ => ⟨he, hw.symm⟩
theorem isSize5 (n : Int) (w : World) :
    Calls Tryz.prog 64 #[.int .i64 n, .bool true] w fun e w' => e = .returned (.bool (decide (n = 1 ∨ n = 2 ∨ n = 4 ∨ n = -1 ∨ n = -2))) ∧ w' = w := by
  obtain ⟨r, hr⟩ : ∃ r, decide (n = 1 ∨ n = 2 ∨ n = 4 ∨ n = -1 ∨ n = -2) = r := ⟨_, rfl⟩
  rw [hr]
  have HR := Lib.hid hr.symm
  clear hr
  by_cases g0 : n = 1
  · subst g0
    have HR2 := Lib.hid (HR.out.trans (decide_eq_true (by omega)))
    clear HR
    go_enter Tryz.func64, Tryz.ntmps64
    go_wp2_with fail
    go_ret
    exact ⟨by rw [HR2.out]; rfl, rfl⟩
  · have f0 : (n == 1) = false := by simpa using g0
    by_cases g1 : n = 2
    · subst g1
      have HR2 := Lib.hid (HR.out.trans (decide_eq_true (by omega)))
      clear HR
      go_enter Tryz.func64, Tryz.ntmps64
      go_wp2_with fail
      go_ret
      exact ⟨by rw [HR2.out]; rfl, rfl⟩
    · have f1 : (n == 2) = false := by simpa using g1
      by_cases g2 : n = 4
      · subst g2
        have HR2 := Lib.hid (HR.out.trans (decide_eq_true (by omega)))
        clear HR
        go_enter Tryz.func64, Tryz.ntmps64
        go_wp2_with fail
        go_ret
        exact ⟨by rw [HR2.out]; rfl, rfl⟩
      · have f2 : (n == 4) = false := by simpa using g2
        by_cases g3 : n = (-1)
        · subst g3
          have HR2 := Lib.hid (HR.out.trans (decide_eq_true (by omega)))
          clear HR
          go_enter Tryz.func64, Tryz.ntmps64
          go_wp2_with fail
          go_ret
          exact ⟨by rw [HR2.out]; rfl, rfl⟩
        · have f3 : (n == (-1)) = false := by simpa using g3
          by_cases g4 : n = (-2)
          · subst g4
            have HR2 := Lib.hid (HR.out.trans (decide_eq_true (by omega)))
            clear HR
            go_enter Tryz.func64, Tryz.ntmps64
            go_wp2_with fail
            go_ret
            exact ⟨by rw [HR2.out]; rfl, rfl⟩
          · have f4 : (n == (-2)) = false := by simpa using g4
            have HR2 := Lib.hid (HR.out.trans (decide_eq_false (by omega)))
            clear HR
            go_enter Tryz.func64, Tryz.ntmps64
            go_wp2_with fail
            go_ret
            exact ⟨by rw [HR2.out]; rfl, rfl⟩
theorem isSize6 (n : Int) (w : World) :
    Calls Tryz.prog 64 #[.int .i64 n, .bool false] w fun e w' => e = .returned (.bool (decide (n = 1 ∨ n = 2 ∨ n = 4))) ∧ w' = w := by
  obtain ⟨r, hr⟩ : ∃ r, decide (n = 1 ∨ n = 2 ∨ n = 4) = r := ⟨_, rfl⟩
  rw [hr]
  have HR := Lib.hid hr.symm
  clear hr
  by_cases g0 : n = 1
  · subst g0
    have HR2 := Lib.hid (HR.out.trans (decide_eq_true (by omega)))
    clear HR
    go_enter Tryz.func64, Tryz.ntmps64
    go_wp2_with fail
    go_ret
    exact ⟨by rw [HR2.out]; rfl, rfl⟩
  · have f0 : (n == 1) = false := by simpa using g0
    by_cases g1 : n = 2
    · subst g1
      have HR2 := Lib.hid (HR.out.trans (decide_eq_true (by omega)))
      clear HR
      go_enter Tryz.func64, Tryz.ntmps64
      go_wp2_with fail
      go_ret
      exact ⟨by rw [HR2.out]; rfl, rfl⟩
    · have f1 : (n == 2) = false := by simpa using g1
      by_cases g2 : n = 4
      · subst g2
        have HR2 := Lib.hid (HR.out.trans (decide_eq_true (by omega)))
        clear HR
        go_enter Tryz.func64, Tryz.ntmps64
        go_wp2_with fail
        go_ret
        exact ⟨by rw [HR2.out]; rfl, rfl⟩
      · have f2 : (n == 4) = false := by simpa using g2
        have HR2 := Lib.hid (HR.out.trans (decide_eq_false (by omega)))
        clear HR
        go_enter Tryz.func64, Tryz.ntmps64
        go_wp2_with fail
        go_ret
        exact ⟨by rw [HR2.out]; rfl, rfl⟩
set_option maxHeartbeats 4000000 in
set_option maxRecDepth 100000 in
theorem opError_any (o : Ir.Op) (many : Int) (w : World) :
    Calls Tryz.prog 43 #[.agg (opC o), .int .i64 many] w fun e w' => e = .returned (.int .i64 (Ir.opErr o many)) ∧ Keeps (fun _ => False) w w' := by
  obtain ⟨k, d, a, b, im, t⟩ := o
  have HN := Lib.hid (op_new w k d a b im t 64)
  have HH := Lib.hid (fun w => fieldsOf_any k w)
  have HC := Lib.hid (fun l hl w => isOf_fields (Ir.kn k) (Ir.kn_le k) l hl w)
  have hf := fields_none (Ir.kn k) (Ir.kn_le k)
  have H5 := Lib.hid (is_load k)
  have H6 := Lib.hid (is_store k)
  obtain ⟨r, hr⟩ : ∃ r : Nat, Ir.opErr ⟨k, d, a, b, im, t⟩ many = r := ⟨_, rfl⟩
  rw [hr]
  have hr0 : r = if Ir.kn k = 0 then 4 else if ((((!hasL (Ir.kn k) 68 || (Ir.kn k == 6) || decide (1 ≤ d ∧ d < 64)) && (!hasL (Ir.kn k) 65 || decide (0 ≤ a ∧ a < 64)) && (!hasL (Ir.kn k) 66 || (Ir.kn k == 5) || decide (0 ≤ b ∧ b < 64))) && (if Ir.kn k = 5 then decide (b = 1 ∨ b = 2 ∨ b = 4 ∨ b = -1 ∨ b = -2) else if Ir.kn k = 6 then decide (d = 1 ∨ d = 2 ∨ d = 4) else true)) && decide (0 ≤ t) && decide (t < many)) = false then 2
      else if ((hasL (Ir.kn k) 68 || decide (d = 0)) && (hasL (Ir.kn k) 65 || decide (a = 0)) && (hasL (Ir.kn k) 66 || decide (b = 0)) && (hasL (Ir.kn k) 73 || decide (im = 0))) = false then 3 else 0 := by
    rw [← hr]
    unfold Ir.opErr Ir.regs Ir.bytes Ir.bare
    simp only [nat_beq]
    rfl
  clear hr
  generalize hcc : Ir.kn k = c at *
  clear hcc
  by_cases h0 : c = 0
  · rw [if_pos h0] at hr0
    subst hr0
    have hf' : (fieldsB c).toList.isEmpty = true := by rw [hf, h0]; rfl
    clear h0 hf
    generalize fieldsB c = fb at *
    unfold opC
    go_enter Tryz.func43, Tryz.ntmps43
    go_upto_region 1 with fail
    obtain ⟨hV, hK⟩ := HN.out
    generalize w.alloc _ = w1 at *
    generalize w.heap.size = x at *
    have v0 := hV.v0
    have HK := Lib.hid hK
    clear hK HN
    go_wp2_with fail
    refine (HH.out _).mono ?_
    rintro e w' ⟨rfl, rfl⟩
    go_wp2_with fail
    go_ret
    exact ⟨rfl, HK.out⟩
  rw [if_neg h0] at hr0
  have hf' : (fieldsB c).toList.isEmpty = false := by rw [hf]; simpa using h0
  have HD := Lib.hid (HC.out 68 (.inl rfl))
  have HA := Lib.hid (HC.out 65 (.inr (.inl rfl)))
  have HB := Lib.hid (HC.out 66 (.inr (.inr (.inl rfl))))
  have HI := Lib.hid (HC.out 73 (.inr (.inr (.inr rfl))))
  have hex : ¬ ((c == 5) = true ∧ (c == 6) = true) := by simp only [beq_iff_eq]; omega
  have e5 : (c = 5) = ((c == 5) = true) := by rw [beq_iff_eq]
  have e6 : (c = 6) = ((c == 6) = true) := by rw [beq_iff_eq]
  simp only [e5, e6] at hr0
  clear HC hf h0 e5 e6
  generalize hasL c 68 = pd at *
  generalize hasL c 65 = pa at *
  generalize hasL c 66 = pb at *
  generalize hasL c 73 = pi at *
  generalize fieldsB c = fb at *
  generalize (c == 5) = p5 at *
  generalize (c == 6) = p6 at *
  obtain ⟨b0, hb0⟩ : ∃ x, (decide (t < 0) || decide (many ≤ t)) = x := ⟨_, rfl⟩
  obtain ⟨b1, hb1⟩ : ∃ x, (b0 || (if p6 = true then !decide (d = 1 ∨ d = 2 ∨ d = 4) else pd && (decide (d < 1) || decide (64 ≤ d)))) = x := ⟨_, rfl⟩
  obtain ⟨y2, hy2⟩ : ∃ x, (pa && (decide (a < 0) || decide (64 ≤ a))) = x := ⟨_, rfl⟩
  obtain ⟨b2, hb2⟩ : ∃ x, (b1 || y2) = x := ⟨_, rfl⟩
  obtain ⟨b3, hb3⟩ : ∃ x, (b2 || (if p5 = true then !decide (b = 1 ∨ b = 2 ∨ b = 4 ∨ b = -1 ∨ b = -2) else pb && (decide (b < 0) || decide (64 ≤ b)))) = x := ⟨_, rfl⟩
  obtain ⟨c1, hc1⟩ : ∃ x, ((!pd && (d != 0)) || (!pa && (a != 0))) = x := ⟨_, rfl⟩
  obtain ⟨c2, hc2⟩ : ∃ x, ((!pb && (b != 0)) || (!pi && (im != 0))) = x := ⟨_, rfl⟩
  have HR : Hid (r = if b3 = true then 2 else if c1 = true then 3 else if c2 = true then 3 else 0) := Lib.hid (by
    have k1 : ∀ (x l h : Int), decide (l ≤ x ∧ x < h) = !(decide (x < l) || decide (h ≤ x)) := fun x l h => by
      rw [Bool.eq_iff_iff]; simp
    have k2 : ((((!pd || p6 || decide (1 ≤ d ∧ d < 64)) && (!pa || decide (0 ≤ a ∧ a < 64)) && (!pb || p5 || decide (0 ≤ b ∧ b < 64))) && (if p5 = true then decide (b = 1 ∨ b = 2 ∨ b = 4 ∨ b = -1 ∨ b = -2) else if p6 = true then decide (d = 1 ∨ d = 2 ∨ d = 4) else true)) && decide (0 ≤ t) && decide (t < many)) = !b3 := by
      rw [← hb3, ← hb2, ← hy2, ← hb1, ← hb0, k1, k1, k1, show decide (0 ≤ t) = !decide (t < 0) by rw [Bool.eq_iff_iff]; simp, show decide (t < many) = !decide (many ≤ t) by rw [Bool.eq_iff_iff]; simp]
      generalize decide (t < 0) = y1
      generalize decide (many ≤ t) = y2
      generalize (decide (d < 1) || decide (64 ≤ d)) = y3
      generalize (decide (a < 0) || decide (64 ≤ a)) = y4
      generalize (decide (b < 0) || decide (64 ≤ b)) = y5
      generalize decide (d = 1 ∨ d = 2 ∨ d = 4) = y6
      generalize decide (b = 1 ∨ b = 2 ∨ b = 4 ∨ b = -1 ∨ b = -2) = y7
      clear hr0 hb0 hb1 hb2 hb3 hc1 hc2 hy2
      cases p5 <;> cases p6 <;> simp at hex ⊢ <;> cases pd <;> cases pa <;> cases pb <;> cases y1 <;> cases y2 <;> cases y3 <;> cases y4 <;> cases y5 <;> cases y6 <;> cases y7 <;> rfl
    have k3 : ((pd || decide (d = 0)) && (pa || decide (a = 0)) && (pb || decide (b = 0)) && (pi || decide (im = 0))) = !(c1 || c2) := by
      rw [← hc1, ← hc2]
      have z : ∀ x : Int, (x != 0) = !decide (x = 0) := fun x => by rw [Bool.eq_iff_iff]; simp
      rw [z, z, z, z]
      generalize decide (d = 0) = y1
      generalize decide (a = 0) = y2
      generalize decide (b = 0) = y3
      generalize decide (im = 0) = y4
      cases pd <;> cases pa <;> cases pb <;> cases pi <;> cases y1 <;> cases y2 <;> cases y3 <;> cases y4 <;> rfl
    rw [hr0, k2, k3]
    cases b3 <;> cases c1 <;> cases c2 <;> rfl)
  have HB0 := Lib.hid hb0
  have HB1 := Lib.hid hb1
  have HB2 := Lib.hid hb2
  have HY2 := Lib.hid hy2
  have HB3 := Lib.hid hb3
  have HC1 := Lib.hid hc1
  have HC2 := Lib.hid hc2
  clear hr0 hex hb0 hb1 hb2 hb3 hc1 hc2 hy2
  unfold opC
  go_enter Tryz.func43, Tryz.ntmps43
  go_upto_region 1 with fail
  obtain ⟨hV, hK⟩ := HN.out
  generalize w.alloc _ = w1 at *
  generalize w.heap.size = x at *
  obtain ⟨v0, v1, v2, v3, v4, v5⟩ := hV
  simp only at v0 v1 v2 v3 v4 v5
  have HK := Lib.hid hK
  clear hK HN
  go_wp2_with fail
  refine (HH.out _).mono ?_
  rintro e w' ⟨rfl, rfl⟩
  go_wp2_with fail
  refine (HD.out _).mono ?_
  rintro e w' ⟨rfl, rfl⟩
  go_wp2_with fail
  refine (HA.out _).mono ?_
  rintro e w' ⟨rfl, rfl⟩
  go_wp2_with fail
  refine (HB.out _).mono ?_
  rintro e w' ⟨rfl, rfl⟩
  go_wp2_with fail
  refine (HI.out _).mono ?_
  rintro e w' ⟨rfl, rfl⟩
  go_upto_region 8 with fail
  go_cut [10] (fun s10 wx => s10 = .bool b0 ∧ wx = w')
  case first =>
    by_cases q1 : t < 0
    · have q1' : decide (t < 0) = true := decide_eq_true q1
      clear q1
      go_wp2_with fail
      go_meet
      exact ⟨by rw [← HB0.out, q1']; rfl, rfl⟩
    · have q1' : decide (t < 0) = false := decide_eq_false q1
      by_cases q2 : many ≤ t
      · have q2' : decide (many ≤ t) = true := decide_eq_true q2
        clear q1 q2
        go_wp2_with fail
        go_meet
        exact ⟨by rw [← HB0.out, q1', q2']; rfl, rfl⟩
      · have q2' : decide (many ≤ t) = false := decide_eq_false q2
        clear q1 q2
        go_wp2_with fail
        go_meet
        exact ⟨by rw [← HB0.out, q1', q2']; rfl, rfl⟩
  case rest =>
    obtain ⟨rfl, rfl⟩ := hcut
    clear hf'
    have h6 := H6.out
    go_upto_if 37 with fail
    go_cut [10] (fun s10 wx => s10 = .bool b1 ∧ wx = wc)
    case first =>
      cases p6
      · cases pd
        · go_wp2_with fail
          go_meet
          exact ⟨by rw [← HB1.out]; simp, rfl⟩
        · clear h6
          by_cases q1 : d < 1
          · have q1' : decide (d < 1) = true := decide_eq_true q1
            clear q1
            go_wp2_with fail
            go_meet
            exact ⟨by rw [← HB1.out, q1']; simp, rfl⟩
          · have q1' : decide (d < 1) = false := decide_eq_false q1
            by_cases q2 : 64 ≤ d
            · have q2' : decide (64 ≤ d) = true := decide_eq_true q2
              clear q1 q2
              go_wp2_with fail
              go_meet
              exact ⟨by rw [← HB1.out, q1', q2']; simp, rfl⟩
            · have q2' : decide (64 ≤ d) = false := decide_eq_false q2
              clear q1 q2
              go_wp2_with fail
              go_meet
              exact ⟨by rw [← HB1.out, q1', q2']; simp, rfl⟩
      · go_wp2_with fail
        refine (isSize6 d _).mono ?_
        rintro e w2 ⟨rfl, rfl⟩
        cases b0
        · go_wp2_with fail
          go_meet
          exact ⟨by rw [← HB1.out]; simp, rfl⟩
        · go_wp2_with fail
          go_meet
          exact ⟨by rw [← HB1.out]; simp, rfl⟩
    case rest =>
      obtain ⟨rfl, rfl⟩ := hcut
      clear h6
      go_upto_region 14 with fail
      go_cut [67] (fun s67 wx => s67 = .bool y2 ∧ wx = wc)
      case first =>
        cases pa
        · go_wp2_with fail
          go_meet
          exact ⟨by rw [← HY2.out]; rfl, rfl⟩
        ·
          by_cases q1 : a < 0
          · have q1' : decide (a < 0) = true := decide_eq_true q1
            clear q1
            go_wp2_with fail
            go_meet
            exact ⟨by rw [← HY2.out, q1']; rfl, rfl⟩
          · have q1' : decide (a < 0) = false := decide_eq_false q1
            by_cases q2 : 64 ≤ a
            · have q2' : decide (64 ≤ a) = true := decide_eq_true q2
              clear q1 q2
              go_wp2_with fail
              go_meet
              exact ⟨by rw [← HY2.out, q1', q2']; rfl, rfl⟩
            · have q2' : decide (64 ≤ a) = false := decide_eq_false q2
              clear q1 q2
              go_wp2_with fail
              go_meet
              exact ⟨by rw [← HY2.out, q1', q2']; rfl, rfl⟩
      case rest =>
        obtain ⟨rfl, rfl⟩ := hcut
        go_upto_if 67 with fail
        go_cut [10] (fun s10 wx => s10 = .bool b2 ∧ wx = wc)
        case first =>
          cases y2
          · go_wp2_with fail
            go_meet
            exact ⟨by rw [← HB2.out]; simp, rfl⟩
          · go_wp2_with fail
            go_meet
            exact ⟨by rw [← HB2.out]; simp, rfl⟩
        case rest =>
          obtain ⟨rfl, rfl⟩ := hcut
          have h5 := H5.out
          go_upto_if 70 with fail
          go_cut [10] (fun s10 wx => s10 = .bool b3 ∧ wx = wc)
          case first =>
            cases p5
            · cases pb
              · go_wp2_with fail
                go_meet
                exact ⟨by rw [← HB3.out]; simp, rfl⟩
              · clear h5
                by_cases q1 : b < 0
                · have q1' : decide (b < 0) = true := decide_eq_true q1
                  clear q1
                  go_wp2_with fail
                  go_meet
                  exact ⟨by rw [← HB3.out, q1']; simp, rfl⟩
                · have q1' : decide (b < 0) = false := decide_eq_false q1
                  by_cases q2 : 64 ≤ b
                  · have q2' : decide (64 ≤ b) = true := decide_eq_true q2
                    clear q1 q2
                    go_wp2_with fail
                    go_meet
                    exact ⟨by rw [← HB3.out, q1', q2']; simp, rfl⟩
                  · have q2' : decide (64 ≤ b) = false := decide_eq_false q2
                    clear q1 q2
                    go_wp2_with fail
                    go_meet
                    exact ⟨by rw [← HB3.out, q1', q2']; simp, rfl⟩
            · go_wp2_with fail
              refine (isSize5 b _).mono ?_
              rintro e w2 ⟨rfl, rfl⟩
              cases b2
              · go_wp2_with fail
                go_meet
                exact ⟨by rw [← HB3.out]; simp, rfl⟩
              · go_wp2_with fail
                go_meet
                exact ⟨by rw [← HB3.out]; simp, rfl⟩
          case rest =>
            obtain ⟨rfl, rfl⟩ := hcut
            clear h5
            have hr := HR.out
            cases b3
            · rw [if_neg (by decide)] at hr
              have HR2 := Lib.hid hr
              clear hr
              go_upto_region 23 with fail
              go_cut [106] (fun s106 wx => s106 = .bool c1 ∧ wx = wc)
              case first =>
                have hz := HC1.out

                cases pd
                · by_cases z1 : d = 0
                  · have z1' : (d != 0) = false := by simp [z1]
                    clear z1
                    cases pa
                    · rw [z1'] at hz
                      simp only [Bool.not_false, Bool.true_and, Bool.false_or, Bool.and_false] at hz
                      have HZ := Lib.hid hz
                      clear hz
                      go_wp2_with fail
                      go_meet
                      exact ⟨by rw [← HZ.out], rfl⟩
                    · rw [z1'] at hz
                      subst hz
                      go_wp2_with fail
                      go_meet
                      exact ⟨rfl, rfl⟩
                  · have z1' : (d != 0) = true := by simp [z1]
                    rw [z1'] at hz
                    simp only [Bool.not_false, Bool.true_and, Bool.true_or] at hz
                    subst hz
                    clear z1
                    go_wp2_with fail
                    go_meet
                    exact ⟨rfl, rfl⟩
                · cases pa
                  · simp only [Bool.not_true, Bool.false_and, Bool.false_or, Bool.not_false, Bool.true_and] at hz
                    have HZ := Lib.hid hz
                    clear hz
                    go_wp2_with fail
                    go_meet
                    exact ⟨by rw [← HZ.out], rfl⟩
                  · simp only [Bool.not_true, Bool.false_and, Bool.false_or] at hz
                    subst hz
                    go_wp2_with fail
                    go_meet
                    exact ⟨rfl, rfl⟩
              case rest =>
                obtain ⟨rfl, rfl⟩ := hcut
                have hr := HR2.out
                cases c1
                · rw [if_neg (by decide)] at hr
                  have HR3 := Lib.hid hr
                  clear hr HR HR2
                  go_upto_region 25 with fail
                  go_cut [122] (fun s122 wx => s122 = .bool c2 ∧ wx = wc)
                  case first =>
                    have hz := HC2.out
                    cases pb
                    · by_cases z1 : b = 0
                      · have z1' : (b != 0) = false := by simp [z1]
                        clear z1
                        cases pi
                        · rw [z1'] at hz
                          simp only [Bool.not_false, Bool.true_and, Bool.false_or, Bool.and_false] at hz
                          have HZ := Lib.hid hz
                          clear hz
                          go_wp2_with fail
                          go_meet
                          exact ⟨by rw [← HZ.out], rfl⟩
                        · rw [z1'] at hz
                          subst hz
                          go_wp2_with fail
                          go_meet
                          exact ⟨rfl, rfl⟩
                      · have z1' : (b != 0) = true := by simp [z1]
                        rw [z1'] at hz
                        simp only [Bool.not_false, Bool.true_and, Bool.true_or] at hz
                        subst hz
                        clear z1
                        go_wp2_with fail
                        go_meet
                        exact ⟨rfl, rfl⟩
                    · cases pi
                      · simp only [Bool.not_true, Bool.false_and, Bool.false_or, Bool.not_false, Bool.true_and] at hz
                        have HZ := Lib.hid hz
                        clear hz
                        go_wp2_with fail
                        go_meet
                        exact ⟨by rw [← HZ.out], rfl⟩
                      · simp only [Bool.not_true, Bool.false_and, Bool.false_or] at hz
                        subst hz
                        go_wp2_with fail
                        go_meet
                        exact ⟨rfl, rfl⟩
                  case rest =>
                    obtain ⟨rfl, rfl⟩ := hcut
                    have hr := HR3.out
                    cases c2
                    · rw [if_neg (by decide)] at hr
                      subst hr
                      go_wp2_with fail
                      go_ret
                      exact ⟨rfl, HK.out⟩
                    · rw [if_pos rfl] at hr
                      subst hr
                      go_wp2_with fail
                      go_ret
                      exact ⟨rfl, HK.out⟩
                · rw [if_pos rfl] at hr
                  subst hr
                  clear HR HR2
                  go_wp2_with fail
                  go_ret
                  exact ⟨rfl, HK.out⟩
            · rw [if_pos rfl] at hr
              subst hr
              clear HR
              go_wp2_with fail
              go_ret
              exact ⟨rfl, HK.out⟩
end Go.Proofs.YtlmnmncdoiealaaGreatDoor
