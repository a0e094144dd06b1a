
/- The walks of the code's bytes, bare, CheckOp. -/
import Derived.Test.YtlmnmncdoiealaaGreatDoorIrOp
namespace Go.Proofs.YtlmnmncdoiealaaGreatDoor
open Go.RowKit Go.Deep
set_option linter.unusedVariables false
set_option linter.unusedSimpArgs false

set_option maxHeartbeats 2000000 in
theorem bytes_any (o : Ir.Op) (w : World) :
    Calls Tryz.prog 88 #[.agg (opC o)] w fun e w' => e = .returned (.bool (Ir.bytes o)) ∧ Keeps (fun _ => False) w w' := by
  obtain ⟨k, d, a, b, im, t⟩ := o
  have h5 := is_load k
  have h6 := is_store k
  have HK := Lib.hid ((Keeps.refl (fun _ => False) w).alloc (.cells #[.string k, .int .i64 d, .int .i64 a, .int .i64 b, .int .u32 im, .int .i64 t] 64))
  obtain ⟨r, hr⟩ : ∃ r, Ir.bytes ⟨k, d, a, b, im, t⟩ = r := ⟨_, rfl⟩
  rw [hr]
  by_cases e5 : Ir.kn k = 5
  · have HR : Hid (r = decide (b = 1 ∨ b = 2 ∨ b = 4 ∨ b = -1 ∨ b = -2)) := Lib.hid (by rw [← hr]; exact if_pos e5)
    rw [e5] at h5
    simp only [Nat.reduceBEq] at h5
    clear h6 hr e5
    unfold opC
    by_cases g0 : b = 1
    · subst g0
      have HR2 := Lib.hid (HR.out.trans (decide_eq_true (by omega)))
      clear HR
      go_enter Tryz.func88, Tryz.ntmps88
      go_wp2_with fail
      go_ret
      exact ⟨by rw [HR2.out]; rfl, HK.out⟩
    · have f0 : (b == 1) = false := by simpa using g0
      by_cases g1 : b = 2
      · subst g1
        have HR2 := Lib.hid (HR.out.trans (decide_eq_true (by omega)))
        clear HR
        go_enter Tryz.func88, Tryz.ntmps88
        go_wp2_with fail
        go_ret
        exact ⟨by rw [HR2.out]; rfl, HK.out⟩
      · have f1 : (b == 2) = false := by simpa using g1
        by_cases g2 : b = 4
        · subst g2
          have HR2 := Lib.hid (HR.out.trans (decide_eq_true (by omega)))
          clear HR
          go_enter Tryz.func88, Tryz.ntmps88
          go_wp2_with fail
          go_ret
          exact ⟨by rw [HR2.out]; rfl, HK.out⟩
        · have f2 : (b == 4) = false := by simpa using g2
          by_cases g3 : b = (-1)
          · subst g3
            have HR2 := Lib.hid (HR.out.trans (decide_eq_true (by omega)))
            clear HR
            go_enter Tryz.func88, Tryz.ntmps88
            go_wp2_with fail
            go_ret
            exact ⟨by rw [HR2.out]; rfl, HK.out⟩
          · have f3 : (b == (-1)) = false := by simpa using g3
            by_cases g4 : b = (-2)
            · subst g4
              have HR2 := Lib.hid (HR.out.trans (decide_eq_true (by omega)))
              clear HR
              go_enter Tryz.func88, Tryz.ntmps88
              go_wp2_with fail
              go_ret
              exact ⟨by rw [HR2.out]; rfl, HK.out⟩
            · have f4 : (b == (-2)) = false := by simpa using g4
              have HR2 := Lib.hid (HR.out.trans (decide_eq_false (by omega)))
              clear HR
              go_enter Tryz.func88, Tryz.ntmps88
              go_wp2_with fail
              go_ret
              exact ⟨by rw [HR2.out]; rfl, HK.out⟩
  · by_cases e6 : Ir.kn k = 6
    · have HR : Hid (r = decide (d = 1 ∨ d = 2 ∨ d = 4)) := Lib.hid (by rw [← hr]; exact (if_neg e5).trans (if_pos e6))
      rw [e6] at h6 h5
      simp only [Nat.reduceBEq] at h6 h5
      clear hr e5 e6
      unfold opC
      by_cases g0 : d = 1
      · subst g0
        have HR2 := Lib.hid (HR.out.trans (decide_eq_true (by omega)))
        clear HR
        go_enter Tryz.func88, Tryz.ntmps88
        go_wp2_with fail
        go_ret
        exact ⟨by rw [HR2.out]; rfl, HK.out⟩
      · have f0 : (d == 1) = false := by simpa using g0
        by_cases g1 : d = 2
        · subst g1
          have HR2 := Lib.hid (HR.out.trans (decide_eq_true (by omega)))
          clear HR
          go_enter Tryz.func88, Tryz.ntmps88
          go_wp2_with fail
          go_ret
          exact ⟨by rw [HR2.out]; rfl, HK.out⟩
        · have f1 : (d == 2) = false := by simpa using g1
          by_cases g2 : d = 4
          · subst g2
            have HR2 := Lib.hid (HR.out.trans (decide_eq_true (by omega)))
            clear HR
            go_enter Tryz.func88, Tryz.ntmps88
            go_wp2_with fail
            go_ret
            exact ⟨by rw [HR2.out]; rfl, HK.out⟩
          · have f2 : (d == 4) = false := by simpa using g2
            have HR2 := Lib.hid (HR.out.trans (decide_eq_false (by omega)))
            clear HR
            go_enter Tryz.func88, Tryz.ntmps88
            go_wp2_with fail
            go_ret
            exact ⟨by rw [HR2.out]; rfl, HK.out⟩
    · have HR : Hid (r = true) := Lib.hid (by rw [← hr]; exact (if_neg e5).trans (if_neg e6))
      have h5' : (k.toList == [108, 111, 97, 100]) = false := by rw [h5]; simpa using e5
      have h6' : (k.toList == [115, 116, 111, 114, 101]) = false := by rw [h6]; simpa using e6
      clear h5 h6 hr e5 e6
      unfold opC
      go_enter Tryz.func88, Tryz.ntmps88
      go_wp2_with fail
      go_ret
      exact ⟨by rw [HR.out]; rfl, HK.out⟩
theorem pats (c : Nat) (hc : c ≤ 27) : (hasL c 68 = false ∧ hasL c 65 = false ∧ hasL c 66 = false ∧ hasL c 73 = false) ∨ (hasL c 68 = true ∧ hasL c 65 = false ∧ hasL c 66 = false ∧ hasL c 73 = true) ∨ (hasL c 68 = true ∧ hasL c 65 = true ∧ hasL c 66 = false ∧ hasL c 73 = false) ∨ (hasL c 68 = false ∧ hasL c 65 = true ∧ hasL c 66 = true ∧ hasL c 73 = false) ∨ (hasL c 68 = true ∧ hasL c 65 = true ∧ hasL c 66 = true ∧ hasL c 73 = true) ∨ (hasL c 68 = false ∧ hasL c 65 = true ∧ hasL c 66 = false ∧ hasL c 73 = true) ∨ (hasL c 68 = false ∧ hasL c 65 = false ∧ hasL c 66 = false ∧ hasL c 73 = true) ∨ (hasL c 68 = false ∧ hasL c 65 = true ∧ hasL c 66 = false ∧ hasL c 73 = false) ∨ (hasL c 68 = true ∧ hasL c 65 = true ∧ hasL c 66 = true ∧ hasL c 73 = false) := by
  have key : ∀ c : Fin 28, (hasL c.val 68 = false ∧ hasL c.val 65 = false ∧ hasL c.val 66 = false ∧ hasL c.val 73 = false) ∨ (hasL c.val 68 = true ∧ hasL c.val 65 = false ∧ hasL c.val 66 = false ∧ hasL c.val 73 = true) ∨ (hasL c.val 68 = true ∧ hasL c.val 65 = true ∧ hasL c.val 66 = false ∧ hasL c.val 73 = false) ∨ (hasL c.val 68 = false ∧ hasL c.val 65 = true ∧ hasL c.val 66 = true ∧ hasL c.val 73 = false) ∨ (hasL c.val 68 = true ∧ hasL c.val 65 = true ∧ hasL c.val 66 = true ∧ hasL c.val 73 = true) ∨ (hasL c.val 68 = false ∧ hasL c.val 65 = true ∧ hasL c.val 66 = false ∧ hasL c.val 73 = true) ∨ (hasL c.val 68 = false ∧ hasL c.val 65 = false ∧ hasL c.val 66 = false ∧ hasL c.val 73 = true) ∨ (hasL c.val 68 = false ∧ hasL c.val 65 = true ∧ hasL c.val 66 = false ∧ hasL c.val 73 = false) ∨ (hasL c.val 68 = true ∧ hasL c.val 65 = true ∧ hasL c.val 66 = true ∧ hasL c.val 73 = false) := by decide +kernel
  exact key ⟨c, by omega⟩
set_option maxHeartbeats 4000000 in
set_option maxRecDepth 100000 in
theorem bare_any (o : Ir.Op) (w : World) :
    Calls Tryz.prog 89 #[.agg (opC o)] w fun e w' => e = .returned (.bool (Ir.bare o)) ∧ Keeps (fun _ => False) w w' := by
  obtain ⟨k, d, a, b, im, t⟩ := o
  have HN := Lib.hid (op_new w k d a b im t 64)
  have HH := Lib.hid (fun w => has_any k w)
  have HC := Lib.hid (fun l hl w => contains_fields (Ir.kn k) (Ir.kn_le k) l hl w)
  have hp := pats (Ir.kn k) (Ir.kn_le k)
  obtain ⟨r, hr⟩ : ∃ r, Ir.bare ⟨k, d, a, b, im, t⟩ = r := ⟨_, rfl⟩
  rw [hr]
  have hr0 : r = ((hasL (Ir.kn k) 68 || decide (d = 0)) && (hasL (Ir.kn k) 65 || decide (a = 0)) && (hasL (Ir.kn k) 66 || decide (b = 0)) && (hasL (Ir.kn k) 73 || decide (im = 0))) := by
    rw [← hr]
    rfl
  clear hr
  generalize Ir.kn k = c at *
  have H68 := Lib.hid (HC.out 68 (.inl rfl))
  have H65 := Lib.hid (HC.out 65 (.inr (.inl rfl)))
  have H66 := Lib.hid (HC.out 66 (.inr (.inr (.inl rfl))))
  have H73 := Lib.hid (HC.out 73 (.inr (.inr (.inr rfl))))
  clear HC
  generalize hasL c 68 = pd at *
  generalize hasL c 65 = pa at *
  generalize hasL c 66 = pb at *
  generalize hasL c 73 = pi at *
  generalize fieldsB c = fb at *
  unfold opC
  rcases hp with ⟨rfl, rfl, rfl, rfl⟩ | ⟨rfl, rfl, rfl, rfl⟩ | ⟨rfl, rfl, rfl, rfl⟩ | ⟨rfl, rfl, rfl, rfl⟩ | ⟨rfl, rfl, rfl, rfl⟩ | ⟨rfl, rfl, rfl, rfl⟩ | ⟨rfl, rfl, rfl, rfl⟩ | ⟨rfl, rfl, rfl, rfl⟩ | ⟨rfl, rfl, rfl, rfl⟩
  · by_cases zd : d = 0
    · have yd : (d == 0) = true := by simpa using zd
      have HZd := Lib.hid zd
      clear zd
      by_cases za : a = 0
      · have ya : (a == 0) = true := by simpa using za
        have HZa := Lib.hid za
        clear za
        by_cases zb : b = 0
        · have yb : (b == 0) = true := by simpa using zb
          have HZb := Lib.hid zb
          clear zb
          by_cases zim : im = 0
          · have yim : (im == 0) = true := by simpa using zim
            have HZim := Lib.hid zim
            clear zim
            have HR : Hid (r = true) := Lib.hid (by rw [hr0]; simp [HZd.out, HZa.out, HZb.out, HZim.out])
            clear hr0
            go_enter Tryz.func89, Tryz.ntmps89
            go_upto_region 1 with fail
            obtain ⟨hV, hK⟩ := HN.out
            generalize w.alloc _ = w1 at *
            generalize w.heap.size = x at *
            obtain ⟨v0, v1, v2, v3, v4, v5⟩ := hV
            simp only at v0 v1 v2 v3 v4 v5
            have HK := Lib.hid hK
            clear hK HN
            go_wp2_with fail
            refine (HH.out _).mono ?_
            rintro e w' ⟨rfl, rfl⟩
            go_wp2_with fail
            refine (H68.out _).mono ?_
            rintro e w' ⟨rfl, rfl⟩
            go_wp2_with fail
            refine (H65.out _).mono ?_
            rintro e w' ⟨rfl, rfl⟩
            go_wp2_with fail
            refine (H66.out _).mono ?_
            rintro e w' ⟨rfl, rfl⟩
            go_wp2_with fail
            refine (H73.out _).mono ?_
            rintro e w' ⟨rfl, rfl⟩
            go_wp2_with fail
            go_ret
            exact ⟨by rw [HR.out]; rfl, HK.out⟩
          · have yim : (im == 0) = false := by simpa using zim
            have HR : Hid (r = false) := Lib.hid (by rw [hr0]; simp [zim])
            clear hr0 zim
            go_enter Tryz.func89, Tryz.ntmps89
            go_upto_region 1 with fail
            obtain ⟨hV, hK⟩ := HN.out
            generalize w.alloc _ = w1 at *
            generalize w.heap.size = x at *
            obtain ⟨v0, v1, v2, v3, v4, v5⟩ := hV
            simp only at v0 v1 v2 v3 v4 v5
            have HK := Lib.hid hK
            clear hK HN
            go_wp2_with fail
            refine (HH.out _).mono ?_
            rintro e w' ⟨rfl, rfl⟩
            go_wp2_with fail
            refine (H68.out _).mono ?_
            rintro e w' ⟨rfl, rfl⟩
            go_wp2_with fail
            refine (H65.out _).mono ?_
            rintro e w' ⟨rfl, rfl⟩
            go_wp2_with fail
            refine (H66.out _).mono ?_
            rintro e w' ⟨rfl, rfl⟩
            go_wp2_with fail
            refine (H73.out _).mono ?_
            rintro e w' ⟨rfl, rfl⟩
            go_wp2_with fail
            go_ret
            exact ⟨by rw [HR.out]; rfl, HK.out⟩
        · have yb : (b == 0) = false := by simpa using zb
          have HR : Hid (r = false) := Lib.hid (by rw [hr0]; simp [zb])
          clear hr0 zb
          go_enter Tryz.func89, Tryz.ntmps89
          go_upto_region 1 with fail
          obtain ⟨hV, hK⟩ := HN.out
          generalize w.alloc _ = w1 at *
          generalize w.heap.size = x at *
          obtain ⟨v0, v1, v2, v3, v4, v5⟩ := hV
          simp only at v0 v1 v2 v3 v4 v5
          have HK := Lib.hid hK
          clear hK HN
          go_wp2_with fail
          refine (HH.out _).mono ?_
          rintro e w' ⟨rfl, rfl⟩
          go_wp2_with fail
          refine (H68.out _).mono ?_
          rintro e w' ⟨rfl, rfl⟩
          go_wp2_with fail
          refine (H65.out _).mono ?_
          rintro e w' ⟨rfl, rfl⟩
          go_wp2_with fail
          refine (H66.out _).mono ?_
          rintro e w' ⟨rfl, rfl⟩
          go_wp2_with fail
          go_ret
          exact ⟨by rw [HR.out]; rfl, HK.out⟩
      · have ya : (a == 0) = false := by simpa using za
        have HR : Hid (r = false) := Lib.hid (by rw [hr0]; simp [za])
        clear hr0 za
        go_enter Tryz.func89, Tryz.ntmps89
        go_upto_region 1 with fail
        obtain ⟨hV, hK⟩ := HN.out
        generalize w.alloc _ = w1 at *
        generalize w.heap.size = x at *
        obtain ⟨v0, v1, v2, v3, v4, v5⟩ := hV
        simp only at v0 v1 v2 v3 v4 v5
        have HK := Lib.hid hK
        clear hK HN
        go_wp2_with fail
        refine (HH.out _).mono ?_
        rintro e w' ⟨rfl, rfl⟩
        go_wp2_with fail
        refine (H68.out _).mono ?_
        rintro e w' ⟨rfl, rfl⟩
        go_wp2_with fail
        refine (H65.out _).mono ?_
        rintro e w' ⟨rfl, rfl⟩
        go_wp2_with fail
        go_ret
        exact ⟨by rw [HR.out]; rfl, HK.out⟩
    · have yd : (d == 0) = false := by simpa using zd
      have HR : Hid (r = false) := Lib.hid (by rw [hr0]; simp [zd])
      clear hr0 zd
      go_enter Tryz.func89, Tryz.ntmps89
      go_upto_region 1 with fail
      obtain ⟨hV, hK⟩ := HN.out
      generalize w.alloc _ = w1 at *
      generalize w.heap.size = x at *
      obtain ⟨v0, v1, v2, v3, v4, v5⟩ := hV
      simp only at v0 v1 v2 v3 v4 v5
      have HK := Lib.hid hK
      clear hK HN
      go_wp2_with fail
      refine (HH.out _).mono ?_
      rintro e w' ⟨rfl, rfl⟩
      go_wp2_with fail
      refine (H68.out _).mono ?_
      rintro e w' ⟨rfl, rfl⟩
      go_wp2_with fail
      go_ret
      exact ⟨by rw [HR.out]; rfl, HK.out⟩
  · by_cases za : a = 0
    · have ya : (a == 0) = true := by simpa using za
      have HZa := Lib.hid za
      clear za
      by_cases zb : b = 0
      · have yb : (b == 0) = true := by simpa using zb
        have HZb := Lib.hid zb
        clear zb
        have HR : Hid (r = true) := Lib.hid (by rw [hr0]; simp [HZa.out, HZb.out])
        clear hr0
        go_enter Tryz.func89, Tryz.ntmps89
        go_upto_region 1 with fail
        obtain ⟨hV, hK⟩ := HN.out
        generalize w.alloc _ = w1 at *
        generalize w.heap.size = x at *
        obtain ⟨v0, v1, v2, v3, v4, v5⟩ := hV
        simp only at v0 v1 v2 v3 v4 v5
        have HK := Lib.hid hK
        clear hK HN
        go_wp2_with fail
        refine (HH.out _).mono ?_
        rintro e w' ⟨rfl, rfl⟩
        go_wp2_with fail
        refine (H68.out _).mono ?_
        rintro e w' ⟨rfl, rfl⟩
        go_wp2_with fail
        refine (H65.out _).mono ?_
        rintro e w' ⟨rfl, rfl⟩
        go_wp2_with fail
        refine (H66.out _).mono ?_
        rintro e w' ⟨rfl, rfl⟩
        go_wp2_with fail
        refine (H73.out _).mono ?_
        rintro e w' ⟨rfl, rfl⟩
        go_wp2_with fail
        go_ret
        exact ⟨by rw [HR.out]; rfl, HK.out⟩
      · have yb : (b == 0) = false := by simpa using zb
        have HR : Hid (r = false) := Lib.hid (by rw [hr0]; simp [zb])
        clear hr0 zb
        go_enter Tryz.func89, Tryz.ntmps89
        go_upto_region 1 with fail
        obtain ⟨hV, hK⟩ := HN.out
        generalize w.alloc _ = w1 at *
        generalize w.heap.size = x at *
        obtain ⟨v0, v1, v2, v3, v4, v5⟩ := hV
        simp only at v0 v1 v2 v3 v4 v5
        have HK := Lib.hid hK
        clear hK HN
        go_wp2_with fail
        refine (HH.out _).mono ?_
        rintro e w' ⟨rfl, rfl⟩
        go_wp2_with fail
        refine (H68.out _).mono ?_
        rintro e w' ⟨rfl, rfl⟩
        go_wp2_with fail
        refine (H65.out _).mono ?_
        rintro e w' ⟨rfl, rfl⟩
        go_wp2_with fail
        refine (H66.out _).mono ?_
        rintro e w' ⟨rfl, rfl⟩
        go_wp2_with fail
        go_ret
        exact ⟨by rw [HR.out]; rfl, HK.out⟩
    · have ya : (a == 0) = false := by simpa using za
      have HR : Hid (r = false) := Lib.hid (by rw [hr0]; simp [za])
      clear hr0 za
      go_enter Tryz.func89, Tryz.ntmps89
      go_upto_region 1 with fail
      obtain ⟨hV, hK⟩ := HN.out
      generalize w.alloc _ = w1 at *
      generalize w.heap.size = x at *
      obtain ⟨v0, v1, v2, v3, v4, v5⟩ := hV
      simp only at v0 v1 v2 v3 v4 v5
      have HK := Lib.hid hK
      clear hK HN
      go_wp2_with fail
      refine (HH.out _).mono ?_
      rintro e w' ⟨rfl, rfl⟩
      go_wp2_with fail
      refine (H68.out _).mono ?_
      rintro e w' ⟨rfl, rfl⟩
      go_wp2_with fail
      refine (H65.out _).mono ?_
      rintro e w' ⟨rfl, rfl⟩
      go_wp2_with fail
      go_ret
      exact ⟨by rw [HR.out]; rfl, HK.out⟩
  · by_cases zb : b = 0
    · have yb : (b == 0) = true := by simpa using zb
      have HZb := Lib.hid zb
      clear zb
      by_cases zim : im = 0
      · have yim : (im == 0) = true := by simpa using zim
        have HZim := Lib.hid zim
        clear zim
        have HR : Hid (r = true) := Lib.hid (by rw [hr0]; simp [HZb.out, HZim.out])
        clear hr0
        go_enter Tryz.func89, Tryz.ntmps89
        go_upto_region 1 with fail
        obtain ⟨hV, hK⟩ := HN.out
        generalize w.alloc _ = w1 at *
        generalize w.heap.size = x at *
        obtain ⟨v0, v1, v2, v3, v4, v5⟩ := hV
        simp only at v0 v1 v2 v3 v4 v5
        have HK := Lib.hid hK
        clear hK HN
        go_wp2_with fail
        refine (HH.out _).mono ?_
        rintro e w' ⟨rfl, rfl⟩
        go_wp2_with fail
        refine (H68.out _).mono ?_
        rintro e w' ⟨rfl, rfl⟩
        go_wp2_with fail
        refine (H65.out _).mono ?_
        rintro e w' ⟨rfl, rfl⟩
        go_wp2_with fail
        refine (H66.out _).mono ?_
        rintro e w' ⟨rfl, rfl⟩
        go_wp2_with fail
        refine (H73.out _).mono ?_
        rintro e w' ⟨rfl, rfl⟩
        go_wp2_with fail
        go_ret
        exact ⟨by rw [HR.out]; rfl, HK.out⟩
      · have yim : (im == 0) = false := by simpa using zim
        have HR : Hid (r = false) := Lib.hid (by rw [hr0]; simp [zim])
        clear hr0 zim
        go_enter Tryz.func89, Tryz.ntmps89
        go_upto_region 1 with fail
        obtain ⟨hV, hK⟩ := HN.out
        generalize w.alloc _ = w1 at *
        generalize w.heap.size = x at *
        obtain ⟨v0, v1, v2, v3, v4, v5⟩ := hV
        simp only at v0 v1 v2 v3 v4 v5
        have HK := Lib.hid hK
        clear hK HN
        go_wp2_with fail
        refine (HH.out _).mono ?_
        rintro e w' ⟨rfl, rfl⟩
        go_wp2_with fail
        refine (H68.out _).mono ?_
        rintro e w' ⟨rfl, rfl⟩
        go_wp2_with fail
        refine (H65.out _).mono ?_
        rintro e w' ⟨rfl, rfl⟩
        go_wp2_with fail
        refine (H66.out _).mono ?_
        rintro e w' ⟨rfl, rfl⟩
        go_wp2_with fail
        refine (H73.out _).mono ?_
        rintro e w' ⟨rfl, rfl⟩
        go_wp2_with fail
        go_ret
        exact ⟨by rw [HR.out]; rfl, HK.out⟩
    · have yb : (b == 0) = false := by simpa using zb
      have HR : Hid (r = false) := Lib.hid (by rw [hr0]; simp [zb])
      clear hr0 zb
      go_enter Tryz.func89, Tryz.ntmps89
      go_upto_region 1 with fail
      obtain ⟨hV, hK⟩ := HN.out
      generalize w.alloc _ = w1 at *
      generalize w.heap.size = x at *
      obtain ⟨v0, v1, v2, v3, v4, v5⟩ := hV
      simp only at v0 v1 v2 v3 v4 v5
      have HK := Lib.hid hK
      clear hK HN
      go_wp2_with fail
      refine (HH.out _).mono ?_
      rintro e w' ⟨rfl, rfl⟩
      go_wp2_with fail
      refine (H68.out _).mono ?_
      rintro e w' ⟨rfl, rfl⟩
      go_wp2_with fail
      refine (H65.out _).mono ?_
      rintro e w' ⟨rfl, rfl⟩
      go_wp2_with fail
      refine (H66.out _).mono ?_
      rintro e w' ⟨rfl, rfl⟩
      go_wp2_with fail
      go_ret
      exact ⟨by rw [HR.out]; rfl, HK.out⟩
  · by_cases zd : d = 0
    · have yd : (d == 0) = true := by simpa using zd
      have HZd := Lib.hid zd
      clear zd
      by_cases zim : im = 0
      · have yim : (im == 0) = true := by simpa using zim
        have HZim := Lib.hid zim
        clear zim
        have HR : Hid (r = true) := Lib.hid (by rw [hr0]; simp [HZd.out, HZim.out])
        clear hr0
        go_enter Tryz.func89, Tryz.ntmps89
        go_upto_region 1 with fail
        obtain ⟨hV, hK⟩ := HN.out
        generalize w.alloc _ = w1 at *
        generalize w.heap.size = x at *
        obtain ⟨v0, v1, v2, v3, v4, v5⟩ := hV
        simp only at v0 v1 v2 v3 v4 v5
        have HK := Lib.hid hK
        clear hK HN
        go_wp2_with fail
        refine (HH.out _).mono ?_
        rintro e w' ⟨rfl, rfl⟩
        go_wp2_with fail
        refine (H68.out _).mono ?_
        rintro e w' ⟨rfl, rfl⟩
        go_wp2_with fail
        refine (H65.out _).mono ?_
        rintro e w' ⟨rfl, rfl⟩
        go_wp2_with fail
        refine (H66.out _).mono ?_
        rintro e w' ⟨rfl, rfl⟩
        go_wp2_with fail
        refine (H73.out _).mono ?_
        rintro e w' ⟨rfl, rfl⟩
        go_wp2_with fail
        go_ret
        exact ⟨by rw [HR.out]; rfl, HK.out⟩
      · have yim : (im == 0) = false := by simpa using zim
        have HR : Hid (r = false) := Lib.hid (by rw [hr0]; simp [zim])
        clear hr0 zim
        go_enter Tryz.func89, Tryz.ntmps89
        go_upto_region 1 with fail
        obtain ⟨hV, hK⟩ := HN.out
        generalize w.alloc _ = w1 at *
        generalize w.heap.size = x at *
        obtain ⟨v0, v1, v2, v3, v4, v5⟩ := hV
        simp only at v0 v1 v2 v3 v4 v5
        have HK := Lib.hid hK
        clear hK HN
        go_wp2_with fail
        refine (HH.out _).mono ?_
        rintro e w' ⟨rfl, rfl⟩
        go_wp2_with fail
        refine (H68.out _).mono ?_
        rintro e w' ⟨rfl, rfl⟩
        go_wp2_with fail
        refine (H65.out _).mono ?_
        rintro e w' ⟨rfl, rfl⟩
        go_wp2_with fail
        refine (H66.out _).mono ?_
        rintro e w' ⟨rfl, rfl⟩
        go_wp2_with fail
        refine (H73.out _).mono ?_
        rintro e w' ⟨rfl, rfl⟩
        go_wp2_with fail
        go_ret
        exact ⟨by rw [HR.out]; rfl, HK.out⟩
    · have yd : (d == 0) = false := by simpa using zd
      have HR : Hid (r = false) := Lib.hid (by rw [hr0]; simp [zd])
      clear hr0 zd
      go_enter Tryz.func89, Tryz.ntmps89
      go_upto_region 1 with fail
      obtain ⟨hV, hK⟩ := HN.out
      generalize w.alloc _ = w1 at *
      generalize w.heap.size = x at *
      obtain ⟨v0, v1, v2, v3, v4, v5⟩ := hV
      simp only at v0 v1 v2 v3 v4 v5
      have HK := Lib.hid hK
      clear hK HN
      go_wp2_with fail
      refine (HH.out _).mono ?_
      rintro e w' ⟨rfl, rfl⟩
      go_wp2_with fail
      refine (H68.out _).mono ?_
      rintro e w' ⟨rfl, rfl⟩
      go_wp2_with fail
      go_ret
      exact ⟨by rw [HR.out]; rfl, HK.out⟩
  · have HR : Hid (r = true) := Lib.hid (by rw [hr0]; simp)
    clear hr0
    go_enter Tryz.func89, Tryz.ntmps89
    go_upto_region 1 with fail
    obtain ⟨hV, hK⟩ := HN.out
    generalize w.alloc _ = w1 at *
    generalize w.heap.size = x at *
    obtain ⟨v0, v1, v2, v3, v4, v5⟩ := hV
    simp only at v0 v1 v2 v3 v4 v5
    have HK := Lib.hid hK
    clear hK HN
    go_wp2_with fail
    refine (HH.out _).mono ?_
    rintro e w' ⟨rfl, rfl⟩
    go_wp2_with fail
    refine (H68.out _).mono ?_
    rintro e w' ⟨rfl, rfl⟩
    go_wp2_with fail
    refine (H65.out _).mono ?_
    rintro e w' ⟨rfl, rfl⟩
    go_wp2_with fail
    refine (H66.out _).mono ?_
    rintro e w' ⟨rfl, rfl⟩
    go_wp2_with fail
    refine (H73.out _).mono ?_
    rintro e w' ⟨rfl, rfl⟩
    go_wp2_with fail
    go_ret
    exact ⟨by rw [HR.out]; rfl, HK.out⟩
  · by_cases zd : d = 0
    · have yd : (d == 0) = true := by simpa using zd
      have HZd := Lib.hid zd
      clear zd
      by_cases zb : b = 0
      · have yb : (b == 0) = true := by simpa using zb
        have HZb := Lib.hid zb
        clear zb
        have HR : Hid (r = true) := Lib.hid (by rw [hr0]; simp [HZd.out, HZb.out])
        clear hr0
        go_enter Tryz.func89, Tryz.ntmps89
        go_upto_region 1 with fail
        obtain ⟨hV, hK⟩ := HN.out
        generalize w.alloc _ = w1 at *
        generalize w.heap.size = x at *
        obtain ⟨v0, v1, v2, v3, v4, v5⟩ := hV
        simp only at v0 v1 v2 v3 v4 v5
        have HK := Lib.hid hK
        clear hK HN
        go_wp2_with fail
        refine (HH.out _).mono ?_
        rintro e w' ⟨rfl, rfl⟩
        go_wp2_with fail
        refine (H68.out _).mono ?_
        rintro e w' ⟨rfl, rfl⟩
        go_wp2_with fail
        refine (H65.out _).mono ?_
        rintro e w' ⟨rfl, rfl⟩
        go_wp2_with fail
        refine (H66.out _).mono ?_
        rintro e w' ⟨rfl, rfl⟩
        go_wp2_with fail
        refine (H73.out _).mono ?_
        rintro e w' ⟨rfl, rfl⟩
        go_wp2_with fail
        go_ret
        exact ⟨by rw [HR.out]; rfl, HK.out⟩
      · have yb : (b == 0) = false := by simpa using zb
        have HR : Hid (r = false) := Lib.hid (by rw [hr0]; simp [zb])
        clear hr0 zb
        go_enter Tryz.func89, Tryz.ntmps89
        go_upto_region 1 with fail
        obtain ⟨hV, hK⟩ := HN.out
        generalize w.alloc _ = w1 at *
        generalize w.heap.size = x at *
        obtain ⟨v0, v1, v2, v3, v4, v5⟩ := hV
        simp only at v0 v1 v2 v3 v4 v5
        have HK := Lib.hid hK
        clear hK HN
        go_wp2_with fail
        refine (HH.out _).mono ?_
        rintro e w' ⟨rfl, rfl⟩
        go_wp2_with fail
        refine (H68.out _).mono ?_
        rintro e w' ⟨rfl, rfl⟩
        go_wp2_with fail
        refine (H65.out _).mono ?_
        rintro e w' ⟨rfl, rfl⟩
        go_wp2_with fail
        refine (H66.out _).mono ?_
        rintro e w' ⟨rfl, rfl⟩
        go_wp2_with fail
        go_ret
        exact ⟨by rw [HR.out]; rfl, HK.out⟩
    · have yd : (d == 0) = false := by simpa using zd
      have HR : Hid (r = false) := Lib.hid (by rw [hr0]; simp [zd])
      clear hr0 zd
      go_enter Tryz.func89, Tryz.ntmps89
      go_upto_region 1 with fail
      obtain ⟨hV, hK⟩ := HN.out
      generalize w.alloc _ = w1 at *
      generalize w.heap.size = x at *
      obtain ⟨v0, v1, v2, v3, v4, v5⟩ := hV
      simp only at v0 v1 v2 v3 v4 v5
      have HK := Lib.hid hK
      clear hK HN
      go_wp2_with fail
      refine (HH.out _).mono ?_
      rintro e w' ⟨rfl, rfl⟩
      go_wp2_with fail
      refine (H68.out _).mono ?_
      rintro e w' ⟨rfl, rfl⟩
      go_wp2_with fail
      go_ret
      exact ⟨by rw [HR.out]; rfl, HK.out⟩
  · by_cases zd : d = 0
    · have yd : (d == 0) = true := by simpa using zd
      have HZd := Lib.hid zd
      clear zd
      by_cases za : a = 0
      · have ya : (a == 0) = true := by simpa using za
        have HZa := Lib.hid za
        clear za
        by_cases zb : b = 0
        · have yb : (b == 0) = true := by simpa using zb
          have HZb := Lib.hid zb
          clear zb
          have HR : Hid (r = true) := Lib.hid (by rw [hr0]; simp [HZd.out, HZa.out, HZb.out])
          clear hr0
          go_enter Tryz.func89, Tryz.ntmps89
          go_upto_region 1 with fail
          obtain ⟨hV, hK⟩ := HN.out
          generalize w.alloc _ = w1 at *
          generalize w.heap.size = x at *
          obtain ⟨v0, v1, v2, v3, v4, v5⟩ := hV
          simp only at v0 v1 v2 v3 v4 v5
          have HK := Lib.hid hK
          clear hK HN
          go_wp2_with fail
          refine (HH.out _).mono ?_
          rintro e w' ⟨rfl, rfl⟩
          go_wp2_with fail
          refine (H68.out _).mono ?_
          rintro e w' ⟨rfl, rfl⟩
          go_wp2_with fail
          refine (H65.out _).mono ?_
          rintro e w' ⟨rfl, rfl⟩
          go_wp2_with fail
          refine (H66.out _).mono ?_
          rintro e w' ⟨rfl, rfl⟩
          go_wp2_with fail
          refine (H73.out _).mono ?_
          rintro e w' ⟨rfl, rfl⟩
          go_wp2_with fail
          go_ret
          exact ⟨by rw [HR.out]; rfl, HK.out⟩
        · have yb : (b == 0) = false := by simpa using zb
          have HR : Hid (r = false) := Lib.hid (by rw [hr0]; simp [zb])
          clear hr0 zb
          go_enter Tryz.func89, Tryz.ntmps89
          go_upto_region 1 with fail
          obtain ⟨hV, hK⟩ := HN.out
          generalize w.alloc _ = w1 at *
          generalize w.heap.size = x at *
          obtain ⟨v0, v1, v2, v3, v4, v5⟩ := hV
          simp only at v0 v1 v2 v3 v4 v5
          have HK := Lib.hid hK
          clear hK HN
          go_wp2_with fail
          refine (HH.out _).mono ?_
          rintro e w' ⟨rfl, rfl⟩
          go_wp2_with fail
          refine (H68.out _).mono ?_
          rintro e w' ⟨rfl, rfl⟩
          go_wp2_with fail
          refine (H65.out _).mono ?_
          rintro e w' ⟨rfl, rfl⟩
          go_wp2_with fail
          refine (H66.out _).mono ?_
          rintro e w' ⟨rfl, rfl⟩
          go_wp2_with fail
          go_ret
          exact ⟨by rw [HR.out]; rfl, HK.out⟩
      · have ya : (a == 0) = false := by simpa using za
        have HR : Hid (r = false) := Lib.hid (by rw [hr0]; simp [za])
        clear hr0 za
        go_enter Tryz.func89, Tryz.ntmps89
        go_upto_region 1 with fail
        obtain ⟨hV, hK⟩ := HN.out
        generalize w.alloc _ = w1 at *
        generalize w.heap.size = x at *
        obtain ⟨v0, v1, v2, v3, v4, v5⟩ := hV
        simp only at v0 v1 v2 v3 v4 v5
        have HK := Lib.hid hK
        clear hK HN
        go_wp2_with fail
        refine (HH.out _).mono ?_
        rintro e w' ⟨rfl, rfl⟩
        go_wp2_with fail
        refine (H68.out _).mono ?_
        rintro e w' ⟨rfl, rfl⟩
        go_wp2_with fail
        refine (H65.out _).mono ?_
        rintro e w' ⟨rfl, rfl⟩
        go_wp2_with fail
        go_ret
        exact ⟨by rw [HR.out]; rfl, HK.out⟩
    · have yd : (d == 0) = false := by simpa using zd
      have HR : Hid (r = false) := Lib.hid (by rw [hr0]; simp [zd])
      clear hr0 zd
      go_enter Tryz.func89, Tryz.ntmps89
      go_upto_region 1 with fail
      obtain ⟨hV, hK⟩ := HN.out
      generalize w.alloc _ = w1 at *
      generalize w.heap.size = x at *
      obtain ⟨v0, v1, v2, v3, v4, v5⟩ := hV
      simp only at v0 v1 v2 v3 v4 v5
      have HK := Lib.hid hK
      clear hK HN
      go_wp2_with fail
      refine (HH.out _).mono ?_
      rintro e w' ⟨rfl, rfl⟩
      go_wp2_with fail
      refine (H68.out _).mono ?_
      rintro e w' ⟨rfl, rfl⟩
      go_wp2_with fail
      go_ret
      exact ⟨by rw [HR.out]; rfl, HK.out⟩
  · by_cases zd : d = 0
    · have yd : (d == 0) = true := by simpa using zd
      have HZd := Lib.hid zd
      clear zd
      by_cases zb : b = 0
      · have yb : (b == 0) = true := by simpa using zb
        have HZb := Lib.hid zb
        clear zb
        by_cases zim : im = 0
        · have yim : (im == 0) = true := by simpa using zim
          have HZim := Lib.hid zim
          clear zim
          have HR : Hid (r = true) := Lib.hid (by rw [hr0]; simp [HZd.out, HZb.out, HZim.out])
          clear hr0
          go_enter Tryz.func89, Tryz.ntmps89
          go_upto_region 1 with fail
          obtain ⟨hV, hK⟩ := HN.out
          generalize w.alloc _ = w1 at *
          generalize w.heap.size = x at *
          obtain ⟨v0, v1, v2, v3, v4, v5⟩ := hV
          simp only at v0 v1 v2 v3 v4 v5
          have HK := Lib.hid hK
          clear hK HN
          go_wp2_with fail
          refine (HH.out _).mono ?_
          rintro e w' ⟨rfl, rfl⟩
          go_wp2_with fail
          refine (H68.out _).mono ?_
          rintro e w' ⟨rfl, rfl⟩
          go_wp2_with fail
          refine (H65.out _).mono ?_
          rintro e w' ⟨rfl, rfl⟩
          go_wp2_with fail
          refine (H66.out _).mono ?_
          rintro e w' ⟨rfl, rfl⟩
          go_wp2_with fail
          refine (H73.out _).mono ?_
          rintro e w' ⟨rfl, rfl⟩
          go_wp2_with fail
          go_ret
          exact ⟨by rw [HR.out]; rfl, HK.out⟩
        · have yim : (im == 0) = false := by simpa using zim
          have HR : Hid (r = false) := Lib.hid (by rw [hr0]; simp [zim])
          clear hr0 zim
          go_enter Tryz.func89, Tryz.ntmps89
          go_upto_region 1 with fail
          obtain ⟨hV, hK⟩ := HN.out
          generalize w.alloc _ = w1 at *
          generalize w.heap.size = x at *
          obtain ⟨v0, v1, v2, v3, v4, v5⟩ := hV
          simp only at v0 v1 v2 v3 v4 v5
          have HK := Lib.hid hK
          clear hK HN
          go_wp2_with fail
          refine (HH.out _).mono ?_
          rintro e w' ⟨rfl, rfl⟩
          go_wp2_with fail
          refine (H68.out _).mono ?_
          rintro e w' ⟨rfl, rfl⟩
          go_wp2_with fail
          refine (H65.out _).mono ?_
          rintro e w' ⟨rfl, rfl⟩
          go_wp2_with fail
          refine (H66.out _).mono ?_
          rintro e w' ⟨rfl, rfl⟩
          go_wp2_with fail
          refine (H73.out _).mono ?_
          rintro e w' ⟨rfl, rfl⟩
          go_wp2_with fail
          go_ret
          exact ⟨by rw [HR.out]; rfl, HK.out⟩
      · have yb : (b == 0) = false := by simpa using zb
        have HR : Hid (r = false) := Lib.hid (by rw [hr0]; simp [zb])
        clear hr0 zb
        go_enter Tryz.func89, Tryz.ntmps89
        go_upto_region 1 with fail
        obtain ⟨hV, hK⟩ := HN.out
        generalize w.alloc _ = w1 at *
        generalize w.heap.size = x at *
        obtain ⟨v0, v1, v2, v3, v4, v5⟩ := hV
        simp only at v0 v1 v2 v3 v4 v5
        have HK := Lib.hid hK
        clear hK HN
        go_wp2_with fail
        refine (HH.out _).mono ?_
        rintro e w' ⟨rfl, rfl⟩
        go_wp2_with fail
        refine (H68.out _).mono ?_
        rintro e w' ⟨rfl, rfl⟩
        go_wp2_with fail
        refine (H65.out _).mono ?_
        rintro e w' ⟨rfl, rfl⟩
        go_wp2_with fail
        refine (H66.out _).mono ?_
        rintro e w' ⟨rfl, rfl⟩
        go_wp2_with fail
        go_ret
        exact ⟨by rw [HR.out]; rfl, HK.out⟩
    · have yd : (d == 0) = false := by simpa using zd
      have HR : Hid (r = false) := Lib.hid (by rw [hr0]; simp [zd])
      clear hr0 zd
      go_enter Tryz.func89, Tryz.ntmps89
      go_upto_region 1 with fail
      obtain ⟨hV, hK⟩ := HN.out
      generalize w.alloc _ = w1 at *
      generalize w.heap.size = x at *
      obtain ⟨v0, v1, v2, v3, v4, v5⟩ := hV
      simp only at v0 v1 v2 v3 v4 v5
      have HK := Lib.hid hK
      clear hK HN
      go_wp2_with fail
      refine (HH.out _).mono ?_
      rintro e w' ⟨rfl, rfl⟩
      go_wp2_with fail
      refine (H68.out _).mono ?_
      rintro e w' ⟨rfl, rfl⟩
      go_wp2_with fail
      go_ret
      exact ⟨by rw [HR.out]; rfl, HK.out⟩
  · by_cases zim : im = 0
    · have yim : (im == 0) = true := by simpa using zim
      have HZim := Lib.hid zim
      clear zim
      have HR : Hid (r = true) := Lib.hid (by rw [hr0]; simp [HZim.out])
      clear hr0
      go_enter Tryz.func89, Tryz.ntmps89
      go_upto_region 1 with fail
      obtain ⟨hV, hK⟩ := HN.out
      generalize w.alloc _ = w1 at *
      generalize w.heap.size = x at *
      obtain ⟨v0, v1, v2, v3, v4, v5⟩ := hV
      simp only at v0 v1 v2 v3 v4 v5
      have HK := Lib.hid hK
      clear hK HN
      go_wp2_with fail
      refine (HH.out _).mono ?_
      rintro e w' ⟨rfl, rfl⟩
      go_wp2_with fail
      refine (H68.out _).mono ?_
      rintro e w' ⟨rfl, rfl⟩
      go_wp2_with fail
      refine (H65.out _).mono ?_
      rintro e w' ⟨rfl, rfl⟩
      go_wp2_with fail
      refine (H66.out _).mono ?_
      rintro e w' ⟨rfl, rfl⟩
      go_wp2_with fail
      refine (H73.out _).mono ?_
      rintro e w' ⟨rfl, rfl⟩
      go_wp2_with fail
      go_ret
      exact ⟨by rw [HR.out]; rfl, HK.out⟩
    · have yim : (im == 0) = false := by simpa using zim
      have HR : Hid (r = false) := Lib.hid (by rw [hr0]; simp [zim])
      clear hr0 zim
      go_enter Tryz.func89, Tryz.ntmps89
      go_upto_region 1 with fail
      obtain ⟨hV, hK⟩ := HN.out
      generalize w.alloc _ = w1 at *
      generalize w.heap.size = x at *
      obtain ⟨v0, v1, v2, v3, v4, v5⟩ := hV
      simp only at v0 v1 v2 v3 v4 v5
      have HK := Lib.hid hK
      clear hK HN
      go_wp2_with fail
      refine (HH.out _).mono ?_
      rintro e w' ⟨rfl, rfl⟩
      go_wp2_with fail
      refine (H68.out _).mono ?_
      rintro e w' ⟨rfl, rfl⟩
      go_wp2_with fail
      refine (H65.out _).mono ?_
      rintro e w' ⟨rfl, rfl⟩
      go_wp2_with fail
      refine (H66.out _).mono ?_
      rintro e w' ⟨rfl, rfl⟩
      go_wp2_with fail
      refine (H73.out _).mono ?_
      rintro e w' ⟨rfl, rfl⟩
      go_wp2_with fail
      go_ret
      exact ⟨by rw [HR.out]; rfl, HK.out⟩

/-- an error among those of a code, by its number -/
structure ErrsC (w : World) (ea : Nat → Addr) : Prop where
  bound : w.cell? ⟨0, 0, none⟩ = some (.iface 168 (.pointer (some (ea 2))))
  shape : w.cell? ⟨2, 0, none⟩ = some (.iface 168 (.pointer (some (ea 3))))
  kind : w.cell? ⟨3, 0, none⟩ = some (.iface 168 (.pointer (some (ea 4))))
  full : w.cell? ⟨7, 0, none⟩ = some (.iface 168 (.pointer (some (ea 8))))
theorem ErrsC.keep {S : Nat → Prop} {w w' : World} {ea : Nat → Addr} (E : ErrsC w ea) (k : Keeps S w w') (h : ¬ S 0 ∧ ¬ S 2 ∧ ¬ S 3 ∧ ¬ S 7) : ErrsC w' ea :=
  ⟨k.cell' E.bound h.1, k.cell' E.shape h.2.1, k.cell' E.kind h.2.2.1, k.cell' E.full h.2.2.2⟩
theorem ErrsC.quiet {w w' : World} {ea : Nat → Addr} (E : ErrsC w ea) (k : Keeps (fun _ => False) w w') : ErrsC w' ea := E.keep k ⟨fun h => h, fun h => h, fun h => h, fun h => h⟩
/-- an error's value: nil for 0 -/
def errOf0 (ea : Nat → Addr) (c : Nat) : Value := if c = 0 then .nilIface else errV ea c
theorem fields_none (c : Nat) (hc : c ≤ 27) : (fieldsB c).toList.isEmpty = (c == 0) := by
  have key : ∀ c : Fin 28, (fieldsB c.val).toList.isEmpty = (c.val == 0) := by decide +kernel
  exact key ⟨c, by omega⟩
set_option maxHeartbeats 4000000 in
set_option maxRecDepth 100000 in
theorem checkOp_any (o : Ir.Op) (many : Int) (w : World) (ea : Nat → Addr) (E : ErrsC w ea) :
    Calls Tryz.prog 65 #[.agg (opC o), .int .i64 many] w fun e w' => e = .returned (errOf0 ea (Ir.opErr o many)) ∧ Keeps (fun _ => False) w w' := by
  have HRG := Lib.hid (fun w => registers_any o w)
  have HBY := Lib.hid (fun w => bytes_any o w)
  have HBA := Lib.hid (fun w => bare_any o w)
  have HE := Lib.hid E
  obtain ⟨rg, hrg⟩ : ∃ r, Ir.regs o = r := ⟨_, rfl⟩
  obtain ⟨by_, hby⟩ : ∃ r, Ir.bytes o = r := ⟨_, rfl⟩
  obtain ⟨ba, hba⟩ : ∃ r, Ir.bare o = r := ⟨_, rfl⟩
  obtain ⟨r, hr⟩ : ∃ r, Ir.opErr o many = r := ⟨_, rfl⟩
  rw [hr]
  unfold Ir.opErr at hr
  rw [hrg, hby, hba] at hr
  rw [hrg] at HRG
  rw [hby] at HBY
  rw [hba] at HBA
  clear hrg hby hba E
  obtain ⟨k, d, a, b, im, t⟩ := o
  simp only [opC] at HRG HBY HBA hr ⊢
  have HN := Lib.hid (op_new w k d a b im t 64)
  have HH := Lib.hid (fun w => has_any k w)
  have hf := fields_none (Ir.kn k) (Ir.kn_le k)
  by_cases h0 : Ir.kn k = 0
  · rw [if_pos h0] at hr
    subst hr
    have hf' : (fieldsB (Ir.kn k)).toList.isEmpty = true := by rw [hf, h0]; rfl
    clear h0 hf
    generalize fieldsB (Ir.kn k) = fb at *
    go_enter Tryz.func65, Tryz.ntmps65
    go_upto_region 1 with fail
    obtain ⟨hV, hK⟩ := HN.out
    generalize w.alloc _ = w1 at *
    generalize w.heap.size = x at *
    have v0 := hV.v0
    have hg := (HE.out.quiet hK).kind
    go_wp2_with fail
    refine (HH.out _).mono ?_
    rintro e w' ⟨rfl, rfl⟩
    go_wp2_with fail
    go_ret
    exact ⟨rfl, hK⟩
  · rw [if_neg h0] at hr
    have hf' : (fieldsB (Ir.kn k)).toList.isEmpty = false := by rw [hf]; simpa using h0
    clear hf h0
    generalize fieldsB (Ir.kn k) = fb at *
    have HR := Lib.hid hr
    clear hr
    go_enter Tryz.func65, Tryz.ntmps65
    go_upto_region 1 with fail
    obtain ⟨hV, hK⟩ := HN.out
    generalize w.alloc _ = w1 at *
    generalize w.heap.size = x at *
    have HV := Lib.hid hV
    have HK := Lib.hid hK
    obtain ⟨v0, v1, v2, v3, v4, v5⟩ := hV
    simp only at v0 v1 v2 v3 v4 v5
    clear hK HN
    go_wp2_with fail
    refine (HH.out _).mono ?_
    rintro e w' ⟨rfl, rfl⟩
    go_upto_region 3 with fail
    go_cut [11] (fun s11 wx => s11 = .bool (!(rg && by_ && decide (0 ≤ t) && decide (t < many))) ∧ Keeps (fun _ => False) w' wx)
    case first =>
      go_wp2_with fail
      refine (HRG.out _).mono ?_
      rintro e w2 ⟨rfl, hk2⟩
      obtain ⟨u0, u1, u2, u3, u4, u5⟩ := HV.out.keep hk2 (fun h => h)
      simp only at u0 u1 u2 u3 u4 u5
      clear v0 v1 v2 v3 v4 v5
      have HK2 := Lib.hid hk2
      clear hk2
      cases rg
      · go_wp2_with fail
        go_meet
        exact ⟨rfl, HK2.out⟩
      go_wp2_with fail
      refine (HBY.out _).mono ?_
      rintro e w3 ⟨rfl, hk3⟩
      have HV2 := Lib.hid (show OpAt w3 x ⟨k, d, a, b, im, t⟩ from (HV.out.keep HK2.out (fun h => h)).keep hk3 (fun h => h))
      have HK3 := Lib.hid (HK2.out.trans hk3 (fun _ _ h => h))
      clear u0 u1 u2 u3 u4 u5 hk3
      have v5 := HV2.out.v5
      simp only at v5
      cases by_
      · go_wp2_with fail
        go_meet
        exact ⟨rfl, HK3.out⟩
      by_cases g1 : t < 0
      · have g1' : decide (t < 0) = true := decide_eq_true g1
        have HX := Lib.hid (show decide (0 ≤ t) = false from decide_eq_false (by omega))
        clear g1
        go_wp2_with fail
        go_meet
        exact ⟨by rw [HX.out]; rfl, HK3.out⟩
      have g1' : decide (t < 0) = false := decide_eq_false g1
      have HX := Lib.hid (show decide (0 ≤ t) = true from decide_eq_true (by omega))
      clear g1
      by_cases g2 : many ≤ t
      · have g2' : decide (many ≤ t) = true := decide_eq_true g2
        have HY := Lib.hid (show decide (t < many) = false from decide_eq_false (by omega))
        clear g2
        go_wp2_with fail
        go_meet
        exact ⟨by rw [HX.out, HY.out]; rfl, HK3.out⟩
      · have g2' : decide (many ≤ t) = false := decide_eq_false g2
        have HY := Lib.hid (show decide (t < many) = true from decide_eq_true (by omega))
        clear g2
        go_wp2_with fail
        go_meet
        exact ⟨by rw [HX.out, HY.out]; rfl, HK3.out⟩
    case rest =>
      obtain ⟨rfl, hk4⟩ := hcut
      have HK4 := Lib.hid (HK.out.trans hk4 (fun _ _ h => h))
      obtain ⟨u0, u1, u2, u3, u4, u5⟩ := HV.out.keep hk4 (fun h => h)
      simp only at u0 u1 u2 u3 u4 u5
      clear v0 v1 v2 v3 v4 v5 hk4
      have hgb := (HE.out.quiet HK4.out).bound
      have hr := HR.out
      generalize (rg && by_ && decide (0 ≤ t) && decide (t < many)) = q at *
      cases q
      · rw [if_pos rfl] at hr
        subst hr
        go_wp2_with fail
        go_ret
        exact ⟨rfl, HK4.out⟩
      · rw [if_neg (by decide)] at hr
        have HR2 := Lib.hid hr
        clear hr hgb
        go_wp2_with fail
        refine (HBA.out _).mono ?_
        rintro e w3 ⟨rfl, hk5⟩
        have HK5 := Lib.hid (HK4.out.trans hk5 (fun _ _ h => h))
        have hgs := (HE.out.quiet HK5.out).shape
        clear u0 u1 u2 u3 u4 u5 hk5
        have hr := HR2.out
        cases ba
        · rw [if_pos rfl] at hr
          subst hr
          go_wp2_with fail
          go_ret
          exact ⟨rfl, HK5.out⟩
        · rw [if_neg (by decide)] at hr
          subst hr
          go_wp2_with fail
          go_ret
          exact ⟨rfl, HK5.out⟩
end Go.Proofs.YtlmnmncdoiealaaGreatDoor
