import Derived.Test.YtknhfobcejpmeaaDoorPcz17
import Derived.Deep.RegionHeld3

/- MakeFits -/
/- The walk of a maker's fits. Printed by gen/makefits.py. -/
namespace Go.Proofs.YtknhfobcejpmeaaDoor
open Go.RowKit Go.Deep
set_option linter.unusedVariables false
set_option linter.unusedSimpArgs false

set_option maxHeartbeats 8000000 in
set_option maxRecDepth 100000 in
theorem fits_any (B x bw br N : Nat) (v : Value) (m : Ir.Mk) (k : Nat) (o : Ir.Op) (w : World) (M : MakerAt w B x bw br N v m) (hm : Ir.MkOk m) (hk : k ≤ 1000) :
    Calls Tryd.prog 96 #[.pointer (some ⟨x, 0, none⟩), .int .i64 k, .agg (opC o)] w fun e w' => e = .returned (.bool (Ir.fits m k o)) ∧ Keeps (fun _ => False) w w' := by
  obtain ⟨A, cap, hv, hcap, V⟩ := M.rows.own.rows
  have hF : Ir.fits m k o = (decide (m.rows.length ≤ k) || (decide ((m.rows.getD k []).length < 4) && decide (Ir.cnt (m.rows.getD k []) (Ir.cls o) < Ir.room (Ir.cls o)))) := rfl
  obtain ⟨fv, hfv⟩ : ∃ b, Ir.fits m k o = b := ⟨_, rfl⟩
  rw [hfv] at hF ⊢
  have H4 := Lib.hid (hm.four k)
  have hlen := hm.len
  have HC0 := Lib.hid (fun w' (q : Keeps (fun _ => False) w w') => (M.quiet q).cells.1)
  have HV := Lib.hid V
  have hnc := V.le
  obtain ⟨n, hn⟩ : ∃ n, m.rows.length = n := ⟨_, rfl⟩
  rw [hn] at hv hF HV hlen hnc
  subst hv
  have HCL := Lib.hid (cls_lt o)
  have HCO := Lib.hid (fun w => class_any o w)
  have HRM := Lib.hid (fun w => room_any (Ir.cls o) w)
  obtain ⟨cc, hcc⟩ : ∃ c, Ir.cls o = c := ⟨_, rfl⟩
  rw [hcc] at HCL HCO HRM hF
  obtain ⟨rm, hrm⟩ : ∃ r, Ir.room cc = r := ⟨_, rfl⟩
  rw [hrm] at HRM hF
  clear hcc hrm hfv hn V M hm
  have hk0 : (0 : Int) ≤ (k : Int) := by omega
  obtain ⟨ok, od, oa, ob, oim, oat⟩ := o
  have HN := Lib.hid (op_new w ok od oa ob oim oat 47)
  by_cases hkn : n ≤ k
  · have t1 : decide (n ≤ k) = true := decide_eq_true hkn
    have HF := Lib.hid (show fv = true by rw [hF, decide_eq_true hkn, Bool.true_or])
    clear hF hkn
    unfold opC
    go_enter Tryd.func96, Tryd.ntmps96
    go_upto_region 1 with fail
    obtain ⟨hV, hK⟩ := HN.out
    have c0 := HC0.out _ hK
    have HK1 := Lib.hid hK
    generalize w.alloc _ = w1 at *
    generalize w.heap.size = y at *
    clear hK HN hV
    go_wp2_with fail
    go_ret
    exact ⟨by rw [HF.out]; rfl, HK1.out⟩
  · have t1 : decide (n ≤ k) = false := decide_eq_false hkn
    have HF := Lib.hid (show fv = (decide ((m.rows.getD k []).length < 4) && decide (Ir.cnt (m.rows.getD k []) cc < rm)) by rw [hF, decide_eq_false hkn, Bool.false_or])
    clear hF
    have hkl : k < n := by omega
    have hki : (k : Int) < (n : Int) := by omega
    clear hkn
    obtain ⟨g, go, Ak, ck, rfl, e0, e1, e2⟩ := HV.out.get hkl
    have HE0 := Lib.hid e0
    have HE1 := Lib.hid e1
    obtain ⟨l, hl⟩ : ∃ l, m.rows.getD k [] = l := ⟨_, rfl⟩
    rw [hl] at HE0 HE1 HF H4
    clear hl e0 e1
    have HIX : Hid (∀ w, (Instr.index 135 (.agg #[.int .i64 (Ir.cnt l 0 : Nat), .int .i64 (Ir.cnt l 1 : Nat), .int .i64 (Ir.cnt l 2 : Nat)]) (.int .i64 (cc : Int))).run Tryd.prog w = .ok (.int .i64 (Ir.cnt l cc : Nat)) w) := Lib.hid (by
      obtain rfl | rfl | rfl : cc = 0 ∨ cc = 1 ∨ cc = 2 := by have := HCL.out; omega
      · exact fun w => by kernel_rfl
      · exact fun w => by kernel_rfl
      · exact fun w => by kernel_rfl)
    have HCT := Lib.hid (fun w V => counts_any Ak l.length ck l w V e2 H4.out)
    obtain ⟨c0', hc0'⟩ : ∃ c, Ir.cnt l 0 = c := ⟨_, rfl⟩
    obtain ⟨c1', hc1'⟩ : ∃ c, Ir.cnt l 1 = c := ⟨_, rfl⟩
    obtain ⟨c2', hc2'⟩ : ∃ c, Ir.cnt l 2 = c := ⟨_, rfl⟩
    obtain ⟨cv, hcv⟩ : ∃ c, Ir.cnt l cc = c := ⟨_, rfl⟩
    rw [hc0', hc1', hc2'] at HIX HCT
    rw [hcv] at HIX HF
    obtain ⟨rl, hrl⟩ : ∃ n, l.length = n := ⟨_, rfl⟩
    rw [hrl] at HE0 HE1 HF HCT H4
    clear hc0' hc1' hc2' hcv hrl e2
    unfold opC
    go_enter Tryd.func96, Tryd.ntmps96
    go_upto_region 1 with fail
    obtain ⟨hV, hK⟩ := HN.out
    have c0 := HC0.out _ hK
    have HK1 := Lib.hid hK
    generalize w.alloc _ = w1 at *
    generalize w.heap.size = y at *
    obtain ⟨v0, v1, v2, v3, v4, v5⟩ := hV
    simp only at v0 v1 v2 v3 v4 v5
    clear hK HN
    go_wp2_with fail
    refine (HCO.out _).mono ?_
    rintro e w5 ⟨rfl, hk5⟩
    have HK5 := Lib.hid (HK1.out.trans hk5 (fun _ _ h => h))
    clear c0 v0 v1 v2 v3 v4 v5 hk5
    have c0 := HC0.out _ HK5.out
    have e0 := HK5.out.cell' HE0.out (fun h => h)
    have HE2 := Lib.hid (HE1.out.quiet HK5.out)
    have hix := HIX.out
    clear HE0 HE1
    have HE1 := HE2
    clear HE2
    by_cases h4 : rl < 4
    · have t2 : decide ((rl : Int) < 4) = true := decide_eq_true (by omega)
      have HFF := Lib.hid (show fv = decide (cv < rm) by rw [HF.out, decide_eq_true h4, Bool.true_and])
      clear h4
      go_upto_region 4 with fail
      refine wp_region_held_drew (S := fun w' => Keeps (fun _ => False) w5 w') (by kernel_rfl) (Keeps.refl _ w5).drew (fun hH0 => ?_)
      refine wpAnyH_take (i := 0) (v := ?_) rfl (by kernel_rfl) (by kernel_rfl) (by kernel_rfl) (fun _ _ _ h => h) (Or.inl ⟨by go_simp, ?_⟩) hH0 ?_
      rotate_left
      · intro w' hSw
        go_simp
        try with_reducible rfl
      simp only [Act.put, List.setIfInBounds_toArray, List.set_cons_zero, List.set_cons_succ]
      refine wpAnyH_take (i := 1) (v := ?_) rfl (by kernel_rfl) (by kernel_rfl) (by kernel_rfl) (fun _ _ _ h => h) (Or.inl ⟨by go_simp, ?_⟩) hH0 ?_
      rotate_left
      · intro w' hSw
        go_simp
        try with_reducible rfl
      simp only [Act.put, List.setIfInBounds_toArray, List.set_cons_zero, List.set_cons_succ]
      refine wpAnyH_take (i := 2) (v := ?_) rfl (by kernel_rfl) (by kernel_rfl) (by kernel_rfl) (fun _ _ _ h => h) (Or.inl ⟨by go_simp, ?_⟩) hH0 ?_
      rotate_left
      · intro w' hSw
        go_simp
        try with_reducible rfl
      simp only [Act.put, List.setIfInBounds_toArray, List.set_cons_zero, List.set_cons_succ]
      refine wpAnyH_take (i := 3) (v := ?_) rfl (by kernel_rfl) (by kernel_rfl) (by kernel_rfl) (fun _ _ _ h => h) (Or.inl ⟨by go_simp, ?_⟩) hH0 ?_
      rotate_left
      · intro w' hSw
        have g0 := Keeps.cell' hSw c0 (fun f => f)
        go_simp
        try with_reducible rfl
      simp only [Act.put, List.setIfInBounds_toArray, List.set_cons_zero, List.set_cons_succ]
      refine wpAnyH_take (i := 4) (v := ?_) rfl (by kernel_rfl) (by kernel_rfl) (by kernel_rfl) (fun _ _ _ h => h) (Or.inl ⟨by go_simp, ?_⟩) hH0 ?_
      rotate_left
      · intro w' hSw
        go_simp
        try with_reducible rfl
      simp only [Act.put, List.setIfInBounds_toArray, List.set_cons_zero, List.set_cons_succ]
      refine wpAnyH_take (i := 5) (v := ?_) rfl (by kernel_rfl) (by kernel_rfl) (by kernel_rfl) (fun _ _ _ h => h) (Or.inl ⟨by go_simp, ?_⟩) hH0 ?_
      rotate_left
      · intro w' hSw
        go_simp
        try with_reducible rfl
      simp only [Act.put, List.setIfInBounds_toArray, List.set_cons_zero, List.set_cons_succ]
      refine wpAnyH_take (i := 6) (v := ?_) rfl (by kernel_rfl) (by kernel_rfl) (by kernel_rfl) (fun _ _ _ h => h) (Or.inl ⟨by go_simp, ?_⟩) hH0 ?_
      rotate_left
      · intro w' hSw
        have g0 := Keeps.cell' hSw e0 (fun f => f)
        go_simp
        try with_reducible rfl
      simp only [Act.put, List.setIfInBounds_toArray, List.set_cons_zero, List.set_cons_succ]
      refine wpAnyH_take (i := 7) (v := ?_) rfl (by kernel_rfl) (by kernel_rfl) (by kernel_rfl) (fun _ _ _ h => h) (Or.inl ⟨by go_simp, ?_⟩) hH0 ?_
      rotate_left
      · intro w' hSw
        go_simp
        try with_reducible rfl
      simp only [Act.put, List.setIfInBounds_toArray, List.set_cons_zero, List.set_cons_succ]
      refine wpAnyH_take (i := 8) (v := ?_) rfl (by kernel_rfl) (by kernel_rfl) (by kernel_rfl) (fun _ _ _ h => h) (Or.inl ⟨by go_simp, ?_⟩) hH0 ?_
      rotate_left
      · intro w' hSw
        go_simp
        try with_reducible rfl
      simp only [Act.put, List.setIfInBounds_toArray, List.set_cons_zero, List.set_cons_succ]
      refine wpAnyH_take (i := 9) (v := ?_) rfl (by kernel_rfl) (by kernel_rfl) (by kernel_rfl) (fun _ _ _ h => h) (Or.inl ⟨by go_simp, ?_⟩) hH0 ?_
      rotate_left
      · intro w' hSw
        go_simp
        try with_reducible rfl
      simp only [Act.put, List.setIfInBounds_toArray, List.set_cons_zero, List.set_cons_succ]
      refine wpAnyH_take (i := 10) (v := ?_) rfl (by kernel_rfl) (by kernel_rfl) (by kernel_rfl) (fun _ _ _ h => h) (Or.inl ⟨by go_simp, ?_⟩) hH0 ?_
      rotate_left
      · intro w' hSw
        go_simp
        try with_reducible rfl
      simp only [Act.put, List.setIfInBounds_toArray, List.set_cons_zero, List.set_cons_succ]
      refine wpAnyH_take (i := 11) (v := ?_) rfl (by kernel_rfl) (by kernel_rfl) (by kernel_rfl) (fun _ _ _ h => h) (Or.inl ⟨by go_simp, ?_⟩) hH0 ?_
      rotate_left
      · intro w' hSw
        go_simp
        try with_reducible rfl
      simp only [Act.put, List.setIfInBounds_toArray, List.set_cons_zero, List.set_cons_succ]
      refine wpAnyH_take (i := 12) (v := ?_) rfl (by kernel_rfl) (by kernel_rfl) (by kernel_rfl) (fun _ _ _ h => h) (Or.inl ⟨by go_simp, ?_⟩) hH0 ?_
      rotate_left
      · intro w' hSw
        go_simp
        try with_reducible rfl
      simp only [Act.put, List.setIfInBounds_toArray, List.set_cons_zero, List.set_cons_succ]
      refine wpAnyH_take (i := 13) (v := ?_) rfl (by kernel_rfl) (by kernel_rfl) (by kernel_rfl) (fun _ _ _ h => h) (Or.inl ⟨by go_simp, ?_⟩) hH0 ?_
      rotate_left
      · intro w' hSw
        have g0 := Keeps.cell' hSw c0 (fun f => f)
        go_simp
        try with_reducible rfl
      simp only [Act.put, List.setIfInBounds_toArray, List.set_cons_zero, List.set_cons_succ]
      refine wpAnyH_take (i := 14) (v := ?_) rfl (by kernel_rfl) (by kernel_rfl) (by kernel_rfl) (fun _ _ _ h => h) (Or.inl ⟨by go_simp, ?_⟩) hH0 ?_
      rotate_left
      · intro w' hSw
        go_simp
        try with_reducible rfl
      simp only [Act.put, List.setIfInBounds_toArray, List.set_cons_zero, List.set_cons_succ]
      refine wpAnyH_take (i := 15) (v := ?_) rfl (by kernel_rfl) (by kernel_rfl) (by kernel_rfl) (fun _ _ _ h => h) (Or.inl ⟨by go_simp, ?_⟩) hH0 ?_
      rotate_left
      · intro w' hSw
        go_simp
        try with_reducible rfl
      simp only [Act.put, List.setIfInBounds_toArray, List.set_cons_zero, List.set_cons_succ]
      refine wpAnyH_take (i := 16) (v := ?_) rfl (by kernel_rfl) (by kernel_rfl) (by kernel_rfl) (fun _ _ _ h => h) (Or.inl ⟨by go_simp, ?_⟩) hH0 ?_
      rotate_left
      · intro w' hSw
        have g0 := Keeps.cell' hSw e0 (fun f => f)
        go_simp
        try with_reducible rfl
      simp only [Act.put, List.setIfInBounds_toArray, List.set_cons_zero, List.set_cons_succ]
      refine wpAnyH_take (i := 18) (v := ?_) rfl (by kernel_rfl) (by kernel_rfl) (by kernel_rfl) (fun _ _ _ h => h) (Or.inl ⟨by go_simp, ?_⟩) hH0 ?_
      rotate_left
      · intro w' hSw
        go_simp
        try with_reducible rfl
      simp only [Act.put, List.setIfInBounds_toArray, List.set_cons_zero, List.set_cons_succ]
      refine wpAnyH_take (i := 20) (v := ?_) rfl (by kernel_rfl) (by kernel_rfl) (by kernel_rfl) (fun _ _ _ h => h) (Or.inl ⟨by go_simp, ?_⟩) hH0 ?_
      rotate_left
      · intro w' hSw
        go_simp
        try with_reducible rfl
      simp only [Act.put, List.setIfInBounds_toArray, List.set_cons_zero, List.set_cons_succ]
      refine wpAnyH_ready (rs := [17]) (by kernel_rfl) (by simp) ?_
      refine AllReadyH.cons rfl (fun K hK => ?_) AllReadyH.nil
      go_simp
      refine (HCT.out _ (HE1.out.quiet hH0)).mono ?_
      rintro e wa ⟨rfl, hka⟩
      go_wp2_with fail
      have hH1 := Keeps.trans hH0 hka (fun _ _ h => h)
      refine hK.out _ _ hH1 (fun _ => ?_)
      clear hK K
      try simp only [Act.put, List.setIfInBounds_toArray, List.set_cons_zero, List.set_cons_succ]
      refine wpAnyH_take (i := 19) (v := ?_) rfl (by kernel_rfl) (by kernel_rfl) (by kernel_rfl) (fun _ _ _ h => h) (Or.inl ⟨by go_simp, ?_⟩) hH1 ?_
      rotate_left
      · intro w' hSw
        go_simp
        try with_reducible rfl
      simp only [Act.put, List.setIfInBounds_toArray, List.set_cons_zero, List.set_cons_succ]
      refine wpAnyH_ready (rs := [21]) (by kernel_rfl) (by simp) ?_
      refine AllReadyH.cons rfl (fun K hK => ?_) AllReadyH.nil
      go_simp
      refine (HRM.out _).mono ?_
      rintro e wb ⟨rfl, rfl⟩
      go_wp2_with fail
      have hH2 := hH1
      refine hK.out _ _ hH2 (fun _ => ?_)
      clear hK K
      try simp only [Act.put, List.setIfInBounds_toArray, List.set_cons_zero, List.set_cons_succ]
      refine wpAnyH_take (i := 22) (v := ?_) rfl (by kernel_rfl) (by kernel_rfl) (by kernel_rfl) (fun _ _ _ h => h) (Or.inl ⟨by go_simp, ?_⟩) hH2 ?_
      rotate_left
      · intro w' hSw
        go_simp
        try with_reducible rfl
      simp only [Act.put, List.setIfInBounds_toArray, List.set_cons_zero, List.set_cons_succ]
      refine wpAnyH_take (i := 23) (v := ?_) rfl (by kernel_rfl) (by kernel_rfl) (by kernel_rfl) (fun _ _ _ h => h) (Or.inl ⟨by go_simp, ?_⟩) hH2 ?_
      rotate_left
      · intro w' hSw
        go_simp
        try with_reducible rfl
      simp only [Act.put, List.setIfInBounds_toArray, List.set_cons_zero, List.set_cons_succ]
      refine wpAnyH_ready (rs := [24]) (by kernel_rfl) (by simp) ?_
      refine AllReadyH.cons rfl (fun K hK => ?_) AllReadyH.nil
      go_simp
      refine hK.out _ _ hH2 (fun _ => ?_)
      clear hK K
      try simp only [Act.put, List.setIfInBounds_toArray, List.set_cons_zero, List.set_cons_succ]
      refine wpAnyH_done (by kernel_rfl) ?_ _
      go_wp2_with fail
      go_ret
      exact ⟨by rw [HFF.out]; first | rfl | (congr 2; simp), HK5.out.trans hH2 (fun _ _ h => h)⟩
    · have t2 : decide ((rl : Int) < 4) = false := decide_eq_false (by omega)
      have HFF := Lib.hid (show fv = false by rw [HF.out, decide_eq_false h4, Bool.false_and])
      clear h4
      go_upto_region 4 with fail
      refine wp_region_held_drew (S := fun w' => Keeps (fun _ => False) w5 w') (by kernel_rfl) (Keeps.refl _ w5).drew (fun hH0 => ?_)
      refine wpAnyH_take (i := 0) (v := ?_) rfl (by kernel_rfl) (by kernel_rfl) (by kernel_rfl) (fun _ _ _ h => h) (Or.inl ⟨by go_simp, ?_⟩) hH0 ?_
      rotate_left
      · intro w' hSw
        go_simp
        try with_reducible rfl
      simp only [Act.put, List.setIfInBounds_toArray, List.set_cons_zero, List.set_cons_succ]
      refine wpAnyH_take (i := 1) (v := ?_) rfl (by kernel_rfl) (by kernel_rfl) (by kernel_rfl) (fun _ _ _ h => h) (Or.inl ⟨by go_simp, ?_⟩) hH0 ?_
      rotate_left
      · intro w' hSw
        go_simp
        try with_reducible rfl
      simp only [Act.put, List.setIfInBounds_toArray, List.set_cons_zero, List.set_cons_succ]
      refine wpAnyH_take (i := 2) (v := ?_) rfl (by kernel_rfl) (by kernel_rfl) (by kernel_rfl) (fun _ _ _ h => h) (Or.inl ⟨by go_simp, ?_⟩) hH0 ?_
      rotate_left
      · intro w' hSw
        go_simp
        try with_reducible rfl
      simp only [Act.put, List.setIfInBounds_toArray, List.set_cons_zero, List.set_cons_succ]
      refine wpAnyH_take (i := 3) (v := ?_) rfl (by kernel_rfl) (by kernel_rfl) (by kernel_rfl) (fun _ _ _ h => h) (Or.inl ⟨by go_simp, ?_⟩) hH0 ?_
      rotate_left
      · intro w' hSw
        have g0 := Keeps.cell' hSw c0 (fun f => f)
        go_simp
        try with_reducible rfl
      simp only [Act.put, List.setIfInBounds_toArray, List.set_cons_zero, List.set_cons_succ]
      refine wpAnyH_take (i := 4) (v := ?_) rfl (by kernel_rfl) (by kernel_rfl) (by kernel_rfl) (fun _ _ _ h => h) (Or.inl ⟨by go_simp, ?_⟩) hH0 ?_
      rotate_left
      · intro w' hSw
        go_simp
        try with_reducible rfl
      simp only [Act.put, List.setIfInBounds_toArray, List.set_cons_zero, List.set_cons_succ]
      refine wpAnyH_take (i := 5) (v := ?_) rfl (by kernel_rfl) (by kernel_rfl) (by kernel_rfl) (fun _ _ _ h => h) (Or.inl ⟨by go_simp, ?_⟩) hH0 ?_
      rotate_left
      · intro w' hSw
        go_simp
        try with_reducible rfl
      simp only [Act.put, List.setIfInBounds_toArray, List.set_cons_zero, List.set_cons_succ]
      refine wpAnyH_take (i := 6) (v := ?_) rfl (by kernel_rfl) (by kernel_rfl) (by kernel_rfl) (fun _ _ _ h => h) (Or.inl ⟨by go_simp, ?_⟩) hH0 ?_
      rotate_left
      · intro w' hSw
        have g0 := Keeps.cell' hSw e0 (fun f => f)
        go_simp
        try with_reducible rfl
      simp only [Act.put, List.setIfInBounds_toArray, List.set_cons_zero, List.set_cons_succ]
      refine wpAnyH_take (i := 7) (v := ?_) rfl (by kernel_rfl) (by kernel_rfl) (by kernel_rfl) (fun _ _ _ h => h) (Or.inl ⟨by go_simp, ?_⟩) hH0 ?_
      rotate_left
      · intro w' hSw
        go_simp
        try with_reducible rfl
      simp only [Act.put, List.setIfInBounds_toArray, List.set_cons_zero, List.set_cons_succ]
      refine wpAnyH_take (i := 8) (v := ?_) rfl (by kernel_rfl) (by kernel_rfl) (by kernel_rfl) (fun _ _ _ h => h) (Or.inl ⟨by go_simp, ?_⟩) hH0 ?_
      rotate_left
      · intro w' hSw
        go_simp
        try with_reducible rfl
      simp only [Act.put, List.setIfInBounds_toArray, List.set_cons_zero, List.set_cons_succ]
      refine wpAnyH_take (i := 9) (v := ?_) rfl (by kernel_rfl) (by kernel_rfl) (by kernel_rfl) (fun _ _ _ h => h) (Or.inl ⟨by go_simp, ?_⟩) hH0 ?_
      rotate_left
      · intro w' hSw
        go_simp
        try with_reducible rfl
      simp only [Act.put, List.setIfInBounds_toArray, List.set_cons_zero, List.set_cons_succ]
      refine wpAnyH_take (i := 10) (v := undef) rfl (by kernel_rfl) (by kernel_rfl) (by kernel_rfl) (fun _ _ _ h => h) (Or.inr ⟨by first | (go_simp; done) | (go_simp; intro h; cases h), rfl⟩) hH0 ?_
      simp only [Act.put, List.setIfInBounds_toArray, List.set_cons_zero, List.set_cons_succ]
      refine wpAnyH_take (i := 11) (v := undef) rfl (by kernel_rfl) (by kernel_rfl) (by kernel_rfl) (fun _ _ _ h => h) (Or.inr ⟨by first | (go_simp; done) | (go_simp; intro h; cases h), rfl⟩) hH0 ?_
      simp only [Act.put, List.setIfInBounds_toArray, List.set_cons_zero, List.set_cons_succ]
      refine wpAnyH_take (i := 12) (v := undef) rfl (by kernel_rfl) (by kernel_rfl) (by kernel_rfl) (fun _ _ _ h => h) (Or.inr ⟨by first | (go_simp; done) | (go_simp; intro h; cases h), rfl⟩) hH0 ?_
      simp only [Act.put, List.setIfInBounds_toArray, List.set_cons_zero, List.set_cons_succ]
      refine wpAnyH_take (i := 13) (v := undef) rfl (by kernel_rfl) (by kernel_rfl) (by kernel_rfl) (fun _ _ _ h => h) (Or.inr ⟨by first | (go_simp; done) | (go_simp; intro h; cases h), rfl⟩) hH0 ?_
      simp only [Act.put, List.setIfInBounds_toArray, List.set_cons_zero, List.set_cons_succ]
      refine wpAnyH_take (i := 14) (v := undef) rfl (by kernel_rfl) (by kernel_rfl) (by kernel_rfl) (fun _ _ _ h => h) (Or.inr ⟨by first | (go_simp; done) | (go_simp; intro h; cases h), rfl⟩) hH0 ?_
      simp only [Act.put, List.setIfInBounds_toArray, List.set_cons_zero, List.set_cons_succ]
      refine wpAnyH_take (i := 15) (v := undef) rfl (by kernel_rfl) (by kernel_rfl) (by kernel_rfl) (fun _ _ _ h => h) (Or.inr ⟨by first | (go_simp; done) | (go_simp; intro h; cases h), rfl⟩) hH0 ?_
      simp only [Act.put, List.setIfInBounds_toArray, List.set_cons_zero, List.set_cons_succ]
      refine wpAnyH_take (i := 16) (v := undef) rfl (by kernel_rfl) (by kernel_rfl) (by kernel_rfl) (fun _ _ _ h => h) (Or.inr ⟨by first | (go_simp; done) | (go_simp; intro h; cases h), rfl⟩) hH0 ?_
      simp only [Act.put, List.setIfInBounds_toArray, List.set_cons_zero, List.set_cons_succ]
      refine wpAnyH_take (i := 17) (v := undef) rfl (by kernel_rfl) (by kernel_rfl) (by kernel_rfl) (fun _ _ _ h => h) (Or.inr ⟨by first | (go_simp; done) | (go_simp; intro h; cases h), rfl⟩) hH0 ?_
      simp only [Act.put, List.setIfInBounds_toArray, List.set_cons_zero, List.set_cons_succ]
      refine wpAnyH_take (i := 18) (v := undef) rfl (by kernel_rfl) (by kernel_rfl) (by kernel_rfl) (fun _ _ _ h => h) (Or.inr ⟨by first | (go_simp; done) | (go_simp; intro h; cases h), rfl⟩) hH0 ?_
      simp only [Act.put, List.setIfInBounds_toArray, List.set_cons_zero, List.set_cons_succ]
      refine wpAnyH_take (i := 19) (v := undef) rfl (by kernel_rfl) (by kernel_rfl) (by kernel_rfl) (fun _ _ _ h => h) (Or.inr ⟨by first | (go_simp; done) | (go_simp; intro h; cases h), rfl⟩) hH0 ?_
      simp only [Act.put, List.setIfInBounds_toArray, List.set_cons_zero, List.set_cons_succ]
      refine wpAnyH_take (i := 20) (v := undef) rfl (by kernel_rfl) (by kernel_rfl) (by kernel_rfl) (fun _ _ _ h => h) (Or.inr ⟨by first | (go_simp; done) | (go_simp; intro h; cases h), rfl⟩) hH0 ?_
      simp only [Act.put, List.setIfInBounds_toArray, List.set_cons_zero, List.set_cons_succ]
      refine wpAnyH_take (i := 21) (v := undef) rfl (by kernel_rfl) (by kernel_rfl) (by kernel_rfl) (fun _ _ _ h => h) (Or.inr ⟨by first | (go_simp; done) | (go_simp; intro h; cases h), rfl⟩) hH0 ?_
      simp only [Act.put, List.setIfInBounds_toArray, List.set_cons_zero, List.set_cons_succ]
      refine wpAnyH_take (i := 22) (v := undef) rfl (by kernel_rfl) (by kernel_rfl) (by kernel_rfl) (fun _ _ _ h => h) (Or.inr ⟨by first | (go_simp; done) | (go_simp; intro h; cases h), rfl⟩) hH0 ?_
      simp only [Act.put, List.setIfInBounds_toArray, List.set_cons_zero, List.set_cons_succ]
      refine wpAnyH_take (i := 23) (v := ?_) rfl (by kernel_rfl) (by kernel_rfl) (by kernel_rfl) (fun _ _ _ h => h) (Or.inl ⟨by go_simp, ?_⟩) hH0 ?_
      rotate_left
      · intro w' hSw
        go_simp
        try with_reducible rfl
      simp only [Act.put, List.setIfInBounds_toArray, List.set_cons_zero, List.set_cons_succ]
      refine wpAnyH_ready (rs := [24]) (by kernel_rfl) (by simp) ?_
      refine AllReadyH.cons rfl (fun K hK => ?_) AllReadyH.nil
      go_simp
      refine hK.out _ _ hH0 (fun _ => ?_)
      clear hK K
      try simp only [Act.put, List.setIfInBounds_toArray, List.set_cons_zero, List.set_cons_succ]
      refine wpAnyH_done (by kernel_rfl) ?_ _
      go_wp2_with fail
      go_ret
      exact ⟨by rw [HFF.out]; rfl, HK5.out.trans hH0 (fun _ _ h => h)⟩
end Go.Proofs.YtknhfobcejpmeaaDoor

/- MakeRow -/
/- Rows of rows: one more row; one more op in a row. -/
namespace Go.Proofs.YtknhfobcejpmeaaDoor
open Go.RowKit Go.Deep
set_option linter.unusedVariables false
set_option linter.unusedSimpArgs false

theorem getD_snoc_lt {α : Type} (l : List α) (a d : α) (j : Nat) (h : j < l.length) : (l ++ [a]).getD j d = l.getD j d := by
  simp [List.getD_eq_getElem?_getD, List.getElem?_append_left h]
theorem getD_snoc_eq {α : Type} (l : List α) (a d : α) : (l ++ [a]).getD l.length d = a := by
  simp [List.getD_eq_getElem?_getD]
theorem getD_set {α : Type} (l : List α) (a d : α) (k j : Nat) (hk : k < l.length) : (l.set k a).getD j d = if j = k then a else l.getD j d := by
  simp only [List.getD_eq_getElem?_getD, List.getElem?_set]
  by_cases e : j = k
  · subst e; simp [hk]
  · rw [if_neg (fun h => e h.symm), if_neg e]
theorem OpsOwn.nil (w : World) (B : Nat) : OpsOwn w B [] (.slice none 0 0) := ⟨none, 0, rfl, World.ownsRow_nil _ _ _ _⟩
/-- one more row, an empty one -/
theorem rows_snoc {w w3 : World} {B : Nat} {v v' : Value} {rows : List (List Ir.Op)} {vs : List Value} (h1 : vs.length = rows.length) (h2 : w.ownsRow B 26 1 v rows.length vs) (h3 : ∀ j, j < rows.length → OpsOwn w B (rows.getD j []) (vs.getD j (Value.slice none 0 0)))
    (h4 : ∀ i j, i < rows.length → j < rows.length → i ≠ j → ∀ g, (vs.getD i (Value.slice none 0 0)).ownBlock = some g → ¬ (vs.getD j (Value.slice none 0 0)).ownBlock = some g)
    (hk : Keeps (fun k => v.ownBlock = some k) w w3) (hown : w3.ownsRow B 26 1 v' (rows.length + 1) (vs ++ [Value.slice none 0 0])) : (vs ++ [Value.slice none 0 0]).length = (rows ++ [[]]).length ∧ w3.ownsRow B 26 1 v' (rows ++ [[]]).length (vs ++ [Value.slice none 0 0]) ∧ (∀ j, j < (rows ++ [[]]).length → OpsOwn w3 B ((rows ++ [[]]).getD j []) ((vs ++ [Value.slice none 0 0]).getD j (Value.slice none 0 0))) ∧
    ∀ i j, i < (rows ++ [[]]).length → j < (rows ++ [[]]).length → i ≠ j → ∀ g, ((vs ++ [Value.slice none 0 0]).getD i (Value.slice none 0 0)).ownBlock = some g → ¬ ((vs ++ [Value.slice none 0 0]).getD j (Value.slice none 0 0)).ownBlock = some g := by
  refine ⟨by simp [h1], by rw [List.length_append, List.length_singleton]; exact hown, fun j hj => ?_, fun i j hi hj hne g hg => ?_⟩
  · rw [List.length_append, List.length_singleton] at hj
    by_cases e : j < rows.length
    · rw [getD_snoc_lt _ _ _ _ e, getD_snoc_lt _ _ _ _ (by omega)]
      obtain ⟨A, cap, e1, ho⟩ := h3 j e
      exact ⟨A, cap, e1, owns_keep ho hk (owns_apart ho h2 op_ne_row)⟩
    · obtain rfl : j = rows.length := by omega
      rw [getD_snoc_eq, ← h1, getD_snoc_eq]
      exact OpsOwn.nil _ _
  · rw [List.length_append, List.length_singleton] at hi hj
    by_cases ei : i < rows.length
    · rw [getD_snoc_lt _ _ _ _ (by omega)] at hg
      by_cases ej : j < rows.length
      · rw [getD_snoc_lt _ _ _ _ (by omega)]
        exact h4 i j ei ej hne g hg
      · obtain rfl : j = rows.length := by omega
        rw [← h1, getD_snoc_eq]
        intro h; cases h
    · obtain rfl : i = rows.length := by omega
      rw [← h1, getD_snoc_eq] at hg
      cases hg
/-- one more op in row k: the row turned, or it moved; its slice was stored -/
theorem RowsDist.put {w w1 w2 : World} {B g n cap k : Nat} {u : Value} {rows : List (List Ir.Op)} {l : List Ir.Op} {vs : List Value} (h1 : vs.length = rows.length) (h2 : w.ownsRow B 26 1 (.slice (some ⟨g, 0, none⟩) n cap) n vs) (hn : rows.length = n)
    (h3 : ∀ j, j < rows.length → OpsOwn w B (rows.getD j []) (vs.getD j (.slice none 0 0)))
    (h4 : ∀ i j, i < rows.length → j < rows.length → i ≠ j → ∀ g, (vs.getD i (.slice none 0 0)).ownBlock = some g → ¬ (vs.getD j (.slice none 0 0)).ownBlock = some g) (hk : k < rows.length)
    (k1 : Keeps (fun _ => False) w w1) (k2 : Keeps (fun b => (vs.getD k (.slice none 0 0)).ownBlock = some b) w1 w2) (hu : OpsOwn w2 B l u) (hmv : Moved w1 (vs.getD k (.slice none 0 0)) u) :
    RowsDist (w2.setCell ⟨g, k, none⟩ u) B (.slice (some ⟨g, 0, none⟩) n cap) (rows.set k l) ∧ w2.frozen? ⟨g, k, none⟩ = false ∧ w2.cell? ⟨g, k, none⟩ = some (vs.getD k (.slice none 0 0)) := by
  have h5 := owns_keep h2 k1 (fun _ _ h => h)
  obtain ⟨A0, c0, e0, o0⟩ := h3 k hk
  have hne : ∀ b, (vs.getD k (.slice none 0 0)).ownBlock = some b → b ≠ g := fun b hb e => by
    subst e
    exact owns_apart o0 h2 op_ne_row b hb rfl
  have h6 : w2.ownsRow B 26 1 (.slice (some ⟨g, 0, none⟩) n cap) n vs := owns_keep h5 k2 (fun b hb e => by
    have hb : some g = some b := hb
    injection hb with hb
    exact hne b e hb.symm)
  obtain ⟨s1, s2⟩ := h6.stored k u
  have k3 : Keeps (· = g) w2 (w2.setCell ⟨g, k, none⟩ u) := Keeps.one _ _ _ _
  refine ⟨⟨vs.set k u, by simp [h1], by rw [List.length_set, hn]; exact s1, fun j hj => ?_, fun i j hi hj hij b hb => ?_⟩, h6.frozenAt k, ?_⟩
  · rw [List.length_set] at hj
    rw [getD_set _ _ _ _ _ hk, getD_set _ _ _ _ _ (by omega)]
    by_cases e : j = k
    · rw [if_pos e, if_pos e]
      obtain ⟨A, c, e1, ho⟩ := hu
      exact ⟨A, c, e1, owns_keep ho k3 (fun b hb e => owns_apart ho h6 op_ne_row b hb (by rw [show b = g from e]; rfl))⟩
    · rw [if_neg e, if_neg e]
      obtain ⟨A, c, e1, ho⟩ := h3 j hj
      have ho2 := owns_keep (owns_keep ho k1 (fun _ _ h => h)) k2 (fun b hb hb2 => h4 j k hj hk e b hb hb2)
      exact ⟨A, c, e1, owns_keep ho2 k3 (fun b hb e => owns_apart ho2 h6 op_ne_row b hb (by rw [show b = g from e]; rfl))⟩
  · rw [List.length_set] at hi hj
    rw [getD_set _ _ _ _ _ (by omega)] at hb ⊢
    have hlow : ∀ j, j < rows.length → ∀ b, (vs.getD j (.slice none 0 0)).ownBlock = some b → b < w1.heap.size := fun j hj b hb => by
      obtain ⟨A, c, e1, ho⟩ := h3 j hj
      exact Nat.lt_of_lt_of_le (ho.lt b hb).2 k1.size
    by_cases ei : i = k
    · rw [if_pos ei] at hb
      rw [if_neg (by omega)]
      intro hc
      rcases hmv with hm | hm
      · rw [hm] at hb
        exact h4 k j hk hj (by omega) b hb hc
      · have := hm b hb
        have := hlow j hj b hc
        omega
    · rw [if_neg ei] at hb
      by_cases ej : j = k
      · rw [if_pos ej]
        intro hc
        rcases hmv with hm | hm
        · rw [hm] at hc
          exact h4 i k hi hk ei b hb hc
        · have := hm b hc
          have := hlow i hi b hb
          omega
      · rw [if_neg ej]
        exact h4 i j hi hj hij b hb
  · rw [h6.cellAt k (by omega), List.getD_eq_getElem?_getD, List.getElem?_eq_getElem (by omega)]
    rfl
/-- append of ops at a step of a drawn region -/
theorem step_append_ops {ops : Array Oper} {o : Oper} {a : Act} {w : World} {K : Act → World → Prop} {Q : Exit → Act → World → Prop} {E : Prop}
    (hg : o.guard = none) (s x : Operand) (hop : o.op = Op.call { callee := Callee.builtin Builtin.append, args := #[s, x], argTypes := #[26, 26] })
    (B : Nat) (l1 : List Ir.Op) (v : Value) (hs : a.eval s = v) (h1 : OpsOwn w B l1 v) (ad : Addr) (m c : Nat) (l2 : List Ir.Op) (hx : a.eval x = .slice (some ad) m c) (hl : l2.length = m) (hc : ∀ j u, (opsL l2)[j]? = some u → w.cell? (ad.add j) = some u)
    (hb : l1.length + m ≤ 1000000) (hbase : B ≤ w.heap.size)
    (hK : ∀ v' w', OpsOwn w' B (l1 ++ l2) v' → Keeps (fun k => v.ownBlock = some k) w w' → Moved w v v' → K (a.put o.dst v') w') :
    if Region.wanted o (yielded ops a.tmps) = true then Oper.wp Tryd.prog o a w K Q else E := by
  obtain ⟨i0, hi, hz0, hz1, hz2⟩ := info_parts Tryd.info_op
  obtain ⟨A1, c1, rfl, ho1⟩ := h1
  refine step_append_mine hg s x 26 hop B 47 i0 _ 6 56 Tryd.underlying26 hi hz0 hz1 hz2 rfl (by decide) (.slice A1 l1.length c1) l1.length (opsL l1) hs ho1 ad m c (opsL l2) hx (by rw [opsL_len, hl]) hc (opsL_one l2) (by unfold maxLen; omega) (by omega) hbase ?_
  intro v' w' hown hgrow hmv
  obtain ⟨A', cap', rfl⟩ := owns_slice hown
  refine hK _ _ ⟨A', cap', by rw [List.length_append, hl], ?_⟩ ((Keeps.refl _ w).grown hgrow (fun k hk _ => hk)) hmv
  rw [opsL_append, List.length_append, hl]
  exact hown
end Go.Proofs.YtknhfobcejpmeaaDoor
