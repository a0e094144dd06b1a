import Derived.Test.YtknhfobcejpmeaaGreatDoorPez20
import Derived.Deep.RegionHeld3

/- MakeFits -/
/- The walk of a maker's fits. Printed by gen/makefits.py. -/
namespace Go.Proofs.YtknhfobcejpmeaaGreatDoor
open Go.RowKit Go.Deep
set_option linter.unusedVariables false
set_option linter.unusedSimpArgs false

set_option maxHeartbeats 8000000 in
set_option maxRecDepth 100000 in
theorem fits_any (B x bw br N : Nat) (v : Value) (m : Ir.Mk) (k : Nat) (o : Ir.Op) (w : World) (M : MakerAt w B x bw br N v m) (hm : Ir.MkOk m) (hk : k ≤ 1000) :
    Calls Tryz.prog 84 #[.pointer (some ⟨x, 0, none⟩), .int .i64 k, .agg (opC o)] w fun e w' => e = .returned (.bool (Ir.fits m k o)) ∧ Keeps (fun _ => False) w w' := by
  obtain ⟨A, cap, hv, hcap, V⟩ := M.rows.own.rows
  have hF : Ir.fits m k o = (decide (m.rows.length ≤ k) || (decide ((m.rows.getD k []).length < 4) && decide (Ir.cnt (m.rows.getD k []) (Ir.cls o) < Ir.room (Ir.cls o)))) := rfl
  obtain ⟨fv, hfv⟩ : ∃ b, Ir.fits m k o = b := ⟨_, rfl⟩
  rw [hfv] at hF ⊢
  have H4 := Lib.hid (hm.four k)
  have hlen := hm.len
  have HC0 := Lib.hid (fun w' (q : Keeps (fun _ => False) w w') => (M.quiet q).cells.1)
  have HV := Lib.hid V
  have hnc := V.le
  obtain ⟨n, hn⟩ : ∃ n, m.rows.length = n := ⟨_, rfl⟩
  rw [hn] at hv hF HV hlen hnc
  subst hv
  have HCL := Lib.hid (cls_lt o)
  have HCO := Lib.hid (fun w => class_any o w)
  have HRM := Lib.hid (fun w => room_any (Ir.cls o) w)
  obtain ⟨cc, hcc⟩ : ∃ c, Ir.cls o = c := ⟨_, rfl⟩
  rw [hcc] at HCL HCO HRM hF
  obtain ⟨rm, hrm⟩ : ∃ r, Ir.room cc = r := ⟨_, rfl⟩
  rw [hrm] at HRM hF
  clear hcc hrm hfv hn V M hm
  have hk0 : (0 : Int) ≤ (k : Int) := by omega
  obtain ⟨ok, od, oa, ob, oim, oat⟩ := o
  have HN := Lib.hid (op_new w ok od oa ob oim oat 100)
  by_cases hkn : n ≤ k
  · have t1 : decide (n ≤ k) = true := decide_eq_true hkn
    have HF := Lib.hid (show fv = true by rw [hF, decide_eq_true hkn, Bool.true_or])
    clear hF hkn
    unfold opC
    go_enter Tryz.func84, Tryz.ntmps84
    go_upto_region 1 with fail
    obtain ⟨hV, hK⟩ := HN.out
    have c0 := HC0.out _ hK
    have HK1 := Lib.hid hK
    generalize w.alloc _ = w1 at *
    generalize w.heap.size = y at *
    clear hK HN hV
    go_wp2_with fail
    go_ret
    exact ⟨by rw [HF.out]; rfl, HK1.out⟩
  · have t1 : decide (n ≤ k) = false := decide_eq_false hkn
    have HF := Lib.hid (show fv = (decide ((m.rows.getD k []).length < 4) && decide (Ir.cnt (m.rows.getD k []) cc < rm)) by rw [hF, decide_eq_false hkn, Bool.false_or])
    clear hF
    have hkl : k < n := by omega
    have hki : (k : Int) < (n : Int) := by omega
    clear hkn
    obtain ⟨g, go, Ak, ck, rfl, e0, e1, e2⟩ := HV.out.get hkl
    have HE0 := Lib.hid e0
    have HE1 := Lib.hid e1
    obtain ⟨l, hl⟩ : ∃ l, m.rows.getD k [] = l := ⟨_, rfl⟩
    rw [hl] at HE0 HE1 HF H4
    clear hl e0 e1
    have HIX : Hid (∀ w, (Instr.index 202 (.agg #[.int .i64 (Ir.cnt l 0 : Nat), .int .i64 (Ir.cnt l 1 : Nat), .int .i64 (Ir.cnt l 2 : Nat)]) (.int .i64 (cc : Int))).run Tryz.prog w = .ok (.int .i64 (Ir.cnt l cc : Nat)) w) := Lib.hid (by
      obtain rfl | rfl | rfl : cc = 0 ∨ cc = 1 ∨ cc = 2 := by have := HCL.out; omega
      · exact fun w => by kernel_rfl
      · exact fun w => by kernel_rfl
      · exact fun w => by kernel_rfl)
    have HCT := Lib.hid (fun w V => counts_any Ak l.length ck l w V e2 H4.out)
    obtain ⟨c0', hc0'⟩ : ∃ c, Ir.cnt l 0 = c := ⟨_, rfl⟩
    obtain ⟨c1', hc1'⟩ : ∃ c, Ir.cnt l 1 = c := ⟨_, rfl⟩
    obtain ⟨c2', hc2'⟩ : ∃ c, Ir.cnt l 2 = c := ⟨_, rfl⟩
    obtain ⟨cv, hcv⟩ : ∃ c, Ir.cnt l cc = c := ⟨_, rfl⟩
    rw [hc0', hc1', hc2'] at HIX HCT
    rw [hcv] at HIX HF
    obtain ⟨rl, hrl⟩ : ∃ n, l.length = n := ⟨_, rfl⟩
    rw [hrl] at HE0 HE1 HF HCT H4
    clear hc0' hc1' hc2' hcv hrl e2
    unfold opC
    go_enter Tryz.func84, Tryz.ntmps84
    go_upto_region 1 with fail
    obtain ⟨hV, hK⟩ := HN.out
    have c0 := HC0.out _ hK
    have HK1 := Lib.hid hK
    generalize w.alloc _ = w1 at *
    generalize w.heap.size = y at *
    obtain ⟨v0, v1, v2, v3, v4, v5⟩ := hV
    simp only at v0 v1 v2 v3 v4 v5
    clear hK HN
    go_wp2_with fail
    refine (HCO.out _).mono ?_
    rintro e w5 ⟨rfl, hk5⟩
    have HK5 := Lib.hid (HK1.out.trans hk5 (fun _ _ h => h))
    clear c0 v0 v1 v2 v3 v4 v5 hk5
    have c0 := HC0.out _ HK5.out
    have e0 := HK5.out.cell' HE0.out (fun h => h)
    have HE2 := Lib.hid (HE1.out.quiet HK5.out)
    have hix := HIX.out
    clear HE0 HE1
    have HE1 := HE2
    clear HE2
    by_cases h4 : rl < 4
    · have t2 : decide ((rl : Int) < 4) = true := decide_eq_true (by omega)
      have HFF := Lib.hid (show fv = decide (cv < rm) by rw [HF.out, decide_eq_true h4, Bool.true_and])
      clear h4
      go_upto_region 4 with fail
      refine wp_region_held_drew (S := fun w' => Keeps (fun _ => False) w5 w') (by kernel_rfl) (Keeps.refl _ w5).drew (fun hH0 => ?_)
      refine wpAnyH_take (i := 0) (v := ?_) rfl (by kernel_rfl) (by kernel_rfl) (by kernel_rfl) (fun _ _ _ h => h) (Or.inl ⟨by go_simp, ?_⟩) hH0 ?_
      rotate_left
      · intro w' hSw
        go_simp
        try with_reducible rfl
      simp only [Act.put, List.setIfInBounds_toArray, List.set_cons_zero, List.set_cons_succ]
      refine wpAnyH_take (i := 1) (v := ?_) rfl (by kernel_rfl) (by kernel_rfl) (by kernel_rfl) (fun _ _ _ h => h) (Or.inl ⟨by go_simp, ?_⟩) hH0 ?_
      rotate_left
      · intro w' hSw
        go_simp
        try with_reducible rfl
      simp only [Act.put, List.setIfInBounds_toArray, List.set_cons_zero, List.set_cons_succ]
      refine wpAnyH_take (i := 2) (v := ?_) rfl (by kernel_rfl) (by kernel_rfl) (by kernel_rfl) (fun _ _ _ h => h) (Or.inl ⟨by go_simp, ?_⟩) hH0 ?_
      rotate_left
      · intro w' hSw
        go_simp
        try with_reducible rfl
      simp only [Act.put, List.setIfInBounds_toArray, List.set_cons_zero, List.set_cons_succ]
      refine wpAnyH_take (i := 3) (v := ?_) rfl (by kernel_rfl) (by kernel_rfl) (by kernel_rfl) (fun _ _ _ h => h) (Or.inl ⟨by go_simp, ?_⟩) hH0 ?_
      rotate_left
      · intro w' hSw
        have g0 := Keeps.cell' hSw c0 (fun f => f)
        go_simp
        try with_reducible rfl
      simp only [Act.put, List.setIfInBounds_toArray, List.set_cons_zero, List.set_cons_succ]
      refine wpAnyH_take (i := 4) (v := ?_) rfl (by kernel_rfl) (by kernel_rfl) (by kernel_rfl) (fun _ _ _ h => h) (Or.inl ⟨by go_simp, ?_⟩) hH0 ?_
      rotate_left
      · intro w' hSw
        go_simp
        try with_reducible rfl
      simp only [Act.put, List.setIfInBounds_toArray, List.set_cons_zero, List.set_cons_succ]
      refine wpAnyH_take (i := 5) (v := ?_) rfl (by kernel_rfl) (by kernel_rfl) (by kernel_rfl) (fun _ _ _ h => h) (Or.inl ⟨by go_simp, ?_⟩) hH0 ?_
      rotate_left
      · intro w' hSw
        go_simp
        try with_reducible rfl
      simp only [Act.put, List.setIfInBounds_toArray, List.set_cons_zero, List.set_cons_succ]
      refine wpAnyH_take (i := 6) (v := ?_) rfl (by kernel_rfl) (by kernel_rfl) (by kernel_rfl) (fun _ _ _ h => h) (Or.inl ⟨by go_simp, ?_⟩) hH0 ?_
      rotate_left
      · intro w' hSw
        have g0 := Keeps.cell' hSw e0 (fun f => f)
        go_simp
        try with_reducible rfl
      simp only [Act.put, List.setIfInBounds_toArray, List.set_cons_zero, List.set_cons_succ]
      refine wpAnyH_take (i := 7) (v := ?_) rfl (by kernel_rfl) (by kernel_rfl) (by kernel_rfl) (fun _ _ _ h => h) (Or.inl ⟨by go_simp, ?_⟩) hH0 ?_
      rotate_left
      · intro w' hSw
        go_simp
        try with_reducible rfl
      simp only [Act.put, List.setIfInBounds_toArray, List.set_cons_zero, List.set_cons_succ]
      refine wpAnyH_take (i := 8) (v := ?_) rfl (by kernel_rfl) (by kernel_rfl) (by kernel_rfl) (fun _ _ _ h => h) (Or.inl ⟨by go_simp, ?_⟩) hH0 ?_
      rotate_left
      · intro w' hSw
        go_simp
        try with_reducible rfl
      simp only [Act.put, List.setIfInBounds_toArray, List.set_cons_zero, List.set_cons_succ]
      refine wpAnyH_take (i := 9) (v := ?_) rfl (by kernel_rfl) (by kernel_rfl) (by kernel_rfl) (fun _ _ _ h => h) (Or.inl ⟨by go_simp, ?_⟩) hH0 ?_
      rotate_left
      · intro w' hSw
        go_simp
        try with_reducible rfl
      simp only [Act.put, List.setIfInBounds_toArray, List.set_cons_zero, List.set_cons_succ]
      refine wpAnyH_take (i := 10) (v := ?_) rfl (by kernel_rfl) (by kernel_rfl) (by kernel_rfl) (fun _ _ _ h => h) (Or.inl ⟨by go_simp, ?_⟩) hH0 ?_
      rotate_left
      · intro w' hSw
        go_simp
        try with_reducible rfl
      simp only [Act.put, List.setIfInBounds_toArray, List.set_cons_zero, List.set_cons_succ]
      refine wpAnyH_take (i := 11) (v := ?_) rfl (by kernel_rfl) (by kernel_rfl) (by kernel_rfl) (fun _ _ _ h => h) (Or.inl ⟨by go_simp, ?_⟩) hH0 ?_
      rotate_left
      · intro w' hSw
        go_simp
        try with_reducible rfl
      simp only [Act.put, List.setIfInBounds_toArray, List.set_cons_zero, List.set_cons_succ]
      refine wpAnyH_take (i := 12) (v := ?_) rfl (by kernel_rfl) (by kernel_rfl) (by kernel_rfl) (fun _ _ _ h => h) (Or.inl ⟨by go_simp, ?_⟩) hH0 ?_
      rotate_left
      · intro w' hSw
        go_simp
        try with_reducible rfl
      simp only [Act.put, List.setIfInBounds_toArray, List.set_cons_zero, List.set_cons_succ]
      refine wpAnyH_take (i := 13) (v := ?_) rfl (by kernel_rfl) (by kernel_rfl) (by kernel_rfl) (fun _ _ _ h => h) (Or.inl ⟨by go_simp, ?_⟩) hH0 ?_
      rotate_left
      · intro w' hSw
        have g0 := Keeps.cell' hSw c0 (fun f => f)
        go_simp
        try with_reducible rfl
      simp only [Act.put, List.setIfInBounds_toArray, List.set_cons_zero, List.set_cons_succ]
      refine wpAnyH_take (i := 14) (v := ?_) rfl (by kernel_rfl) (by kernel_rfl) (by kernel_rfl) (fun _ _ _ h => h) (Or.inl ⟨by go_simp, ?_⟩) hH0 ?_
      rotate_left
      · intro w' hSw
        go_simp
        try with_reducible rfl
      simp only [Act.put, List.setIfInBounds_toArray, List.set_cons_zero, List.set_cons_succ]
      refine wpAnyH_take (i := 15) (v := ?_) rfl (by kernel_rfl) (by kernel_rfl) (by kernel_rfl) (fun _ _ _ h => h) (Or.inl ⟨by go_simp, ?_⟩) hH0 ?_
      rotate_left
      · intro w' hSw
        go_simp
        try with_reducible rfl
      simp only [Act.put, List.setIfInBounds_toArray, List.set_cons_zero, List.set_cons_succ]
      refine wpAnyH_take (i := 16) (v := ?_) rfl (by kernel_rfl) (by kernel_rfl) (by kernel_rfl) (fun _ _ _ h => h) (Or.inl ⟨by go_simp, ?_⟩) hH0 ?_
      rotate_left
      · intro w' hSw
        have g0 := Keeps.cell' hSw e0 (fun f => f)
        go_simp
        try with_reducible rfl
      simp only [Act.put, List.setIfInBounds_toArray, List.set_cons_zero, List.set_cons_succ]
      refine wpAnyH_take (i := 18) (v := ?_) rfl (by kernel_rfl) (by kernel_rfl) (by kernel_rfl) (fun _ _ _ h => h) (Or.inl ⟨by go_simp, ?_⟩) hH0 ?_
      rotate_left
      · intro w' hSw
        go_simp
        try with_reducible rfl
      simp only [Act.put, List.setIfInBounds_toArray, List.set_cons_zero, List.set_cons_succ]
      refine wpAnyH_take (i := 20) (v := ?_) rfl (by kernel_rfl) (by kernel_rfl) (by kernel_rfl) (fun _ _ _ h => h) (Or.inl ⟨by go_simp, ?_⟩) hH0 ?_
      rotate_left
      · intro w' hSw
        go_simp
        try with_reducible rfl
      simp only [Act.put, List.setIfInBounds_toArray, List.set_cons_zero, List.set_cons_succ]
      refine wpAnyH_ready (rs := [17]) (by kernel_rfl) (by simp) ?_
      refine AllReadyH.cons rfl (fun K hK => ?_) AllReadyH.nil
      go_simp
      refine (HCT.out _ (HE1.out.quiet hH0)).mono ?_
      rintro e wa ⟨rfl, hka⟩
      go_wp2_with fail
      have hH1 := Keeps.trans hH0 hka (fun _ _ h => h)
      refine hK.out _ _ hH1 (fun _ => ?_)
      clear hK K
      try simp only [Act.put, List.setIfInBounds_toArray, List.set_cons_zero, List.set_cons_succ]
      refine wpAnyH_take (i := 19) (v := ?_) rfl (by kernel_rfl) (by kernel_rfl) (by kernel_rfl) (fun _ _ _ h => h) (Or.inl ⟨by go_simp, ?_⟩) hH1 ?_
      rotate_left
      · intro w' hSw
        go_simp
        try with_reducible rfl
      simp only [Act.put, List.setIfInBounds_toArray, List.set_cons_zero, List.set_cons_succ]
      refine wpAnyH_ready (rs := [21]) (by kernel_rfl) (by simp) ?_
      refine AllReadyH.cons rfl (fun K hK => ?_) AllReadyH.nil
      go_simp
      refine (HRM.out _).mono ?_
      rintro e wb ⟨rfl, rfl⟩
      go_wp2_with fail
      have hH2 := hH1
      refine hK.out _ _ hH2 (fun _ => ?_)
      clear hK K
      try simp only [Act.put, List.setIfInBounds_toArray, List.set_cons_zero, List.set_cons_succ]
      refine wpAnyH_take (i := 22) (v := ?_) rfl (by kernel_rfl) (by kernel_rfl) (by kernel_rfl) (fun _ _ _ h => h) (Or.inl ⟨by go_simp, ?_⟩) hH2 ?_
      rotate_left
      · intro w' hSw
        go_simp
        try with_reducible rfl
      simp only [Act.put, List.setIfInBounds_toArray, List.set_cons_zero, List.set_cons_succ]
      refine wpAnyH_take (i := 23) (v := ?_) rfl (by kernel_rfl) (by kernel_rfl) (by kernel_rfl) (fun _ _ _ h => h) (Or.inl ⟨by go_simp, ?_⟩) hH2 ?_
      rotate_left
      · intro w' hSw
        go_simp
        try with_reducible rfl
      simp only [Act.put, List.setIfInBounds_toArray, List.set_cons_zero, List.set_cons_succ]
      refine wpAnyH_ready (rs := [24]) (by kernel_rfl) (by simp) ?_
      refine AllReadyH.cons rfl (fun K hK => ?_) AllReadyH.nil
      go_simp
      refine hK.out _ _ hH2 (fun _ => ?_)
      clear hK K
      try simp only [Act.put, List.setIfInBounds_toArray, List.set_cons_zero, List.set_cons_succ]
      refine wpAnyH_done (by kernel_rfl) ?_ _
      go_wp2_with fail
      go_ret
      exact ⟨by rw [HFF.out]; first | rfl | (congr 2; simp), HK5.out.trans hH2 (fun _ _ h => h)⟩
    · have t2 : decide ((rl : Int) < 4) = false := decide_eq_false (by omega)
      have HFF := Lib.hid (show fv = false by rw [HF.out, decide_eq_false h4, Bool.false_and])
      clear h4
      go_upto_region 4 with fail
      refine wp_region_held_drew (S := fun w' => Keeps (fun _ => False) w5 w') (by kernel_rfl) (Keeps.refl _ w5).drew (fun hH0 => ?_)
      refine wpAnyH_take (i := 0) (v := ?_) rfl (by kernel_rfl) (by kernel_rfl) (by kernel_rfl) (fun _ _ _ h => h) (Or.inl ⟨by go_simp, ?_⟩) hH0 ?_
      rotate_left
      · intro w' hSw
        go_simp
        try with_reducible rfl
      simp only [Act.put, List.setIfInBounds_toArray, List.set_cons_zero, List.set_cons_succ]
      refine wpAnyH_take (i := 1) (v := ?_) rfl (by kernel_rfl) (by kernel_rfl) (by kernel_rfl) (fun _ _ _ h => h) (Or.inl ⟨by go_simp, ?_⟩) hH0 ?_
      rotate_left
      · intro w' hSw
        go_simp
        try with_reducible rfl
      simp only [Act.put, List.setIfInBounds_toArray, List.set_cons_zero, List.set_cons_succ]
      refine wpAnyH_take (i := 2) (v := ?_) rfl (by kernel_rfl) (by kernel_rfl) (by kernel_rfl) (fun _ _ _ h => h) (Or.inl ⟨by go_simp, ?_⟩) hH0 ?_
      rotate_left
      · intro w' hSw
        go_simp
        try with_reducible rfl
      simp only [Act.put, List.setIfInBounds_toArray, List.set_cons_zero, List.set_cons_succ]
      refine wpAnyH_take (i := 3) (v := ?_) rfl (by kernel_rfl) (by kernel_rfl) (by kernel_rfl) (fun _ _ _ h => h) (Or.inl ⟨by go_simp, ?_⟩) hH0 ?_
      rotate_left
      · intro w' hSw
        have g0 := Keeps.cell' hSw c0 (fun f => f)
        go_simp
        try with_reducible rfl
      simp only [Act.put, List.setIfInBounds_toArray, List.set_cons_zero, List.set_cons_succ]
      refine wpAnyH_take (i := 4) (v := ?_) rfl (by kernel_rfl) (by kernel_rfl) (by kernel_rfl) (fun _ _ _ h => h) (Or.inl ⟨by go_simp, ?_⟩) hH0 ?_
      rotate_left
      · intro w' hSw
        go_simp
        try with_reducible rfl
      simp only [Act.put, List.setIfInBounds_toArray, List.set_cons_zero, List.set_cons_succ]
      refine wpAnyH_take (i := 5) (v := ?_) rfl (by kernel_rfl) (by kernel_rfl) (by kernel_rfl) (fun _ _ _ h => h) (Or.inl ⟨by go_simp, ?_⟩) hH0 ?_
      rotate_left
      · intro w' hSw
        go_simp
        try with_reducible rfl
      simp only [Act.put, List.setIfInBounds_toArray, List.set_cons_zero, List.set_cons_succ]
      refine wpAnyH_take (i := 6) (v := ?_) rfl (by kernel_rfl) (by kernel_rfl) (by kernel_rfl) (fun _ _ _ h => h) (Or.inl ⟨by go_simp, ?_⟩) hH0 ?_
      rotate_left
      · intro w' hSw
        have g0 := Keeps.cell' hSw e0 (fun f => f)
        go_simp
        try with_reducible rfl
      simp only [Act.put, List.setIfInBounds_toArray, List.set_cons_zero, List.set_cons_succ]
      refine wpAnyH_take (i := 7) (v := ?_) rfl (by kernel_rfl) (by kernel_rfl) (by kernel_rfl) (fun _ _ _ h => h) (Or.inl ⟨by go_simp, ?_⟩) hH0 ?_
      rotate_left
      · intro w' hSw
        go_simp
        try with_reducible rfl
      simp only [Act.put, List.setIfInBounds_toArray, List.set_cons_zero, List.set_cons_succ]
      refine wpAnyH_take (i := 8) (v := ?_) rfl (by kernel_rfl) (by kernel_rfl) (by kernel_rfl) (fun _ _ _ h => h) (Or.inl ⟨by go_simp, ?_⟩) hH0 ?_
      rotate_left
      · intro w' hSw
        go_simp
        try with_reducible rfl
      simp only [Act.put, List.setIfInBounds_toArray, List.set_cons_zero, List.set_cons_succ]
      refine wpAnyH_take (i := 9) (v := ?_) rfl (by kernel_rfl) (by kernel_rfl) (by kernel_rfl) (fun _ _ _ h => h) (Or.inl ⟨by go_simp, ?_⟩) hH0 ?_
      rotate_left
      · intro w' hSw
        go_simp
        try with_reducible rfl
      simp only [Act.put, List.setIfInBounds_toArray, List.set_cons_zero, List.set_cons_succ]
      refine wpAnyH_take (i := 10) (v := undef) rfl (by kernel_rfl) (by kernel_rfl) (by kernel_rfl) (fun _ _ _ h => h) (Or.inr ⟨by first | (go_simp; done) | (go_simp; intro h; cases h), rfl⟩) hH0 ?_
      simp only [Act.put, List.setIfInBounds_toArray, List.set_cons_zero, List.set_cons_succ]
      refine wpAnyH_take (i := 11) (v := undef) rfl (by kernel_rfl) (by kernel_rfl) (by kernel_rfl) (fun _ _ _ h => h) (Or.inr ⟨by first | (go_simp; done) | (go_simp; intro h; cases h), rfl⟩) hH0 ?_
      simp only [Act.put, List.setIfInBounds_toArray, List.set_cons_zero, List.set_cons_succ]
      refine wpAnyH_take (i := 12) (v := undef) rfl (by kernel_rfl) (by kernel_rfl) (by kernel_rfl) (fun _ _ _ h => h) (Or.inr ⟨by first | (go_simp; done) | (go_simp; intro h; cases h), rfl⟩) hH0 ?_
      simp only [Act.put, List.setIfInBounds_toArray, List.set_cons_zero, List.set_cons_succ]
      refine wpAnyH_take (i := 13) (v := undef) rfl (by kernel_rfl) (by kernel_rfl) (by kernel_rfl) (fun _ _ _ h => h) (Or.inr ⟨by first | (go_simp; done) | (go_simp; intro h; cases h), rfl⟩) hH0 ?_
      simp only [Act.put, List.setIfInBounds_toArray, List.set_cons_zero, List.set_cons_succ]
      refine wpAnyH_take (i := 14) (v := undef) rfl (by kernel_rfl) (by kernel_rfl) (by kernel_rfl) (fun _ _ _ h => h) (Or.inr ⟨by first | (go_simp; done) | (go_simp; intro h; cases h), rfl⟩) hH0 ?_
      simp only [Act.put, List.setIfInBounds_toArray, List.set_cons_zero, List.set_cons_succ]
      refine wpAnyH_take (i := 15) (v := undef) rfl (by kernel_rfl) (by kernel_rfl) (by kernel_rfl) (fun _ _ _ h => h) (Or.inr ⟨by first | (go_simp; done) | (go_simp; intro h; cases h), rfl⟩) hH0 ?_
      simp only [Act.put, List.setIfInBounds_toArray, List.set_cons_zero, List.set_cons_succ]
      refine wpAnyH_take (i := 16) (v := undef) rfl (by kernel_rfl) (by kernel_rfl) (by kernel_rfl) (fun _ _ _ h => h) (Or.inr ⟨by first | (go_simp; done) | (go_simp; intro h; cases h), rfl⟩) hH0 ?_
      simp only [Act.put, List.setIfInBounds_toArray, List.set_cons_zero, List.set_cons_succ]
      refine wpAnyH_take (i := 17) (v := undef) rfl (by kernel_rfl) (by kernel_rfl) (by kernel_rfl) (fun _ _ _ h => h) (Or.inr ⟨by first | (go_simp; done) | (go_simp; intro h; cases h), rfl⟩) hH0 ?_
      simp only [Act.put, List.setIfInBounds_toArray, List.set_cons_zero, List.set_cons_succ]
      refine wpAnyH_take (i := 18) (v := undef) rfl (by kernel_rfl) (by kernel_rfl) (by kernel_rfl) (fun _ _ _ h => h) (Or.inr ⟨by first | (go_simp; done) | (go_simp; intro h; cases h), rfl⟩) hH0 ?_
      simp only [Act.put, List.setIfInBounds_toArray, List.set_cons_zero, List.set_cons_succ]
      refine wpAnyH_take (i := 19) (v := undef) rfl (by kernel_rfl) (by kernel_rfl) (by kernel_rfl) (fun _ _ _ h => h) (Or.inr ⟨by first | (go_simp; done) | (go_simp; intro h; cases h), rfl⟩) hH0 ?_
      simp only [Act.put, List.setIfInBounds_toArray, List.set_cons_zero, List.set_cons_succ]
      refine wpAnyH_take (i := 20) (v := undef) rfl (by kernel_rfl) (by kernel_rfl) (by kernel_rfl) (fun _ _ _ h => h) (Or.inr ⟨by first | (go_simp; done) | (go_simp; intro h; cases h), rfl⟩) hH0 ?_
      simp only [Act.put, List.setIfInBounds_toArray, List.set_cons_zero, List.set_cons_succ]
      refine wpAnyH_take (i := 21) (v := undef) rfl (by kernel_rfl) (by kernel_rfl) (by kernel_rfl) (fun _ _ _ h => h) (Or.inr ⟨by first | (go_simp; done) | (go_simp; intro h; cases h), rfl⟩) hH0 ?_
      simp only [Act.put, List.setIfInBounds_toArray, List.set_cons_zero, List.set_cons_succ]
      refine wpAnyH_take (i := 22) (v := undef) rfl (by kernel_rfl) (by kernel_rfl) (by kernel_rfl) (fun _ _ _ h => h) (Or.inr ⟨by first | (go_simp; done) | (go_simp; intro h; cases h), rfl⟩) hH0 ?_
      simp only [Act.put, List.setIfInBounds_toArray, List.set_cons_zero, List.set_cons_succ]
      refine wpAnyH_take (i := 23) (v := ?_) rfl (by kernel_rfl) (by kernel_rfl) (by kernel_rfl) (fun _ _ _ h => h) (Or.inl ⟨by go_simp, ?_⟩) hH0 ?_
      rotate_left
      · intro w' hSw
        go_simp
        try with_reducible rfl
      simp only [Act.put, List.setIfInBounds_toArray, List.set_cons_zero, List.set_cons_succ]
      refine wpAnyH_ready (rs := [24]) (by kernel_rfl) (by simp) ?_
      refine AllReadyH.cons rfl (fun K hK => ?_) AllReadyH.nil
      go_simp
      refine hK.out _ _ hH0 (fun _ => ?_)
      clear hK K
      try simp only [Act.put, List.setIfInBounds_toArray, List.set_cons_zero, List.set_cons_succ]
      refine wpAnyH_done (by kernel_rfl) ?_ _
      go_wp2_with fail
      go_ret
      exact ⟨by rw [HFF.out]; rfl, HK5.out.trans hH0 (fun _ _ h => h)⟩
end Go.Proofs.YtknhfobcejpmeaaGreatDoor

/- MakeRow -/
/- Rows of rows: one more row; one more op in a row. -/
namespace Go.Proofs.YtknhfobcejpmeaaGreatDoor
open Go.RowKit Go.Deep
set_option linter.unusedVariables false
set_option linter.unusedSimpArgs false

theorem getD_snoc_lt {α : Type} (l : List α) (a d : α) (j : Nat) (h : j < l.length) : (l ++ [a]).getD j d = l.getD j d := by
  simp [List.getD_eq_getElem?_getD, List.getElem?_append_left h]
theorem getD_snoc_eq {α : Type} (l : List α) (a d : α) : (l ++ [a]).getD l.length d = a := by
  simp [List.getD_eq_getElem?_getD]
theorem getD_set {α : Type} (l : List α) (a d : α) (k j : Nat) (hk : k < l.length) : (l.set k a).getD j d = if j = k then a else l.getD j d := by
  simp only [List.getD_eq_getElem?_getD, List.getElem?_set]
  by_cases e : j = k
  · subst e; simp [hk]
  · rw [if_neg (fun h => e h.symm), if_neg e]
theorem OpsOwn.nil (w : World) (B : Nat) : OpsOwn w B [] (.slice none 0 0) := ⟨none, 0, rfl, World.ownsRow_nil _ _ _ _⟩
/-- one more row, an empty one -/
theorem rows_snoc {w w3 : World} {B : Nat} {v v' : Value} {rows : List (List Ir.Op)} {vs : List Value} (h1 : vs.length = rows.length) (h2 : w.ownsRow B 23 1 v rows.length vs) (h3 : ∀ j, j < rows.length → OpsOwn w B (rows.getD j []) (vs.getD j (Value.slice none 0 0)))
    (h4 : ∀ i j, i < rows.length → j < rows.length → i ≠ j → ∀ g, (vs.getD i (Value.slice none 0 0)).ownBlock = some g → ¬ (vs.getD j (Value.slice none 0 0)).ownBlock = some g)
    (hk : Keeps (fun k => v.ownBlock = some k) w w3) (hown : w3.ownsRow B 23 1 v' (rows.length + 1) (vs ++ [Value.slice none 0 0])) : (vs ++ [Value.slice none 0 0]).length = (rows ++ [[]]).length ∧ w3.ownsRow B 23 1 v' (rows ++ [[]]).length (vs ++ [Value.slice none 0 0]) ∧ (∀ j, j < (rows ++ [[]]).length → OpsOwn w3 B ((rows ++ [[]]).getD j []) ((vs ++ [Value.slice none 0 0]).getD j (Value.slice none 0 0))) ∧
    ∀ i j, i < (rows ++ [[]]).length → j < (rows ++ [[]]).length → i ≠ j → ∀ g, ((vs ++ [Value.slice none 0 0]).getD i (Value.slice none 0 0)).ownBlock = some g → ¬ ((vs ++ [Value.slice none 0 0]).getD j (Value.slice none 0 0)).ownBlock = some g := by
  refine ⟨by simp [h1], by rw [List.length_append, List.length_singleton]; exact hown, fun j hj => ?_, fun i j hi hj hne g hg => ?_⟩
  · rw [List.length_append, List.length_singleton] at hj
    by_cases e : j < rows.length
    · rw [getD_snoc_lt _ _ _ _ e, getD_snoc_lt _ _ _ _ (by omega)]
      obtain ⟨A, cap, e1, ho⟩ := h3 j e
      exact ⟨A, cap, e1, owns_keep ho hk (owns_apart ho h2 op_ne_row)⟩
    · obtain rfl : j = rows.length := by omega
      rw [getD_snoc_eq, ← h1, getD_snoc_eq]
      exact OpsOwn.nil _ _
  · rw [List.length_append, List.length_singleton] at hi hj
    by_cases ei : i < rows.length
    · rw [getD_snoc_lt _ _ _ _ (by omega)] at hg
      by_cases ej : j < rows.length
      · rw [getD_snoc_lt _ _ _ _ (by omega)]
        exact h4 i j ei ej hne g hg
      · obtain rfl : j = rows.length := by omega
        rw [← h1, getD_snoc_eq]
        intro h; cases h
    · obtain rfl : i = rows.length := by omega
      rw [← h1, getD_snoc_eq] at hg
      cases hg
/-- one more op in row k: the row turned, or it moved; its slice was stored -/
theorem RowsDist.put {w w1 w2 : World} {B g n cap k : Nat} {u : Value} {rows : List (List Ir.Op)} {l : List Ir.Op} {vs : List Value} (h1 : vs.length = rows.length) (h2 : w.ownsRow B 23 1 (.slice (some ⟨g, 0, none⟩) n cap) n vs) (hn : rows.length = n)
    (h3 : ∀ j, j < rows.length → OpsOwn w B (rows.getD j []) (vs.getD j (.slice none 0 0)))
    (h4 : ∀ i j, i < rows.length → j < rows.length → i ≠ j → ∀ g, (vs.getD i (.slice none 0 0)).ownBlock = some g → ¬ (vs.getD j (.slice none 0 0)).ownBlock = some g) (hk : k < rows.length)
    (k1 : Keeps (fun _ => False) w w1) (k2 : Keeps (fun b => (vs.getD k (.slice none 0 0)).ownBlock = some b) w1 w2) (hu : OpsOwn w2 B l u) (hmv : Moved w1 (vs.getD k (.slice none 0 0)) u) :
    RowsDist (w2.setCell ⟨g, k, none⟩ u) B (.slice (some ⟨g, 0, none⟩) n cap) (rows.set k l) ∧ w2.frozen? ⟨g, k, none⟩ = false ∧ w2.cell? ⟨g, k, none⟩ = some (vs.getD k (.slice none 0 0)) := by
  have h5 := owns_keep h2 k1 (fun _ _ h => h)
  obtain ⟨A0, c0, e0, o0⟩ := h3 k hk
  have hne : ∀ b, (vs.getD k (.slice none 0 0)).ownBlock = some b → b ≠ g := fun b hb e => by
    subst e
    exact owns_apart o0 h2 op_ne_row b hb rfl
  have h6 : w2.ownsRow B 23 1 (.slice (some ⟨g, 0, none⟩) n cap) n vs := owns_keep h5 k2 (fun b hb e => by
    have hb : some g = some b := hb
    injection hb with hb
    exact hne b e hb.symm)
  obtain ⟨s1, s2⟩ := h6.stored k u
  have k3 : Keeps (· = g) w2 (w2.setCell ⟨g, k, none⟩ u) := Keeps.one _ _ _ _
  refine ⟨⟨vs.set k u, by simp [h1], by rw [List.length_set, hn]; exact s1, fun j hj => ?_, fun i j hi hj hij b hb => ?_⟩, h6.frozenAt k, ?_⟩
  · rw [List.length_set] at hj
    rw [getD_set _ _ _ _ _ hk, getD_set _ _ _ _ _ (by omega)]
    by_cases e : j = k
    · rw [if_pos e, if_pos e]
      obtain ⟨A, c, e1, ho⟩ := hu
      exact ⟨A, c, e1, owns_keep ho k3 (fun b hb e => owns_apart ho h6 op_ne_row b hb (by rw [show b = g from e]; rfl))⟩
    · rw [if_neg e, if_neg e]
      obtain ⟨A, c, e1, ho⟩ := h3 j hj
      have ho2 := owns_keep (owns_keep ho k1 (fun _ _ h => h)) k2 (fun b hb hb2 => h4 j k hj hk e b hb hb2)
      exact ⟨A, c, e1, owns_keep ho2 k3 (fun b hb e => owns_apart ho2 h6 op_ne_row b hb (by rw [show b = g from e]; rfl))⟩
  · rw [List.length_set] at hi hj
    rw [getD_set _ _ _ _ _ (by omega)] at hb ⊢
    have hlow : ∀ j, j < rows.length → ∀ b, (vs.getD j (.slice none 0 0)).ownBlock = some b → b < w1.heap.size := fun j hj b hb => by
      obtain ⟨A, c, e1, ho⟩ := h3 j hj
      exact Nat.lt_of_lt_of_le (ho.lt b hb).2 k1.size
    by_cases ei : i = k
    · rw [if_pos ei] at hb
      rw [if_neg (by omega)]
      intro hc
      rcases hmv with hm | hm
      · rw [hm] at hb
        exact h4 k j hk hj (by omega) b hb hc
      · have := hm b hb
        have := hlow j hj b hc
        omega
    · rw [if_neg ei] at hb
      by_cases ej : j = k
      · rw [if_pos ej]
        intro hc
        rcases hmv with hm | hm
        · rw [hm] at hc
          exact h4 i k hi hk ei b hb hc
        · have := hm b hc
          have := hlow i hi b hb
          omega
      · rw [if_neg ej]
        exact h4 i j hi hj hij b hb
  · rw [h6.cellAt k (by omega), List.getD_eq_getElem?_getD, List.getElem?_eq_getElem (by omega)]
    rfl
/-- append of ops at a step of a drawn region -/
theorem step_append_ops {ops : Array Oper} {o : Oper} {a : Act} {w : World} {K : Act → World → Prop} {Q : Exit → Act → World → Prop} {E : Prop}
    (hg : o.guard = none) (s x : Operand) (hop : o.op = Op.call { callee := Callee.builtin Builtin.append, args := #[s, x], argTypes := #[23, 23] })
    (B : Nat) (l1 : List Ir.Op) (v : Value) (hs : a.eval s = v) (h1 : OpsOwn w B l1 v) (ad : Addr) (m c : Nat) (l2 : List Ir.Op) (hx : a.eval x = .slice (some ad) m c) (hl : l2.length = m) (hc : ∀ j u, (opsL l2)[j]? = some u → w.cell? (ad.add j) = some u)
    (hb : l1.length + m ≤ 1000000) (hbase : B ≤ w.heap.size)
    (hK : ∀ v' w', OpsOwn w' B (l1 ++ l2) v' → Keeps (fun k => v.ownBlock = some k) w w' → Moved w v v' → K (a.put o.dst v') w') :
    if Region.wanted o (yielded ops a.tmps) = true then Oper.wp Tryz.prog o a w K Q else E := by
  obtain ⟨i0, hi, hz0, hz1, hz2⟩ := info_parts Tryz.info_op
  obtain ⟨A1, c1, rfl, ho1⟩ := h1
  refine step_append_mine hg s x 23 hop B 100 i0 _ 6 56 Tryz.underlying23 hi hz0 hz1 hz2 rfl (by decide) (.slice A1 l1.length c1) l1.length (opsL l1) hs ho1 ad m c (opsL l2) hx (by rw [opsL_len, hl]) hc (opsL_one l2) (by unfold maxLen; omega) (by omega) hbase ?_
  intro v' w' hown hgrow hmv
  obtain ⟨A', cap', rfl⟩ := owns_slice hown
  refine hK _ _ ⟨A', cap', by rw [List.length_append, hl], ?_⟩ ((Keeps.refl _ w).grown hgrow (fun k hk _ => hk)) hmv
  rw [opsL_append, List.length_append, hl]
  exact hown
end Go.Proofs.YtknhfobcejpmeaaGreatDoor

/- MakeLayL -/
/- A maker's cells turn; what a lay does, by parts. Printed by gen/makelay.py. -/
namespace Go.Proofs.YtknhfobcejpmeaaGreatDoor
open Go.RowKit Go.Deep
set_option linter.unusedVariables false
set_option linter.unusedSimpArgs false

/-- the rows as values -/
structure RowsVs (w : World) (B : Nat) (v : Value) (rows : List (List Ir.Op)) (vs : List Value) : Prop where
  len : vs.length = rows.length
  own : w.ownsRow B 23 1 v rows.length vs
  each : ∀ j, j < rows.length → OpsOwn w B (rows.getD j []) (vs.getD j (.slice none 0 0))
  dist : ∀ i j, i < rows.length → j < rows.length → i ≠ j → ∀ g, (vs.getD i (.slice none 0 0)).ownBlock = some g → ¬ (vs.getD j (.slice none 0 0)).ownBlock = some g
theorem RowsDist.vs {w : World} {B : Nat} {v : Value} {rows : List (List Ir.Op)} (h : RowsDist w B v rows) : ∃ vs, RowsVs w B v rows vs := by
  obtain ⟨vs, h1, h2, h3, h4⟩ := h
  exact ⟨vs, h1, h2, h3, h4⟩
theorem RowsVs.rows {w : World} {B : Nat} {v : Value} {rows : List (List Ir.Op)} {vs : List Value} (h : RowsVs w B v rows vs) : RowsDist w B v rows := ⟨vs, h.len, h.own, h.each, h.dist⟩
theorem RowsVs.quiet {w w' : World} {B : Nat} {v : Value} {rows : List (List Ir.Op)} {vs : List Value} (h : RowsVs w B v rows vs) (k : Keeps (fun _ => False) w w') : RowsVs w' B v rows vs :=
  ⟨h.len, owns_keep h.own k (fun _ _ h => h), fun j hj => (h.each j hj).keepS k (fun _ _ h => h), h.dist⟩
theorem RowsVs.lt {w : World} {B : Nat} {v : Value} {rows : List (List Ir.Op)} {vs : List Value} (h : RowsVs w B v rows vs) (j : Nat) (b : Nat) (hb : (vs.getD j (.slice none 0 0)).ownBlock = some b) : b < w.heap.size := by
  by_cases hj : j < rows.length
  · obtain ⟨A, c, e, ho⟩ := h.each j hj
    exact (ho.lt b hb).2
  · have e : vs.getD j (.slice none 0 0) = .slice none 0 0 := by
      have := h.len
      rw [List.getD_eq_getElem?_getD, List.getElem?_eq_none (by omega)]
      rfl
    rw [e] at hb
    cases hb
theorem RowsVs.snoc {w w3 : World} {B : Nat} {v v' : Value} {rows : List (List Ir.Op)} {vs : List Value} (h : RowsVs w B v rows vs) (hk : Keeps (fun k => v.ownBlock = some k) w w3) (hown : w3.ownsRow B 23 1 v' (rows.length + 1) (vs ++ [Value.slice none 0 0])) : RowsVs w3 B v' (rows ++ [[]]) (vs ++ [Value.slice none 0 0]) := by
  obtain ⟨h1, h2, h3, h4⟩ := rows_snoc h.len h.own h.each h.dist hk hown
  exact ⟨h1, h2, h3, h4⟩
theorem RowsVs.keep {S : Nat → Prop} {w w' : World} {B : Nat} {v : Value} {rows : List (List Ir.Op)} {vs : List Value} (h : RowsVs w B v rows vs) (k : Keeps S w w') (hs : ∀ g c t fz, w.heap[g]? = some (.cells c t fz) → (t = 23 ∨ t = 100) → B ≤ g → ¬ S g) : RowsVs w' B v rows vs := by
  refine ⟨h.len, owns_keep h.own k (fun g hg => ?_), fun j hj => (h.each j hj).keepS k (fun g hg => ?_), h.dist⟩
  · obtain ⟨c, hc⟩ := owns_typed h.own hg
    exact hs g c _ _ hc (.inl rfl) (h.own.lt g hg).1
  · obtain ⟨A, cap, e, ho⟩ := h.each j hj
    obtain ⟨c, hc⟩ := owns_typed ho hg
    exact hs g c _ _ hc (.inr rfl) (ho.lt g hg).1
theorem MakerAt.setSt {w : World} {B x bw br N : Nat} {v : Value} {m : Ir.Mk} (M : MakerAt w B x bw br N v m) (z : Int) (k : Nat) (hz : z = (k : Int) - 1) : MakerAt (w.setCell ⟨x, 3, none⟩ (.int .i64 z)) B x bw br N v { m with st := k } := by
  subst hz
  refine M.turn (Keeps.one _ _ _ _) ?_ rfl rfl rfl
  have := set_block M.blk 3 (.int .i64 ((k : Int) - 1))
  simpa [mkC] using this
theorem MakerAt.setLd {w : World} {B x bw br N : Nat} {v : Value} {m : Ir.Mk} (M : MakerAt w B x bw br N v m) (z : Int) (k : Nat) (hz : z = (k : Int) - 1) : MakerAt (w.setCell ⟨x, 4, none⟩ (.int .i64 z)) B x bw br N v { m with ld := k } := by
  subst hz
  refine M.turn (Keeps.one _ _ _ _) ?_ rfl rfl rfl
  have := set_block M.blk 4 (.int .i64 ((k : Int) - 1))
  simpa [mkC] using this
theorem MakerAt.setLv {w : World} {B x bw br N : Nat} {v : Value} {m : Ir.Mk} (M : MakerAt w B x bw br N v m) (z : Int) (k : Nat) (hz : z = (k : Int)) : MakerAt (w.setCell ⟨x, 5, none⟩ (.int .i64 z)) B x bw br N v { m with leave := k } := by
  subst hz
  refine M.turn (Keeps.one _ _ _ _) ?_ rfl rfl rfl
  have := set_block M.blk 5 (.int .i64 (k : Int))
  simpa [mkC] using this
theorem MakerAt.setFs {w : World} {B x bw br N : Nat} {v : Value} {m : Ir.Mk} (M : MakerAt w B x bw br N v m) (z : Int) (k : Nat) (hz : z = (k : Int)) : MakerAt (w.setCell ⟨x, 6, none⟩ (.int .i64 z)) B x bw br N v { m with first := k } := by
  subst hz
  refine M.turn (Keeps.one _ _ _ _) ?_ rfl rfl rfl
  have := set_block M.blk 6 (.int .i64 (k : Int))
  simpa [mkC] using this
/-- the maker behind an append to its rows, its cell set -/
theorem MakerAt.setRows {w w3 : World} {B x bw br N : Nat} {v v' : Value} {m : Ir.Mk} {rows : List (List Ir.Op)} {vs3 : List Value} (M : MakerAt w B x bw br N v m) (hk : Keeps (fun k => v.ownBlock = some k) w w3) (hr : RowsVs w3 B v' rows vs3) :
    MakerAt (w3.setCell ⟨x, 0, none⟩ v') B x bw br N v' { m with rows := rows } ∧ w3.frozen? ⟨x, 0, none⟩ = false ∧ w3.cell? ⟨x, 0, none⟩ = some v ∧ RowsVs (w3.setCell ⟨x, 0, none⟩ v') B v' rows vs3 := by
  obtain ⟨vs, hvs⟩ := M.rows.vs
  have hx : ∀ b c T, w.heap[b]? = some (.cells c T (0, 0)) → T ≠ 23 → ¬ v.ownBlock = some b := fun b c T hb hT e => by
    obtain ⟨c2, h2⟩ := owns_typed hvs.own e
    rw [hb] at h2
    injection h2 with h2
    injection h2 with _ h3
    exact hT h3
  have hm : ∀ b es c, w.heap[b]? = some (.map es c) → ¬ v.ownBlock = some b := fun b es c hb e => by
    obtain ⟨c2, h2⟩ := owns_typed hvs.own e
    rw [hb] at h2
    injection h2 with h2
    cases h2
  obtain ⟨es1, c1, b1⟩ := M.wr.blk
  obtain ⟨es2, c2, b2⟩ := M.rd.blk
  have hb3 : w3.heap[x]? = some (.cells (mkC v bw br m) 106 (0, 0)) := (hk.block x (Array.getElem?_eq_some_iff.1 M.blk).1 (hx x _ _ M.blk maker_ne.1)).trans M.blk
  have k3 : Keeps (· = x) w3 (w3.setCell ⟨x, 0, none⟩ v') := Keeps.one _ _ _ _
  have hr4 : RowsVs (w3.setCell ⟨x, 0, none⟩ v') B v' rows vs3 := hr.keep k3 (fun g c t fz hg ht _ e => by
    have e : g = x := e
    subst e
    rw [hb3] at hg
    injection hg with hg
    injection hg with _ e2
    rcases ht with rfl | rfl
    · exact maker_ne.1 e2
    · exact maker_ne.2 e2)
  refine ⟨⟨?_, M.low, hr4.rows, (M.wr.keep hk (hm _ _ _ b1)).keep k3 (fun e => M.ne_map.1 e.symm), (M.rd.keep hk (hm _ _ _ b2)).keep k3 (fun e => M.ne_map.2 e.symm)⟩, frozen_of_block hb3 0, ?_, hr4⟩
  · have := set_block hb3 0 v'
    simpa [mkC] using this
  · unfold World.cell?; rw [hb3]; rfl
/-- the maker behind an op's append to a row of its -/
theorem MakerAt.putRow {w w1 w2 : World} {B x bw br N g n cap k : Nat} {u : Value} {m : Ir.Mk} {l : List Ir.Op} {vs : List Value} (M : MakerAt w B x bw br N (.slice (some ⟨g, 0, none⟩) n cap) m) (hn : m.rows.length = n) (H : RowsVs w B (.slice (some ⟨g, 0, none⟩) n cap) m.rows vs) (hk : k < m.rows.length)
    (k1 : Keeps (fun _ => False) w w1) (k2 : Keeps (fun b => (vs.getD k (.slice none 0 0)).ownBlock = some b) w1 w2) (hu : OpsOwn w2 B l u) (hmv : Moved w1 (vs.getD k (.slice none 0 0)) u) :
    MakerAt (w2.setCell ⟨g, k, none⟩ u) B x bw br N (.slice (some ⟨g, 0, none⟩) n cap) { m with rows := m.rows.set k l } ∧ w2.frozen? ⟨g, k, none⟩ = false ∧ w2.cell? ⟨g, k, none⟩ = some (vs.getD k (.slice none 0 0)) ∧
    Keeps (fun b => (vs.getD k (.slice none 0 0)).ownBlock = some b ∨ b = g) w (w2.setCell ⟨g, k, none⟩ u) := by
  obtain ⟨h1, h2, h3⟩ := RowsDist.put (rows := m.rows) (n := n) H.len (by have := H.own; rwa [hn] at this) hn H.each H.dist hk k1 k2 hu hmv
  have kk : Keeps (fun b => (vs.getD k (.slice none 0 0)).ownBlock = some b ∨ b = g) w (w2.setCell ⟨g, k, none⟩ u) :=
    ((k1.mono (fun _ _ h => h.elim)).trans k2 (fun _ _ h => .inl h)).trans (Keeps.one _ _ _ _) (fun _ _ h => .inr h)
  have hx : ∀ b c T, w.heap[b]? = some (.cells c T (0, 0)) → T ≠ 23 → T ≠ 100 → ¬ ((vs.getD k (.slice none 0 0)).ownBlock = some b ∨ b = g) := fun b c T hb hT hT2 e => by
    rcases e with e | e
    · obtain ⟨A, c2, e2, ho⟩ := H.each k hk
      obtain ⟨c3, h3⟩ := owns_typed ho e
      rw [hb] at h3
      injection h3 with h3
      injection h3 with _ h3
      exact hT2 h3
    · subst e
      obtain ⟨c2, h2⟩ := owns_typed H.own (g := b) rfl
      rw [hb] at h2
      injection h2 with h2
      injection h2 with _ h3
      exact hT h3
  have hm : ∀ b es c, w.heap[b]? = some (.map es c) → ¬ ((vs.getD k (.slice none 0 0)).ownBlock = some b ∨ b = g) := fun b es c hb e => by
    rcases e with e | e
    · obtain ⟨A, c2, e2, ho⟩ := H.each k hk
      obtain ⟨c3, h3⟩ := owns_typed ho e
      rw [hb] at h3
      injection h3 with h3
      cases h3
    · subst e
      obtain ⟨c2, h2⟩ := owns_typed H.own (g := b) rfl
      rw [hb] at h2
      injection h2 with h2
      cases h2
  obtain ⟨es1, c1, b1⟩ := M.wr.blk
  obtain ⟨es2, c2, b2⟩ := M.rd.blk
  exact ⟨⟨(kk.block x (Array.getElem?_eq_some_iff.1 M.blk).1 (hx x _ _ M.blk maker_ne.1 maker_ne.2)).trans M.blk, M.low, h1, M.wr.keep kk (hm _ _ _ b1), M.rd.keep kk (hm _ _ _ b2)⟩, h2, h3, kk⟩
namespace Ir
theorem contains_snoc (l : List Int) (a n : Int) : (l ++ [a]).contains n = (l.contains n || n == a) := by
  rw [List.contains_append, List.contains_cons]
  simp
/-- what is read, so far -/
def rdUp (m : Mk) (k : Nat) (l : List Int) : Int → Option Nat := fun n => if l.contains n = true then some (max ((m.read n).getD 0) k) else m.read n
theorem rdUp_step (m : Mk) (k : Nat) (rs : List Int) (i : Nat) (h : i < rs.length) : rdUp m k (rs.take (i + 1)) = fun j => if j = rs.getD i 0 then some (max ((rdUp m k (rs.take i) (rs.getD i 0)).getD 0) k) else rdUp m k (rs.take i) j := by
  have e : rs.getD i 0 = rs[i] := by simp [List.getD, h]
  rw [e]
  funext j
  unfold rdUp
  rw [List.take_succ_eq_append_getElem h, contains_snoc]
  by_cases hj : j = rs[i]
  · subst hj
    rw [if_pos (by simp), if_pos rfl]
    by_cases hc : (rs.take i).contains rs[i] = true
    · rw [if_pos hc]
      simp
    · rw [if_neg hc]
  · rw [if_neg hj]
    have : (j == rs[i]) = false := by simpa using hj
    rw [this, Bool.or_false]
theorem rdUp_lim {m : Mk} {k L : Nat} (h : ∀ n r, m.read n = some r → r < L) (hk : k < L) (l : List Int) (n : Int) : (rdUp m k l n).getD 0 < L := by
  unfold rdUp
  have h0 : (m.read n).getD 0 < L := by
    cases hr : m.read n with
    | none => exact Nat.lt_of_le_of_lt (Nat.zero_le _) hk
    | some r => exact h n r hr
  split
  · exact Nat.max_lt.2 ⟨h0, hk⟩
  · exact h0
theorem layRows_set {rows : List (List Op)} {k : Nat} {o : Op} (h : k < rows.length) : rows.set k (rows.getD k [] ++ [o]) = layRows rows k o := by
  unfold layRows
  rw [if_pos h]
theorem layRows_snoc {rows : List (List Op)} {k : Nat} {o : Op} (h : k = rows.length) : (rows ++ [[]]).set k ((rows ++ [[]]).getD k [] ++ [o]) = layRows rows k o := by
  unfold layRows
  subst h
  rw [if_neg (Nat.lt_irrefl _), getD_snoc_eq, List.set_append_right _ _ (Nat.le_refl _), Nat.sub_self]
  rfl
end Ir
end Go.Proofs.YtknhfobcejpmeaaGreatDoor
