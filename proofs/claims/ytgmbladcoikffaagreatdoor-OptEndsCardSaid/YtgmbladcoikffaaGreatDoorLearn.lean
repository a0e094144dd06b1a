
/- The walks of learn, foldable. -/
import Derived.Test.YtgmbladcoikffaaGreatDoorFacts
namespace Go.Proofs.YtgmbladcoikffaaGreatDoor
open Go.RowKit Go.Deep
set_option linter.unusedVariables false
set_option linter.unusedSimpArgs false

theorem writes_rng {o : Ir.Op} (h : OpOk o) : i64R (Ir.writes o) := by
  unfold Ir.writes
  split
  · exact h.d
  · exact ⟨by decide, by decide⟩
theorem keeps_map {w w' : World} {b : Nat} (h : w.mapTurned w' b) : Keeps (· = b) w w' := (Keeps.refl _ w).grown h.grown (fun k e _ => by injection e with e; exact e.symm)
set_option maxHeartbeats 2000000 in
set_option maxRecDepth 100000 in
theorem learn_any (b cnt : Nat) (f : Ir.Facts) (o : Ir.Op) (w : World) (F : FactsAt w b cnt f) (hn : cnt < 1000000) (ho : OpOk o) :
    Calls Tryz.prog 95 #[.map (some b), .agg (opC o)] w fun e w' => e = .returned (.tuple #[]) ∧ FactsAt w' b (cnt + 1) (Ir.learn f o) ∧ Keeps (· = b) w w' := by
  have hwr := writes_rng ho
  have HW := Lib.hid (fun w => writes_any o w)
  have HF := Lib.hid F
  have hlt := F.lt
  have HL : Hid (Ir.learn f o = if Ir.writes o = 0 then f else fun n => if n = Ir.writes o then (if (Ir.kn o.k == 1) = true then some o.imm else none) else f n) := Lib.hid (by
    unfold Ir.learn
    simp only [beq_iff_eq])
  have HIM := Lib.hid ho.imm
  have HML := Lib.hid (show cnt < maxLen by unfold maxLen; omega)
  obtain ⟨wr, hw0⟩ : ∃ r, Ir.writes o = r := ⟨_, rfl⟩
  rw [hw0] at hwr HW HL
  clear hw0 ho F hn
  obtain ⟨k, d, a, bb, im, t⟩ := o
  simp only at HL HIM
  have h1 := is_set k
  have HN := Lib.hid (op_new w k d a bb im t 85)
  generalize (Ir.kn k == 1) = p1 at *
  generalize Ir.learn f ⟨k, d, a, bb, im, t⟩ = f2 at *
  simp only [opC] at HW ⊢
  have hkey := Maps.keyOf_int_mk Tryz.underlying3 (wf_i hwr)
  by_cases hz : wr = 0
  · have hz' : (wr != 0) = false := by simp [hz]
    have HR := Lib.hid (show f2 = f by rw [HL.out, if_pos hz])
    clear hz h1
    go_enter Tryz.func95, Tryz.ntmps95
    go_upto_region 1 with fail
    obtain ⟨hV, hK⟩ := HN.out
    generalize w.alloc _ = w1 at *
    generalize w.heap.size = x at *
    obtain ⟨v0, v1, v2, v3, v4, v5⟩ := hV
    simp only at v0 v1 v2 v3 v4 v5
    have HK := Lib.hid hK
    clear hK HN
    go_wp2_with fail
    refine (HW.out _).mono ?_
    rintro e w2 ⟨rfl, hk2⟩
    have HK2 := Lib.hid (HK.out.trans hk2 (fun _ _ h => h))
    clear v0 v1 v2 v3 v4 v5 hk2
    go_wp2_with fail
    refine bodyPost_end (results_none rfl _ _ _) rfl ⟨rfl, ?_, HK2.out.mono (fun _ _ h => h.elim)⟩
    rw [HR.out]
    obtain ⟨D, h1, h2⟩ := HF.out.keep HK2.out (fun h => h)
    exact ⟨D, h1.mono (by omega), h2⟩
  · have hz' : (wr != 0) = true := by simp [hz]
    have HR := Lib.hid (show f2 = fun n => if n = wr then (if p1 = true then some im else none) else f n by rw [HL.out, if_neg hz])
    clear hz
    go_enter Tryz.func95, Tryz.ntmps95
    go_upto_region 1 with fail
    obtain ⟨hV, hK⟩ := HN.out
    have hxb : w.heap.size ≠ b := by omega
    generalize w.alloc _ = w1 at *
    generalize w.heap.size = x at *
    have HV := Lib.hid hV
    obtain ⟨v0, v1, v2, v3, v4, v5⟩ := hV
    simp only at v0 v1 v2 v3 v4 v5
    have HK := Lib.hid hK
    clear hK HN
    go_wp2_with fail
    refine (HW.out _).mono ?_
    rintro e w2 ⟨rfl, hk2⟩
    have HK2 := Lib.hid (HK.out.trans hk2 (fun _ _ h => h))
    have HV2 := Lib.hid (HV.out.keep hk2 (fun h => h))
    clear v0 v1 v2 v3 v4 v5 hk2
    obtain ⟨D, hown, hD⟩ := HF.out.keep HK2.out (fun h => h)
    have HD := Lib.hid hD
    clear hD
    go_upto_region 3 with fail
    cases p1
    · go_wp2_with (at_delete; refine wpList_delete_own _ rfl _ _ 154 3 rfl 22 mapK Tryz.underlying154 _ b cnt D rfl hown _ _ rfl hkey ?_; intro w3 hown3 hturn3; have hk3 := keeps_map hturn3; obtain ⟨u0, u1, u2, u3, u4, u5⟩ := HV2.out.keep hk3 hxb; simp only at u0 u1 u2 u3 u4 u5)
      refine bodyPost_end (results_none rfl _ _ _) rfl ⟨rfl, ?_, (HK2.out.mono (fun _ _ h => h.elim)).trans hk3 (fun _ _ h => h)⟩
      rw [HR.out]
      exact facts_del hwr HD.out (hown3.mono (by omega))
    · go_wp2_with (first
        | (at_delete; refine wpList_delete_own _ rfl _ _ 154 3 rfl 22 mapK Tryz.underlying154 _ b cnt D rfl hown _ _ rfl hkey ?_; intro w3 hown3 hturn3; have hk3 := keeps_map hturn3; obtain ⟨u0, u1, u2, u3, u4, u5⟩ := HV2.out.keep hk3 hxb; simp only at u0 u1 u2 u3 u4 u5)
        | (at_mapUpdate; refine wpList_mapUpdate_in _ rfl _ _ _ 154 rfl 3 22 mapK Tryz.underlying154 _ b cnt _ rfl hown3 HML.out _ _ _ rfl rfl hkey _ [] (plainElem_int Tryz.underlying22 (wf_u HIM.out)) ?_; intro w4 hown4 hturn4))
      have hk4 := keeps_map hturn4
      refine bodyPost_end (results_none rfl _ _ _) rfl ⟨rfl, ?_, ((HK2.out.mono (fun _ _ h => h.elim)).trans hk3 (fun _ _ h => h)).trans hk4 (fun _ _ h => h)⟩
      rw [HR.out]
      have := facts_put (d := wr) (v := im) hown3.isMap (f := fun k => if k = wr then none else f k) (fun k hk => by
        by_cases e : k = wr
        · subst e
          simp only [if_true]
          exact ⟨Maps.has_del_same, fun v hv => by cases hv⟩
        · simp only [if_neg e]
          rw [Maps.has_del_other (lit_ne e), Maps.atKey_del_other (lit_ne e)]
          exact HD.out k hk) hown4
      have e : (fun k => if k = wr then some im else (fun k => if k = wr then none else f k) k) = fun n => if n = wr then (if true = true then some im else none) else f n := by
        funext k
        by_cases h : k = wr <;> simp [h]
      rw [e] at this
      exact this
theorem foldable_c (f : Ir.Facts) (o : Ir.Op) : Ir.foldable f o = if (!Ir.isSum (Ir.kn o.k) || Ir.isDiv (Ir.kn o.k)) = true then false else (Ir.fof f o.a).isSome && (Ir.fof f o.b).isSome := by
  unfold Ir.foldable
  cases Ir.isSum (Ir.kn o.k) <;> cases Ir.isDiv (Ir.kn o.k) <;> simp
set_option maxHeartbeats 2000000 in
set_option maxRecDepth 100000 in
theorem foldable_any (b cnt : Nat) (f : Ir.Facts) (o : Ir.Op) (w : World) (F : FactsAt w b cnt f) (ho : OpOk o) :
    Calls Tryz.prog 94 #[.map (some b), .agg (opC o)] w fun e w' => e = .returned (.bool (Ir.foldable f o)) ∧ Keeps (fun _ => False) w w' := by
  have hr := foldable_c f o
  have HF := Lib.hid F
  have HA := Lib.hid ho.a
  have HB := Lib.hid ho.b
  obtain ⟨r, hr0⟩ : ∃ r, Ir.foldable f o = r := ⟨_, rfl⟩
  rw [hr0] at hr ⊢
  clear hr0 F ho
  obtain ⟨k, d, a, bb, im, t⟩ := o
  simp only at hr HA HB
  have HS := Lib.hid (fun w => sum_any k w)
  have HD := Lib.hid (fun w => div_any k w)
  have HN := Lib.hid (op_new w k d a bb im t 85)
  generalize Ir.isSum (Ir.kn k) = ps at *
  generalize Ir.isDiv (Ir.kn k) = pd at *
  have HR := Lib.hid hr
  clear hr
  unfold opC
  go_enter Tryz.func94, Tryz.ntmps94
  go_upto_region 1 with fail
  obtain ⟨hV, hK⟩ := HN.out
  generalize w.alloc _ = w1 at *
  generalize w.heap.size = x at *
  obtain ⟨v0, v1, v2, v3, v4, v5⟩ := hV
  simp only at v0 v1 v2 v3 v4 v5
  have HK := Lib.hid hK
  have HF1 := Lib.hid (HF.out.keep hK (fun h => h))
  clear hK HN
  go_wp2_with fail
  refine (HS.out _).mono ?_
  rintro e w' ⟨rfl, rfl⟩
  cases ps
  · go_wp2_with fail
    go_ret
    exact ⟨by rw [HR.out]; rfl, HK.out⟩
  · go_wp2_with fail
    refine (HD.out _).mono ?_
    rintro e w' ⟨rfl, rfl⟩
    cases pd
    · have hr := HR.out
      rw [if_neg (by decide)] at hr
      have HR2 := Lib.hid hr
      clear hr
      go_wp2_with fail
      refine (of_any b cnt f a _ HF1.out HA.out).mono ?_
      rintro e w' ⟨rfl, rfl⟩
      generalize Ir.fof f a = fa at *
      go_wp2_with fail
      refine (of_any b cnt f bb _ HF1.out HB.out).mono ?_
      rintro e w' ⟨rfl, rfl⟩
      generalize Ir.fof f bb = fb at *
      generalize fa.getD 0 = ga at *
      generalize fb.getD 0 = gb at *
      generalize fa.isSome = ia at *
      generalize fb.isSome = ib at *
      cases ia
      · go_wp2_with fail
        go_ret
        exact ⟨by rw [HR2.out]; rfl, HK.out⟩
      · go_wp2_with fail
        go_ret
        exact ⟨by rw [HR2.out]; rfl, HK.out⟩
    · go_wp2_with fail
      go_ret
      exact ⟨by rw [HR.out]; rfl, HK.out⟩
end Go.Proofs.YtgmbladcoikffaaGreatDoor
