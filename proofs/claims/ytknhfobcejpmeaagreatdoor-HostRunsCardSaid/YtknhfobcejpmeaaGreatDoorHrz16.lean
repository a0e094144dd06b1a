import Derived.Test.YtknhfobcejpmeaaGreatDoorHrz15

/- HostRead1 -/
/- The walk of host.read. Printed by gen/hostread.py. -/
namespace Go.Proofs.YtknhfobcejpmeaaGreatDoor
open Go.RowKit Go.Deep
set_option linter.unusedVariables false
set_option linter.unusedSimpArgs false

set_option maxHeartbeats 8000000 in
set_option maxRecDepth 100000 in
theorem read_overp (B mb r pb pw ph cp : Nat) (c : Ir.Mc) (m : Nat → Int) (W : Int → Bool) (k : ByteArray) (d a b im t : Int) (w : World) (ea : Nat → Addr) (E : Errs3 w ea) (M : MachAt w B mb r c) (R : RamAt w r pb pw ph cp m) (hW : WatchAt w pw W)
    (hok : Ir.McOk W c) (hi : Ir.OpIn ⟨k, d, a, b, im, t⟩) (hk : Ir.kn k = 3) (hB : B ≤ w.heap.size) :
    Calls Tryz.prog 97 #[.pointer (some ⟨mb, 0, none⟩), .agg #[.string k, .int .i64 d, .int .i64 a, .int .i64 b, .int .u32 im, .int .i64 t]] w (ReadIs w c.X (Ir.pend m c.ws) W ⟨k, d, a, b, im, t⟩) := by
  obtain ⟨_, hid, hia, hib, hil, his, him⟩ := hi
  simp only at hid hia hib hil his him
  obtain ⟨ka, rfl⟩ := Int.eq_ofNat_of_zero_le hia.1
  have hka : ka < 64 := by omega
  have hza : (ka : Int) < 64 := by omega
  obtain ⟨kb, rfl⟩ := Int.eq_ofNat_of_zero_le (hib (by omega)).1
  have hkb : kb < 64 := by have := hib (by omega); omega
  have hzb : (kb : Int) < 64 := by omega
  have HK := Ir.kinds k 3 hk
  simp only [Nat.reduceBEq] at HK
  obtain ⟨k1, k2, k3, k4, k5, k6, k7, k8, k9, _⟩ := HK
  have k5n : (k.toList != [108, 111, 97, 100]) = true := by rw [bne, k5]; rfl
  have HPL0 := Lib.hid (show Ir.hv c.X (Ir.pend m c.ws) ⟨k, d, (ka : Int), (kb : Int), im, t⟩ = 0 ∧ Ir.ha c.X ⟨k, d, (ka : Int), (kb : Int), im, t⟩ = 0 ∧ (Ir.resOf c.X (Ir.pend m c.ws) W ⟨k, d, (ka : Int), (kb : Int), im, t⟩).trap = Ir.overV (Ir.kn k) (c.X ka) (c.X kb) by
    unfold Ir.hv Ir.ha Ir.resOf
    simp [hk, Ir.rg])
  have HN := Lib.hid (ReadBox.new w k d ka (kb : Int) im t 100)
  have HM := Lib.hid M
  have HE := Lib.hid E
  have HR := Lib.hid R
  have HW := Lib.hid hW
  have HOK := Lib.hid hok
  have xa := hok.X ka hka
  have HBW := Lib.hid (fun (w' : World) (kk : Keeps (fun _ => False) w w') => Nat.le_trans hB kk.size)
  clear M E R hW hok hid hia hib hil his hk
  go_enter Tryz.func97, Tryz.ntmps97
  go_upto_region 1 with fail
  have hN := HN.out
  clear HN
  generalize (w.alloc _).alloc _ = w1 at *
  generalize w.heap.size + 1 = y at *
  obtain ⟨x, hx⟩ : ∃ x, w.heap.size = x := ⟨_, rfl⟩
  rw [hx] at hN ⊢
  clear hx
  have HB1 := Lib.hid hN
  have HM1 := Lib.hid (HM.out.keep hN.k (fun _ _ h => h))
  clear hN
  obtain ⟨v0, v1, v2, v3, v4, v5⟩ := HB1.out.op
  simp only at v0 v1 v2 v3 v4 v5
  obtain ⟨m0, _⟩ := HM1.out.reg ka hka
  go_quiet (fail)
  generalize hwd : World.drewN w1 _ = w2
  have hkd : Keeps (fun _ => False) w1 w2 := by rw [← hwd]; exact Keeps.of_drewN _ _ _
  have HB2 := Lib.hid (HB1.out.keep hkd)
  have HM2 := Lib.hid (HM1.out.keep hkd (fun _ _ h => h))
  clear hwd hkd m0 v0 v1 v2 v3 v4 v5
  obtain ⟨v0, v1, v2, v3, v4, v5⟩ := HB2.out.op
  simp only at v0 v1 v2 v3 v4 v5
  have xb := HOK.out.X kb hkb
  obtain ⟨m0, _⟩ := HM2.out.reg kb hkb
  go_upto_region 3 with fail
  go_quiet (fail)
  generalize hwd : World.drewN w2 _ = w3
  have hkd : Keeps (fun _ => False) w2 w3 := by rw [← hwd]; exact Keeps.of_drewN _ _ _
  have HB3 := Lib.hid (HB2.out.keep hkd)
  have HM3 := Lib.hid (HM2.out.keep hkd (fun _ _ h => h))
  clear hwd hkd m0 v0 v1 v2 v3 v4 v5
  obtain ⟨v0, v1, v2, v3, v4, v5⟩ := HB3.out.op
  simp only at v0 v1 v2 v3 v4 v5
  have hN4 := HBox.new w3 ⟨k, d, (ka : Int), (kb : Int), im, t⟩ 0 0
  have hka4 := (Keeps.refl (fun _ => False) w3).alloc (.cells (hresC ⟨k, d, (ka : Int), (kb : Int), im, t⟩ 0 0) 176)
  simp only [hresC] at hN4 hka4
  have HN4 := Lib.hid hN4
  have HKA4 := Lib.hid hka4
  clear hN4 hka4
  go_upto_region 5 with fail
  have HB4 := Lib.hid (HB3.out.keep HKA4.out)
  have HM4 := Lib.hid (HM3.out.keep HKA4.out (fun _ _ h => h))
  have HX4 := Lib.hid HN4.out
  have HZW := Lib.hid (show w.heap.size ≤ w3.heap.size ∧ x < w3.heap.size ∧ y < w3.heap.size ∧ mb < w3.heap.size from ⟨HB3.out.k.size, (match HB3.out.op with | ⟨h, _, _, _, _, _⟩ => cell_ltH h), HB3.out.res.lt, HM3.out.lt⟩)
  have HMZ := Lib.hid (fun w' (kk : Keeps (fun b => b = w3.heap.size) (w3.alloc (.cells #[.string k, .int .i64 d, .int .i64 (ka : Int), .int .i64 (kb : Int), .int .u32 im, .int .i64 t, .int .u32 0, .int .u32 0] 176)) w') => HM3.out.keepZ ((HKA4.out.mono (T := fun b => b = w3.heap.size) (fun _ _ h => h.elim)).trans kk (fun _ _ h => h)) (fun b hb e => by have e : b = w3.heap.size := e; omega))
  clear HKA4 HN4
  clear v0 v1 v2 v3 v4 v5
  generalize w3.alloc _ = w4 at *
  generalize w3.heap.size = z at *
  obtain ⟨v0, v1, v2, v3, v4, v5⟩ := HB4.out.op
  simp only at v0 v1 v2 v3 v4 v5
  obtain ⟨⟨z0, z1, z2, z3, z4, z5, z6, z7⟩, zf⟩ := HX4.out.cells
  simp only at z0 z1 z2 z3 z4 z5 z6 z7
  have HOV := Lib.hid (fun w => over_any k (c.X ka) (c.X kb) w xa xb)
  obtain ⟨ov, hov⟩ : ∃ o, Ir.overV (Ir.kn k) (c.X ka) (c.X kb) = o := ⟨_, rfl⟩
  have HOVE := Lib.hid hov
  rw [hov] at HOV
  have HPL := Lib.hid (show Ir.hv c.X (Ir.pend m c.ws) ⟨k, d, (ka : Int), (kb : Int), im, t⟩ = 0 ∧ Ir.ha c.X ⟨k, d, (ka : Int), (kb : Int), im, t⟩ = 0 ∧ (Ir.resOf c.X (Ir.pend m c.ws) W ⟨k, d, (ka : Int), (kb : Int), im, t⟩).trap = !(!ov) from ⟨HPL0.out.1, HPL0.out.2.1, by rw [HPL0.out.2.2, hov, Bool.not_not]⟩)
  clear hov HPL0
  have HNE := Lib.hid (show ¬ z = y ∧ ¬ x = y from ⟨by have := HZW.out; omega, HB4.out.ne⟩)
  obtain ⟨⟨y0, y1, y2, y3, y4, y5, y6, y7⟩, gf⟩ := HB4.out.res.cells
  simp only at y0 y1 y2 y3 y4 y5 y6 y7
  have HQD := Lib.hid (HB4.out.res.put (o' := ⟨k, d, (ka : Int), (kb : Int), im, t⟩) (v' := 0) (a' := 0))
  go_upto_region 13 with fail
  refine wp_region_held_drew (S := fun w' => Keeps (fun b => b = y) w4 w') (by kernel_rfl) (Keeps.refl _ w4).drew (fun hH0 => ?_)
  refine wpAnyH_take (i := 0) (v := ?_) rfl (by kernel_rfl) (by kernel_rfl) (by kernel_rfl) (fun _ _ _ h => h) (Or.inl ⟨by go_simp, ?_⟩) hH0 ?_
  rotate_left
  · intro w' hSw
    have q0 := Keeps.cell' hSw z0 HNE.out.1
    have q1 := Keeps.cell' hSw z1 HNE.out.1
    have q2 := Keeps.cell' hSw z2 HNE.out.1
    have q3 := Keeps.cell' hSw z3 HNE.out.1
    have q4 := Keeps.cell' hSw z4 HNE.out.1
    have q5 := Keeps.cell' hSw z5 HNE.out.1
    have q6 := Keeps.cell' hSw z6 HNE.out.1
    have q7 := Keeps.cell' hSw z7 HNE.out.1
    go_simp
    try with_reducible rfl
  simp only [Act.put, List.setIfInBounds_toArray, List.set_cons_zero, List.set_cons_succ]
  refine wpAnyH_take (i := 1) (v := ?_) rfl (by kernel_rfl) (by kernel_rfl) (by kernel_rfl) (fun _ _ _ h => h) (Or.inl ⟨by go_simp, ?_⟩) hH0 ?_
  rotate_left
  · intro w' hSw
    go_simp
    try with_reducible rfl
  simp only [Act.put, List.setIfInBounds_toArray, List.set_cons_zero, List.set_cons_succ]
  refine wpAnyH_take (i := 2) (v := ?_) rfl (by kernel_rfl) (by kernel_rfl) (by kernel_rfl) (fun _ _ _ h => h) (Or.inl ⟨by go_simp, ?_⟩) hH0 ?_
  rotate_left
  · intro w' hSw
    have q0 := Keeps.cell' hSw v0 HNE.out.2
    go_simp
    try with_reducible rfl
  simp only [Act.put, List.setIfInBounds_toArray, List.set_cons_zero, List.set_cons_succ]
  refine wpAnyH_take (i := 3) (v := ?_) rfl (by kernel_rfl) (by kernel_rfl) (by kernel_rfl) (fun _ _ _ h => h) (Or.inl ⟨by go_simp, ?_⟩) hH0 ?_
  rotate_left
  · intro w' hSw
    go_simp
    try with_reducible rfl
  simp only [Act.put, List.setIfInBounds_toArray, List.set_cons_zero, List.set_cons_succ]
  refine wpAnyH_take (i := 4) (v := ?_) rfl (by kernel_rfl) (by kernel_rfl) (by kernel_rfl) (fun _ _ _ h => h) (Or.inl ⟨by go_simp, ?_⟩) hH0 ?_
  rotate_left
  · intro w' hSw
    go_simp
    try with_reducible rfl
  simp only [Act.put, List.setIfInBounds_toArray, List.set_cons_zero, List.set_cons_succ]
  refine wpAnyH_ready (rs := [5]) (by kernel_rfl) (by simp) ?_
  refine AllReadyH.cons rfl (fun K hK => ?_) AllReadyH.nil
  go_simp
  refine (HOV.out _).mono ?_
  rintro e w5 ⟨rfl, rfl⟩
  go_wp2_with fail
  have hH1 := hH0
  refine hK.out _ _ hH1 (fun _ => ?_)
  clear hK K
  try simp only [Act.put, List.setIfInBounds_toArray, List.set_cons_zero, List.set_cons_succ]
  refine wpAnyH_take (i := 6) (v := ?_) rfl (by kernel_rfl) (by kernel_rfl) (by kernel_rfl) (fun _ _ _ h => h) (Or.inl ⟨by go_simp, ?_⟩) hH1 ?_
  rotate_left
  · intro w' hSw
    go_simp
    try with_reducible rfl
  simp only [Act.put, List.setIfInBounds_toArray, List.set_cons_zero, List.set_cons_succ]
  refine wpAnyH_ready (rs := [7]) (by kernel_rfl) (by simp) ?_
  refine AllReadyH.cons rfl (fun K hK => ?_) AllReadyH.nil
  go_simp
  refine hK.out _ _ HQD.out.2.drew (fun _ => ?_)
  clear hK K
  try simp only [Act.put, List.setIfInBounds_toArray, List.set_cons_zero, List.set_cons_succ]
  refine wpAnyH_ready (rs := [8]) (by kernel_rfl) (by simp) ?_
  refine AllReadyH.cons rfl (fun K hK => ?_) AllReadyH.nil
  go_simp
  refine hK.out _ _ HQD.out.2.drew (fun _ => ?_)
  clear hK K
  try simp only [Act.put, List.setIfInBounds_toArray, List.set_cons_zero, List.set_cons_succ]
  refine wpAnyH_done (by kernel_rfl) ?_ _
  go_wp2_with fail
  refine bodyPost_ret (results_hres rfl _ _ y ⟨k, d, (ka : Int), (kb : Int), im, t⟩ 0 0 rfl (HQD.out.1.keep ((Keeps.refl (fun _ => False) _).drew) (fun h => h))) rfl ?_
  exact ReadIs.of (t := !ov) HPL.out.1 HPL.out.2.1 HPL.out.2.2 HB4.out.k HB4.out.low HQD.out.2.drew
set_option maxHeartbeats 8000000 in
set_option maxRecDepth 100000 in
theorem read_overm (B mb r pb pw ph cp : Nat) (c : Ir.Mc) (m : Nat → Int) (W : Int → Bool) (k : ByteArray) (d a b im t : Int) (w : World) (ea : Nat → Addr) (E : Errs3 w ea) (M : MachAt w B mb r c) (R : RamAt w r pb pw ph cp m) (hW : WatchAt w pw W)
    (hok : Ir.McOk W c) (hi : Ir.OpIn ⟨k, d, a, b, im, t⟩) (hk : Ir.kn k = 4) (hB : B ≤ w.heap.size) :
    Calls Tryz.prog 97 #[.pointer (some ⟨mb, 0, none⟩), .agg #[.string k, .int .i64 d, .int .i64 a, .int .i64 b, .int .u32 im, .int .i64 t]] w (ReadIs w c.X (Ir.pend m c.ws) W ⟨k, d, a, b, im, t⟩) := by
  obtain ⟨_, hid, hia, hib, hil, his, him⟩ := hi
  simp only at hid hia hib hil his him
  obtain ⟨ka, rfl⟩ := Int.eq_ofNat_of_zero_le hia.1
  have hka : ka < 64 := by omega
  have hza : (ka : Int) < 64 := by omega
  obtain ⟨kb, rfl⟩ := Int.eq_ofNat_of_zero_le (hib (by omega)).1
  have hkb : kb < 64 := by have := hib (by omega); omega
  have hzb : (kb : Int) < 64 := by omega
  have HK := Ir.kinds k 4 hk
  simp only [Nat.reduceBEq] at HK
  obtain ⟨k1, k2, k3, k4, k5, k6, k7, k8, k9, _⟩ := HK
  have k5n : (k.toList != [108, 111, 97, 100]) = true := by rw [bne, k5]; rfl
  have HPL0 := Lib.hid (show Ir.hv c.X (Ir.pend m c.ws) ⟨k, d, (ka : Int), (kb : Int), im, t⟩ = 0 ∧ Ir.ha c.X ⟨k, d, (ka : Int), (kb : Int), im, t⟩ = 0 ∧ (Ir.resOf c.X (Ir.pend m c.ws) W ⟨k, d, (ka : Int), (kb : Int), im, t⟩).trap = Ir.overV (Ir.kn k) (c.X ka) (c.X kb) by
    unfold Ir.hv Ir.ha Ir.resOf
    simp [hk, Ir.rg])
  have HN := Lib.hid (ReadBox.new w k d ka (kb : Int) im t 100)
  have HM := Lib.hid M
  have HE := Lib.hid E
  have HR := Lib.hid R
  have HW := Lib.hid hW
  have HOK := Lib.hid hok
  have xa := hok.X ka hka
  have HBW := Lib.hid (fun (w' : World) (kk : Keeps (fun _ => False) w w') => Nat.le_trans hB kk.size)
  clear M E R hW hok hid hia hib hil his hk
  go_enter Tryz.func97, Tryz.ntmps97
  go_upto_region 1 with fail
  have hN := HN.out
  clear HN
  generalize (w.alloc _).alloc _ = w1 at *
  generalize w.heap.size + 1 = y at *
  obtain ⟨x, hx⟩ : ∃ x, w.heap.size = x := ⟨_, rfl⟩
  rw [hx] at hN ⊢
  clear hx
  have HB1 := Lib.hid hN
  have HM1 := Lib.hid (HM.out.keep hN.k (fun _ _ h => h))
  clear hN
  obtain ⟨v0, v1, v2, v3, v4, v5⟩ := HB1.out.op
  simp only at v0 v1 v2 v3 v4 v5
  obtain ⟨m0, _⟩ := HM1.out.reg ka hka
  go_quiet (fail)
  generalize hwd : World.drewN w1 _ = w2
  have hkd : Keeps (fun _ => False) w1 w2 := by rw [← hwd]; exact Keeps.of_drewN _ _ _
  have HB2 := Lib.hid (HB1.out.keep hkd)
  have HM2 := Lib.hid (HM1.out.keep hkd (fun _ _ h => h))
  clear hwd hkd m0 v0 v1 v2 v3 v4 v5
  obtain ⟨v0, v1, v2, v3, v4, v5⟩ := HB2.out.op
  simp only at v0 v1 v2 v3 v4 v5
  have xb := HOK.out.X kb hkb
  obtain ⟨m0, _⟩ := HM2.out.reg kb hkb
  go_upto_region 3 with fail
  go_quiet (fail)
  generalize hwd : World.drewN w2 _ = w3
  have hkd : Keeps (fun _ => False) w2 w3 := by rw [← hwd]; exact Keeps.of_drewN _ _ _
  have HB3 := Lib.hid (HB2.out.keep hkd)
  have HM3 := Lib.hid (HM2.out.keep hkd (fun _ _ h => h))
  clear hwd hkd m0 v0 v1 v2 v3 v4 v5
  obtain ⟨v0, v1, v2, v3, v4, v5⟩ := HB3.out.op
  simp only at v0 v1 v2 v3 v4 v5
  have hN4 := HBox.new w3 ⟨k, d, (ka : Int), (kb : Int), im, t⟩ 0 0
  have hka4 := (Keeps.refl (fun _ => False) w3).alloc (.cells (hresC ⟨k, d, (ka : Int), (kb : Int), im, t⟩ 0 0) 176)
  simp only [hresC] at hN4 hka4
  have HN4 := Lib.hid hN4
  have HKA4 := Lib.hid hka4
  clear hN4 hka4
  go_upto_region 5 with fail
  have HB4 := Lib.hid (HB3.out.keep HKA4.out)
  have HM4 := Lib.hid (HM3.out.keep HKA4.out (fun _ _ h => h))
  have HX4 := Lib.hid HN4.out
  have HZW := Lib.hid (show w.heap.size ≤ w3.heap.size ∧ x < w3.heap.size ∧ y < w3.heap.size ∧ mb < w3.heap.size from ⟨HB3.out.k.size, (match HB3.out.op with | ⟨h, _, _, _, _, _⟩ => cell_ltH h), HB3.out.res.lt, HM3.out.lt⟩)
  have HMZ := Lib.hid (fun w' (kk : Keeps (fun b => b = w3.heap.size) (w3.alloc (.cells #[.string k, .int .i64 d, .int .i64 (ka : Int), .int .i64 (kb : Int), .int .u32 im, .int .i64 t, .int .u32 0, .int .u32 0] 176)) w') => HM3.out.keepZ ((HKA4.out.mono (T := fun b => b = w3.heap.size) (fun _ _ h => h.elim)).trans kk (fun _ _ h => h)) (fun b hb e => by have e : b = w3.heap.size := e; omega))
  clear HKA4 HN4
  clear v0 v1 v2 v3 v4 v5
  generalize w3.alloc _ = w4 at *
  generalize w3.heap.size = z at *
  obtain ⟨v0, v1, v2, v3, v4, v5⟩ := HB4.out.op
  simp only at v0 v1 v2 v3 v4 v5
  obtain ⟨⟨z0, z1, z2, z3, z4, z5, z6, z7⟩, zf⟩ := HX4.out.cells
  simp only at z0 z1 z2 z3 z4 z5 z6 z7
  have HOV := Lib.hid (fun w => over_any k (c.X ka) (c.X kb) w xa xb)
  obtain ⟨ov, hov⟩ : ∃ o, Ir.overV (Ir.kn k) (c.X ka) (c.X kb) = o := ⟨_, rfl⟩
  have HOVE := Lib.hid hov
  rw [hov] at HOV
  have HPL := Lib.hid (show Ir.hv c.X (Ir.pend m c.ws) ⟨k, d, (ka : Int), (kb : Int), im, t⟩ = 0 ∧ Ir.ha c.X ⟨k, d, (ka : Int), (kb : Int), im, t⟩ = 0 ∧ (Ir.resOf c.X (Ir.pend m c.ws) W ⟨k, d, (ka : Int), (kb : Int), im, t⟩).trap = !(!ov) from ⟨HPL0.out.1, HPL0.out.2.1, by rw [HPL0.out.2.2, hov, Bool.not_not]⟩)
  clear hov HPL0
  have HNE := Lib.hid (show ¬ z = y ∧ ¬ x = y from ⟨by have := HZW.out; omega, HB4.out.ne⟩)
  obtain ⟨⟨y0, y1, y2, y3, y4, y5, y6, y7⟩, gf⟩ := HB4.out.res.cells
  simp only at y0 y1 y2 y3 y4 y5 y6 y7
  have HQD := Lib.hid (HB4.out.res.put (o' := ⟨k, d, (ka : Int), (kb : Int), im, t⟩) (v' := 0) (a' := 0))
  go_upto_region 13 with fail
  refine wp_region_held_drew (S := fun w' => Keeps (fun b => b = y) w4 w') (by kernel_rfl) (Keeps.refl _ w4).drew (fun hH0 => ?_)
  refine wpAnyH_take (i := 0) (v := ?_) rfl (by kernel_rfl) (by kernel_rfl) (by kernel_rfl) (fun _ _ _ h => h) (Or.inl ⟨by go_simp, ?_⟩) hH0 ?_
  rotate_left
  · intro w' hSw
    have q0 := Keeps.cell' hSw z0 HNE.out.1
    have q1 := Keeps.cell' hSw z1 HNE.out.1
    have q2 := Keeps.cell' hSw z2 HNE.out.1
    have q3 := Keeps.cell' hSw z3 HNE.out.1
    have q4 := Keeps.cell' hSw z4 HNE.out.1
    have q5 := Keeps.cell' hSw z5 HNE.out.1
    have q6 := Keeps.cell' hSw z6 HNE.out.1
    have q7 := Keeps.cell' hSw z7 HNE.out.1
    go_simp
    try with_reducible rfl
  simp only [Act.put, List.setIfInBounds_toArray, List.set_cons_zero, List.set_cons_succ]
  refine wpAnyH_take (i := 1) (v := ?_) rfl (by kernel_rfl) (by kernel_rfl) (by kernel_rfl) (fun _ _ _ h => h) (Or.inl ⟨by go_simp, ?_⟩) hH0 ?_
  rotate_left
  · intro w' hSw
    go_simp
    try with_reducible rfl
  simp only [Act.put, List.setIfInBounds_toArray, List.set_cons_zero, List.set_cons_succ]
  refine wpAnyH_take (i := 2) (v := ?_) rfl (by kernel_rfl) (by kernel_rfl) (by kernel_rfl) (fun _ _ _ h => h) (Or.inl ⟨by go_simp, ?_⟩) hH0 ?_
  rotate_left
  · intro w' hSw
    have q0 := Keeps.cell' hSw v0 HNE.out.2
    go_simp
    try with_reducible rfl
  simp only [Act.put, List.setIfInBounds_toArray, List.set_cons_zero, List.set_cons_succ]
  refine wpAnyH_take (i := 3) (v := ?_) rfl (by kernel_rfl) (by kernel_rfl) (by kernel_rfl) (fun _ _ _ h => h) (Or.inl ⟨by go_simp, ?_⟩) hH0 ?_
  rotate_left
  · intro w' hSw
    go_simp
    try with_reducible rfl
  simp only [Act.put, List.setIfInBounds_toArray, List.set_cons_zero, List.set_cons_succ]
  refine wpAnyH_take (i := 4) (v := ?_) rfl (by kernel_rfl) (by kernel_rfl) (by kernel_rfl) (fun _ _ _ h => h) (Or.inl ⟨by go_simp, ?_⟩) hH0 ?_
  rotate_left
  · intro w' hSw
    go_simp
    try with_reducible rfl
  simp only [Act.put, List.setIfInBounds_toArray, List.set_cons_zero, List.set_cons_succ]
  refine wpAnyH_ready (rs := [5]) (by kernel_rfl) (by simp) ?_
  refine AllReadyH.cons rfl (fun K hK => ?_) AllReadyH.nil
  go_simp
  refine (HOV.out _).mono ?_
  rintro e w5 ⟨rfl, rfl⟩
  go_wp2_with fail
  have hH1 := hH0
  refine hK.out _ _ hH1 (fun _ => ?_)
  clear hK K
  try simp only [Act.put, List.setIfInBounds_toArray, List.set_cons_zero, List.set_cons_succ]
  refine wpAnyH_take (i := 6) (v := ?_) rfl (by kernel_rfl) (by kernel_rfl) (by kernel_rfl) (fun _ _ _ h => h) (Or.inl ⟨by go_simp, ?_⟩) hH1 ?_
  rotate_left
  · intro w' hSw
    go_simp
    try with_reducible rfl
  simp only [Act.put, List.setIfInBounds_toArray, List.set_cons_zero, List.set_cons_succ]
  refine wpAnyH_ready (rs := [7]) (by kernel_rfl) (by simp) ?_
  refine AllReadyH.cons rfl (fun K hK => ?_) AllReadyH.nil
  go_simp
  refine hK.out _ _ HQD.out.2.drew (fun _ => ?_)
  clear hK K
  try simp only [Act.put, List.setIfInBounds_toArray, List.set_cons_zero, List.set_cons_succ]
  refine wpAnyH_ready (rs := [8]) (by kernel_rfl) (by simp) ?_
  refine AllReadyH.cons rfl (fun K hK => ?_) AllReadyH.nil
  go_simp
  refine hK.out _ _ HQD.out.2.drew (fun _ => ?_)
  clear hK K
  try simp only [Act.put, List.setIfInBounds_toArray, List.set_cons_zero, List.set_cons_succ]
  refine wpAnyH_done (by kernel_rfl) ?_ _
  go_wp2_with fail
  refine bodyPost_ret (results_hres rfl _ _ y ⟨k, d, (ka : Int), (kb : Int), im, t⟩ 0 0 rfl (HQD.out.1.keep ((Keeps.refl (fun _ => False) _).drew) (fun h => h))) rfl ?_
  exact ReadIs.of (t := !ov) HPL.out.1 HPL.out.2.1 HPL.out.2.2 HB4.out.k HB4.out.low HQD.out.2.drew
set_option maxHeartbeats 8000000 in
set_option maxRecDepth 100000 in
theorem read_load_ok (B mb r pb pw ph cp : Nat) (c : Ir.Mc) (m : Nat → Int) (W : Int → Bool) (k : ByteArray) (d a b im t : Int) (w : World) (ea : Nat → Addr) (E : Errs3 w ea) (M : MachAt w B mb r c) (R : RamAt w r pb pw ph cp m) (hW : WatchAt w pw W)
    (hok : Ir.McOk W c) (hi : Ir.OpIn ⟨k, d, a, b, im, t⟩) (hk : Ir.kn k = 5) (hrc : rightC (Ir.adr (Ir.rg c.X a) im) b.natAbs = 0) (hB : B ≤ w.heap.size) :
    Calls Tryz.prog 97 #[.pointer (some ⟨mb, 0, none⟩), .agg #[.string k, .int .i64 d, .int .i64 a, .int .i64 b, .int .u32 im, .int .i64 t]] w (ReadIs w c.X (Ir.pend m c.ws) W ⟨k, d, a, b, im, t⟩) := by
  obtain ⟨_, hid, hia, hib, hil, his, him⟩ := hi
  simp only at hid hia hib hil his him
  obtain ⟨ka, rfl⟩ := Int.eq_ofNat_of_zero_le hia.1
  have hka : ka < 64 := by omega
  have hza : (ka : Int) < 64 := by omega
  have hrc : rightC (Ir.adr (c.X ka) im) b.natAbs = 0 := hrc
  have HK := Ir.kinds k 5 hk
  simp only [Nat.reduceBEq] at HK
  obtain ⟨k1, k2, k3, k4, k5, k6, k7, k8, k9, _⟩ := HK
  have k5n : (k.toList != [108, 111, 97, 100]) = false := by rw [bne, k5]; rfl
  have hadr : 0 ≤ Ir.adr (c.X ka) im ∧ Ir.adr (c.X ka) im < 4294967296 := by unfold Ir.adr; omega
  have hbb := hil hk
  obtain ⟨n, hn⟩ : ∃ n, b.natAbs = n := ⟨_, rfl⟩
  have hn3 : n = 1 ∨ n = 2 ∨ n = 4 := by omega
  have hbn : b = n ∨ b = -n := by omega
  rw [hn] at hrc
  have HPL0 := Lib.hid (show Ir.hv c.X (Ir.pend m c.ws) ⟨k, d, (ka : Int), b, im, t⟩ = Ir.loadV m c.ws (Ir.adr (c.X ka) im) b ∧ Ir.ha c.X ⟨k, d, (ka : Int), b, im, t⟩ = 0 ∧ (Ir.resOf c.X (Ir.pend m c.ws) W ⟨k, d, (ka : Int), b, im, t⟩).trap = !true by
    unfold Ir.hv Ir.ha Ir.resOf Ir.loadV
    simp [hk, Ir.rg, hn, hrc])
  have HLD := Lib.hid (fun w' (kk : Keeps (fun _ => False) w w') (hM : MachAt w' B mb r c) => mload_any B mb r pb pw ph cp c m W (Ir.adr (c.X ka) im) b n w' ea (E.keep kk ⟨fun h => h, fun h => h, fun h => h⟩) hM (R.keep kk (fun h => h) (fun h => h)) hadr hn3 hbn (Nat.le_trans hB kk.size) hok hrc)
  obtain ⟨lv, hlv⟩ : ∃ v, Ir.loadV m c.ws (Ir.adr (c.X ka) im) b = v := ⟨_, rfl⟩
  rw [hlv] at HLD HPL0
  clear hlv
  have HPL := Lib.hid HPL0.out
  clear HPL0 hrc hn3 hbn hn hbb hadr
  have had : (c.X ka + im) % 4294967296 = Ir.adr (c.X ka) im := rfl
  generalize Ir.adr (c.X ka) im = ad at *
  have HN := Lib.hid (ReadBox.new w k d ka b im t 100)
  have HM := Lib.hid M
  have HE := Lib.hid E
  have HR := Lib.hid R
  have HW := Lib.hid hW
  have HOK := Lib.hid hok
  have xa := hok.X ka hka
  have HBW := Lib.hid (fun (w' : World) (kk : Keeps (fun _ => False) w w') => Nat.le_trans hB kk.size)
  clear M E R hW hok hid hia hib hil his hk
  go_enter Tryz.func97, Tryz.ntmps97
  go_upto_region 1 with fail
  have hN := HN.out
  clear HN
  generalize (w.alloc _).alloc _ = w1 at *
  generalize w.heap.size + 1 = y at *
  obtain ⟨x, hx⟩ : ∃ x, w.heap.size = x := ⟨_, rfl⟩
  rw [hx] at hN ⊢
  clear hx
  have HB1 := Lib.hid hN
  have HM1 := Lib.hid (HM.out.keep hN.k (fun _ _ h => h))
  clear hN
  obtain ⟨v0, v1, v2, v3, v4, v5⟩ := HB1.out.op
  simp only at v0 v1 v2 v3 v4 v5
  obtain ⟨m0, _⟩ := HM1.out.reg ka hka
  go_quiet (fail)
  generalize hwd : World.drewN w1 _ = w2
  have hkd : Keeps (fun _ => False) w1 w2 := by rw [← hwd]; exact Keeps.of_drewN _ _ _
  have HB2 := Lib.hid (HB1.out.keep hkd)
  have HM2 := Lib.hid (HM1.out.keep hkd (fun _ _ h => h))
  clear hwd hkd m0 v0 v1 v2 v3 v4 v5
  obtain ⟨v0, v1, v2, v3, v4, v5⟩ := HB2.out.op
  simp only at v0 v1 v2 v3 v4 v5
  have HB3 := Lib.hid HB2.out
  have HM3 := Lib.hid HM2.out
  clear HB2 HM2
  generalize w2 = w3 at *
  have hN4 := HBox.new w3 ⟨k, d, (ka : Int), b, im, t⟩ 0 0
  have hka4 := (Keeps.refl (fun _ => False) w3).alloc (.cells (hresC ⟨k, d, (ka : Int), b, im, t⟩ 0 0) 176)
  simp only [hresC] at hN4 hka4
  have HN4 := Lib.hid hN4
  have HKA4 := Lib.hid hka4
  clear hN4 hka4
  go_upto_region 5 with fail
  have HB4 := Lib.hid (HB3.out.keep HKA4.out)
  have HM4 := Lib.hid (HM3.out.keep HKA4.out (fun _ _ h => h))
  have HX4 := Lib.hid HN4.out
  have HZW := Lib.hid (show w.heap.size ≤ w3.heap.size ∧ x < w3.heap.size ∧ y < w3.heap.size ∧ mb < w3.heap.size from ⟨HB3.out.k.size, (match HB3.out.op with | ⟨h, _, _, _, _, _⟩ => cell_ltH h), HB3.out.res.lt, HM3.out.lt⟩)
  have HMZ := Lib.hid (fun w' (kk : Keeps (fun b => b = w3.heap.size) (w3.alloc (.cells #[.string k, .int .i64 d, .int .i64 (ka : Int), .int .i64 b, .int .u32 im, .int .i64 t, .int .u32 0, .int .u32 0] 176)) w') => HM3.out.keepZ ((HKA4.out.mono (T := fun b => b = w3.heap.size) (fun _ _ h => h.elim)).trans kk (fun _ _ h => h)) (fun b hb e => by have e : b = w3.heap.size := e; omega))
  clear HKA4 HN4
  clear v0 v1 v2 v3 v4 v5
  generalize w3.alloc _ = w4 at *
  generalize w3.heap.size = z at *
  obtain ⟨v0, v1, v2, v3, v4, v5⟩ := HB4.out.op
  simp only at v0 v1 v2 v3 v4 v5
  obtain ⟨⟨z0, z1, z2, z3, z4, z5, z6, z7⟩, zf⟩ := HX4.out.cells
  simp only at z0 z1 z2 z3 z4 z5 z6 z7
  go_wp2_with fail
  refine (HLD.out w4 HB4.out.k HM4.out).mono ?_
  rintro e w5 ⟨rfl, hk5⟩
  have HB5 := Lib.hid (HB4.out.keep hk5)
  have HX5 := Lib.hid (HX4.out.keep hk5 (fun h => h))
  have HZW5 := Lib.hid (show y < z from HZW.out.2.2.1)
  clear HLD hk5 v0 v1 v2 v3 v4 v5 z0 z1 z2 z3 z4 z5 z6 z7 zf
  obtain ⟨⟨z0, z1, z2, z3, z4, z5, z6, z7⟩, zf⟩ := HX5.out.cells
  simp only at z0 z1 z2 z3 z4 z5 z6 z7
  go_upto_region 17 with fail
  clear z0 z1 z2 z3 z4 z5 z6 z7 zf
  obtain ⟨hq1, hq2⟩ := HX5.out.putV (lv)
  have HX6 := Lib.hid hq1
  have HY6 := Lib.hid (HB5.out.res.keep hq2 (fun e => by have e : y = z := e; have := HZW.out; omega))
  have HK6 := Lib.hid (HB5.out.k.trans hq2 (fun b hb e => by have e : b = z := e; have := HZW.out; omega))
  have HLOW := Lib.hid HB5.out.low
  clear hq1 hq2
  generalize w5.setCell _ _ = w6 at *
  obtain ⟨⟨z0, z1, z2, z3, z4, z5, z6, z7⟩, zf⟩ := HX6.out.cells
  simp only at z0 z1 z2 z3 z4 z5 z6 z7
  have HQ := Lib.hid (HY6.out.put (o' := ⟨k, d, (ka : Int), b, im, t⟩) (v' := lv) (a' := 0))
  obtain ⟨⟨y0, y1, y2, y3, y4, y5, y6, y7⟩, gf⟩ := HY6.out.cells
  simp only at y0 y1 y2 y3 y4 y5 y6 y7
  go_wp2_with fail
  refine bodyPost_ret (results_hres rfl _ _ y ⟨k, d, (ka : Int), b, im, t⟩ (lv) (0) rfl HQ.out.1) rfl ?_
  exact ReadIs.of (t := true) HPL.out.1 HPL.out.2.1 HPL.out.2.2 HK6.out HLOW.out HQ.out.2
set_option maxHeartbeats 8000000 in
set_option maxRecDepth 100000 in
theorem read_load_bad (B mb r pb pw ph cp : Nat) (c : Ir.Mc) (m : Nat → Int) (W : Int → Bool) (k : ByteArray) (d a b im t : Int) (w : World) (ea : Nat → Addr) (E : Errs3 w ea) (M : MachAt w B mb r c) (R : RamAt w r pb pw ph cp m) (hW : WatchAt w pw W)
    (hok : Ir.McOk W c) (hi : Ir.OpIn ⟨k, d, a, b, im, t⟩) (hk : Ir.kn k = 5) (hrc : rightC (Ir.adr (Ir.rg c.X a) im) b.natAbs ≠ 0) (hB : B ≤ w.heap.size) :
    Calls Tryz.prog 97 #[.pointer (some ⟨mb, 0, none⟩), .agg #[.string k, .int .i64 d, .int .i64 a, .int .i64 b, .int .u32 im, .int .i64 t]] w (ReadIs w c.X (Ir.pend m c.ws) W ⟨k, d, a, b, im, t⟩) := by
  obtain ⟨_, hid, hia, hib, hil, his, him⟩ := hi
  simp only at hid hia hib hil his him
  obtain ⟨ka, rfl⟩ := Int.eq_ofNat_of_zero_le hia.1
  have hka : ka < 64 := by omega
  have hza : (ka : Int) < 64 := by omega
  have hrc : rightC (Ir.adr (c.X ka) im) b.natAbs ≠ 0 := hrc
  have HK := Ir.kinds k 5 hk
  simp only [Nat.reduceBEq] at HK
  obtain ⟨k1, k2, k3, k4, k5, k6, k7, k8, k9, _⟩ := HK
  have k5n : (k.toList != [108, 111, 97, 100]) = false := by rw [bne, k5]; rfl
  have hadr : 0 ≤ Ir.adr (c.X ka) im ∧ Ir.adr (c.X ka) im < 4294967296 := by unfold Ir.adr; omega
  have hbb := hil hk
  obtain ⟨n, hn⟩ : ∃ n, b.natAbs = n := ⟨_, rfl⟩
  have hn3 : n = 1 ∨ n = 2 ∨ n = 4 := by omega
  have hbn : b = n ∨ b = -n := by omega
  rw [hn] at hrc
  have HPL0 := Lib.hid (show Ir.hv c.X (Ir.pend m c.ws) ⟨k, d, (ka : Int), b, im, t⟩ = 0 ∧ Ir.ha c.X ⟨k, d, (ka : Int), b, im, t⟩ = 0 ∧ (Ir.resOf c.X (Ir.pend m c.ws) W ⟨k, d, (ka : Int), b, im, t⟩).trap = !false by
    unfold Ir.hv Ir.ha Ir.resOf
    simp [hk, Ir.rg, hn, hrc])
  have HLD := Lib.hid (fun w' (kk : Keeps (fun _ => False) w w') (hM : MachAt w' B mb r c) => mload_bad B mb r c (Ir.adr (c.X ka) im) b n w' ea (E.keep kk ⟨fun h => h, fun h => h, fun h => h⟩) hM hadr hn3 hbn hrc)
  have HPL := Lib.hid HPL0.out
  clear HPL0 hrc hn3 hbn hn hbb hadr
  have had : (c.X ka + im) % 4294967296 = Ir.adr (c.X ka) im := rfl
  generalize Ir.adr (c.X ka) im = ad at *
  have HN := Lib.hid (ReadBox.new w k d ka b im t 100)
  have HM := Lib.hid M
  have HE := Lib.hid E
  have HR := Lib.hid R
  have HW := Lib.hid hW
  have HOK := Lib.hid hok
  have xa := hok.X ka hka
  have HBW := Lib.hid (fun (w' : World) (kk : Keeps (fun _ => False) w w') => Nat.le_trans hB kk.size)
  clear M E R hW hok hid hia hib hil his hk
  go_enter Tryz.func97, Tryz.ntmps97
  go_upto_region 1 with fail
  have hN := HN.out
  clear HN
  generalize (w.alloc _).alloc _ = w1 at *
  generalize w.heap.size + 1 = y at *
  obtain ⟨x, hx⟩ : ∃ x, w.heap.size = x := ⟨_, rfl⟩
  rw [hx] at hN ⊢
  clear hx
  have HB1 := Lib.hid hN
  have HM1 := Lib.hid (HM.out.keep hN.k (fun _ _ h => h))
  clear hN
  obtain ⟨v0, v1, v2, v3, v4, v5⟩ := HB1.out.op
  simp only at v0 v1 v2 v3 v4 v5
  obtain ⟨m0, _⟩ := HM1.out.reg ka hka
  go_quiet (fail)
  generalize hwd : World.drewN w1 _ = w2
  have hkd : Keeps (fun _ => False) w1 w2 := by rw [← hwd]; exact Keeps.of_drewN _ _ _
  have HB2 := Lib.hid (HB1.out.keep hkd)
  have HM2 := Lib.hid (HM1.out.keep hkd (fun _ _ h => h))
  clear hwd hkd m0 v0 v1 v2 v3 v4 v5
  obtain ⟨v0, v1, v2, v3, v4, v5⟩ := HB2.out.op
  simp only at v0 v1 v2 v3 v4 v5
  have HB3 := Lib.hid HB2.out
  have HM3 := Lib.hid HM2.out
  clear HB2 HM2
  generalize w2 = w3 at *
  have hN4 := HBox.new w3 ⟨k, d, (ka : Int), b, im, t⟩ 0 0
  have hka4 := (Keeps.refl (fun _ => False) w3).alloc (.cells (hresC ⟨k, d, (ka : Int), b, im, t⟩ 0 0) 176)
  simp only [hresC] at hN4 hka4
  have HN4 := Lib.hid hN4
  have HKA4 := Lib.hid hka4
  clear hN4 hka4
  go_upto_region 5 with fail
  have HB4 := Lib.hid (HB3.out.keep HKA4.out)
  have HM4 := Lib.hid (HM3.out.keep HKA4.out (fun _ _ h => h))
  have HX4 := Lib.hid HN4.out
  have HZW := Lib.hid (show w.heap.size ≤ w3.heap.size ∧ x < w3.heap.size ∧ y < w3.heap.size ∧ mb < w3.heap.size from ⟨HB3.out.k.size, (match HB3.out.op with | ⟨h, _, _, _, _, _⟩ => cell_ltH h), HB3.out.res.lt, HM3.out.lt⟩)
  have HMZ := Lib.hid (fun w' (kk : Keeps (fun b => b = w3.heap.size) (w3.alloc (.cells #[.string k, .int .i64 d, .int .i64 (ka : Int), .int .i64 b, .int .u32 im, .int .i64 t, .int .u32 0, .int .u32 0] 176)) w') => HM3.out.keepZ ((HKA4.out.mono (T := fun b => b = w3.heap.size) (fun _ _ h => h.elim)).trans kk (fun _ _ h => h)) (fun b hb e => by have e : b = w3.heap.size := e; omega))
  clear HKA4 HN4
  clear v0 v1 v2 v3 v4 v5
  generalize w3.alloc _ = w4 at *
  generalize w3.heap.size = z at *
  obtain ⟨v0, v1, v2, v3, v4, v5⟩ := HB4.out.op
  simp only at v0 v1 v2 v3 v4 v5
  obtain ⟨⟨z0, z1, z2, z3, z4, z5, z6, z7⟩, zf⟩ := HX4.out.cells
  simp only at z0 z1 z2 z3 z4 z5 z6 z7
  go_wp2_with fail
  refine (HLD.out w4 HB4.out.k HM4.out).mono ?_
  rintro e w5 ⟨rfl, hk5⟩
  have HB5 := Lib.hid (HB4.out.keep hk5)
  have HX5 := Lib.hid (HX4.out.keep hk5 (fun h => h))
  have HZW5 := Lib.hid (show y < z from HZW.out.2.2.1)
  clear HLD hk5 v0 v1 v2 v3 v4 v5 z0 z1 z2 z3 z4 z5 z6 z7 zf
  obtain ⟨⟨z0, z1, z2, z3, z4, z5, z6, z7⟩, zf⟩ := HX5.out.cells
  simp only at z0 z1 z2 z3 z4 z5 z6 z7
  go_upto_region 17 with fail
  clear z0 z1 z2 z3 z4 z5 z6 z7 zf
  obtain ⟨hq1, hq2⟩ := HX5.out.putV (0)
  have HX6 := Lib.hid hq1
  have HY6 := Lib.hid (HB5.out.res.keep hq2 (fun e => by have e : y = z := e; have := HZW.out; omega))
  have HK6 := Lib.hid (HB5.out.k.trans hq2 (fun b hb e => by have e : b = z := e; have := HZW.out; omega))
  have HLOW := Lib.hid HB5.out.low
  clear hq1 hq2
  generalize w5.setCell _ _ = w6 at *
  obtain ⟨⟨z0, z1, z2, z3, z4, z5, z6, z7⟩, zf⟩ := HX6.out.cells
  simp only at z0 z1 z2 z3 z4 z5 z6 z7
  have HQ := Lib.hid (HY6.out.put (o' := ⟨k, d, (ka : Int), b, im, t⟩) (v' := 0) (a' := 0))
  obtain ⟨⟨y0, y1, y2, y3, y4, y5, y6, y7⟩, gf⟩ := HY6.out.cells
  simp only at y0 y1 y2 y3 y4 y5 y6 y7
  go_wp2_with fail
  refine bodyPost_ret (results_hres rfl _ _ y ⟨k, d, (ka : Int), b, im, t⟩ (0) (0) rfl HQ.out.1) rfl ?_
  exact ReadIs.of (t := false) HPL.out.1 HPL.out.2.1 HPL.out.2.2 HK6.out HLOW.out HQ.out.2
set_option maxHeartbeats 8000000 in
set_option maxRecDepth 100000 in
theorem read_store (B mb r pb pw ph cp : Nat) (c : Ir.Mc) (m : Nat → Int) (W : Int → Bool) (k : ByteArray) (d a b im t : Int) (w : World) (ea : Nat → Addr) (E : Errs3 w ea) (M : MachAt w B mb r c) (R : RamAt w r pb pw ph cp m) (hW : WatchAt w pw W)
    (hok : Ir.McOk W c) (hi : Ir.OpIn ⟨k, d, a, b, im, t⟩) (hk : Ir.kn k = 6) (hB : B ≤ w.heap.size) :
    Calls Tryz.prog 97 #[.pointer (some ⟨mb, 0, none⟩), .agg #[.string k, .int .i64 d, .int .i64 a, .int .i64 b, .int .u32 im, .int .i64 t]] w (ReadIs w c.X (Ir.pend m c.ws) W ⟨k, d, a, b, im, t⟩) := by
  obtain ⟨_, hid, hia, hib, hil, his, him⟩ := hi
  simp only at hid hia hib hil his him
  obtain ⟨ka, rfl⟩ := Int.eq_ofNat_of_zero_le hia.1
  have hka : ka < 64 := by omega
  have hza : (ka : Int) < 64 := by omega
  obtain ⟨kb, rfl⟩ := Int.eq_ofNat_of_zero_le (hib (by omega)).1
  have hkb : kb < 64 := by have := hib (by omega); omega
  have hzb : (kb : Int) < 64 := by omega
  have HK := Ir.kinds k 6 hk
  simp only [Nat.reduceBEq] at HK
  obtain ⟨k1, k2, k3, k4, k5, k6, k7, k8, k9, _⟩ := HK
  have k5n : (k.toList != [108, 111, 97, 100]) = true := by rw [bne, k5]; rfl
  have hadr : 0 ≤ Ir.adr (c.X ka) im ∧ Ir.adr (c.X ka) im < 4294967296 := by unfold Ir.adr; omega
  have HMAY := Lib.hid (fun w' (kk : Keeps (fun _ => False) w w') (hM : MachAt w' B mb r c) => may_any B mb r pb pw ph cp c m W (Ir.adr (c.X ka) im) d w' ea (E.keep kk ⟨fun h => h, fun h => h, fun h => h⟩) hM (R.keep kk (fun h => h) (fun h => h)) (hW.keep kk (fun h => h)) hadr)
  obtain ⟨q, hq⟩ : ∃ q, decide (rightC (Ir.adr (c.X ka) im) d = 0 ∧ W (Ir.adr (c.X ka) im / 256) = false) = q := ⟨_, rfl⟩
  rw [hq] at HMAY
  have HPL := Lib.hid (show Ir.hv c.X (Ir.pend m c.ws) ⟨k, d, (ka : Int), (kb : Int), im, t⟩ = c.X kb ∧ Ir.ha c.X ⟨k, d, (ka : Int), (kb : Int), im, t⟩ = Ir.adr (c.X ka) im ∧ (Ir.resOf c.X (Ir.pend m c.ws) W ⟨k, d, (ka : Int), (kb : Int), im, t⟩).trap = !q by
    rw [← hq]
    refine ⟨by unfold Ir.hv; simp [hk, Ir.rg], by unfold Ir.ha; simp [hk, Ir.rg], ?_⟩
    unfold Ir.resOf
    by_cases hr : rightC (Ir.adr (c.X ka) im) d = 0
    · cases hw : W (Ir.adr (c.X ka) im / 256) <;> simp [hk, Ir.rg, hr, hw]
    · simp [hk, Ir.rg, hr])
  clear hq hadr
  have HADW := Lib.hid (show IntKind.u32.wrap (c.X ka + im) = Ir.adr (c.X ka) im from rfl)
  generalize Ir.adr (c.X ka) im = ad at *
  have HN := Lib.hid (ReadBox.new w k d ka (kb : Int) im t 100)
  have HM := Lib.hid M
  have HE := Lib.hid E
  have HR := Lib.hid R
  have HW := Lib.hid hW
  have HOK := Lib.hid hok
  have xa := hok.X ka hka
  have HBW := Lib.hid (fun (w' : World) (kk : Keeps (fun _ => False) w w') => Nat.le_trans hB kk.size)
  clear M E R hW hok hid hia hib hil his hk
  go_enter Tryz.func97, Tryz.ntmps97
  go_upto_region 1 with fail
  have hN := HN.out
  clear HN
  generalize (w.alloc _).alloc _ = w1 at *
  generalize w.heap.size + 1 = y at *
  obtain ⟨x, hx⟩ : ∃ x, w.heap.size = x := ⟨_, rfl⟩
  rw [hx] at hN ⊢
  clear hx
  have HB1 := Lib.hid hN
  have HM1 := Lib.hid (HM.out.keep hN.k (fun _ _ h => h))
  clear hN
  obtain ⟨v0, v1, v2, v3, v4, v5⟩ := HB1.out.op
  simp only at v0 v1 v2 v3 v4 v5
  obtain ⟨m0, _⟩ := HM1.out.reg ka hka
  go_quiet (fail)
  generalize hwd : World.drewN w1 _ = w2
  have hkd : Keeps (fun _ => False) w1 w2 := by rw [← hwd]; exact Keeps.of_drewN _ _ _
  have HB2 := Lib.hid (HB1.out.keep hkd)
  have HM2 := Lib.hid (HM1.out.keep hkd (fun _ _ h => h))
  clear hwd hkd m0 v0 v1 v2 v3 v4 v5
  obtain ⟨v0, v1, v2, v3, v4, v5⟩ := HB2.out.op
  simp only at v0 v1 v2 v3 v4 v5
  have xb := HOK.out.X kb hkb
  obtain ⟨m0, _⟩ := HM2.out.reg kb hkb
  go_upto_region 3 with fail
  go_quiet (fail)
  generalize hwd : World.drewN w2 _ = w3
  have hkd : Keeps (fun _ => False) w2 w3 := by rw [← hwd]; exact Keeps.of_drewN _ _ _
  have HB3 := Lib.hid (HB2.out.keep hkd)
  have HM3 := Lib.hid (HM2.out.keep hkd (fun _ _ h => h))
  clear hwd hkd m0 v0 v1 v2 v3 v4 v5
  obtain ⟨v0, v1, v2, v3, v4, v5⟩ := HB3.out.op
  simp only at v0 v1 v2 v3 v4 v5
  have hN4 := HBox.new w3 ⟨k, d, (ka : Int), (kb : Int), im, t⟩ 0 0
  have hka4 := (Keeps.refl (fun _ => False) w3).alloc (.cells (hresC ⟨k, d, (ka : Int), (kb : Int), im, t⟩ 0 0) 176)
  simp only [hresC] at hN4 hka4
  have HN4 := Lib.hid hN4
  have HKA4 := Lib.hid hka4
  clear hN4 hka4
  go_upto_region 5 with fail
  have HB4 := Lib.hid (HB3.out.keep HKA4.out)
  have HM4 := Lib.hid (HM3.out.keep HKA4.out (fun _ _ h => h))
  have HX4 := Lib.hid HN4.out
  have HZW := Lib.hid (show w.heap.size ≤ w3.heap.size ∧ x < w3.heap.size ∧ y < w3.heap.size ∧ mb < w3.heap.size from ⟨HB3.out.k.size, (match HB3.out.op with | ⟨h, _, _, _, _, _⟩ => cell_ltH h), HB3.out.res.lt, HM3.out.lt⟩)
  have HMZ := Lib.hid (fun w' (kk : Keeps (fun b => b = w3.heap.size) (w3.alloc (.cells #[.string k, .int .i64 d, .int .i64 (ka : Int), .int .i64 (kb : Int), .int .u32 im, .int .i64 t, .int .u32 0, .int .u32 0] 176)) w') => HM3.out.keepZ ((HKA4.out.mono (T := fun b => b = w3.heap.size) (fun _ _ h => h.elim)).trans kk (fun _ _ h => h)) (fun b hb e => by have e : b = w3.heap.size := e; omega))
  clear HKA4 HN4
  clear v0 v1 v2 v3 v4 v5
  generalize w3.alloc _ = w4 at *
  generalize w3.heap.size = z at *
  obtain ⟨v0, v1, v2, v3, v4, v5⟩ := HB4.out.op
  simp only at v0 v1 v2 v3 v4 v5
  obtain ⟨⟨z0, z1, z2, z3, z4, z5, z6, z7⟩, zf⟩ := HX4.out.cells
  simp only at z0 z1 z2 z3 z4 z5 z6 z7
  have HNZ := Lib.hid (show ¬ x = z by have := HZW.out; omega)
  have HPA := Lib.hid (HX4.out.putV (c.X kb))
  have HPB0 := HPA.out.1.putA ad
  have HPB := Lib.hid (show HBox ((w4.setCell ⟨z, 6, none⟩ (.int .u32 (c.X kb))).setCell ⟨z, 7, none⟩ (.int .u32 ad)) z ⟨k, d, (ka : Int), (kb : Int), im, t⟩ (c.X kb) ad ∧ Keeps (fun b => b = z) w4 ((w4.setCell ⟨z, 6, none⟩ (.int .u32 (c.X kb))).setCell ⟨z, 7, none⟩ (.int .u32 ad)) from ⟨HPB0.1, HPA.out.2.trans HPB0.2 (fun _ _ h => h)⟩)
  have HPW := Lib.hid (show Keeps (fun b => b = z) w4 ((w4.setCell ⟨z, 6, none⟩ (.int .u32 (c.X kb))).setCell ⟨z, 7, none⟩ (.int .u32 (IntKind.u32.wrap (c.X ka + im)))) by rw [HADW.out]; exact HPB.out.2)
  clear HPB0
  go_upto_region 19 with fail
  refine wp_region_held_drew (S := fun w' => Keeps (fun b => b = z) w4 w') (by kernel_rfl) (Keeps.refl _ w4).drew (fun hH0 => ?_)
  refine wpAnyH_take (i := 0) (v := ?_) rfl (by kernel_rfl) (by kernel_rfl) (by kernel_rfl) (fun _ _ _ h => h) (Or.inl ⟨by go_simp, ?_⟩) hH0 ?_
  rotate_left
  · intro w' hSw
    go_simp
    try with_reducible rfl
  simp only [Act.put, List.setIfInBounds_toArray, List.set_cons_zero, List.set_cons_succ]
  refine wpAnyH_take (i := 1) (v := ?_) rfl (by kernel_rfl) (by kernel_rfl) (by kernel_rfl) (fun _ _ _ h => h) (Or.inl ⟨by go_simp, ?_⟩) hH0 ?_
  rotate_left
  · intro w' hSw
    go_simp
    try with_reducible rfl
  simp only [Act.put, List.setIfInBounds_toArray, List.set_cons_zero, List.set_cons_succ]
  refine wpAnyH_take (i := 2) (v := ?_) rfl (by kernel_rfl) (by kernel_rfl) (by kernel_rfl) (fun _ _ _ h => h) (Or.inl ⟨by go_simp, ?_⟩) hH0 ?_
  rotate_left
  · intro w' hSw
    go_simp
    try with_reducible rfl
  simp only [Act.put, List.setIfInBounds_toArray, List.set_cons_zero, List.set_cons_succ]
  refine wpAnyH_take (i := 3) (v := ?_) rfl (by kernel_rfl) (by kernel_rfl) (by kernel_rfl) (fun _ _ _ h => h) (Or.inl ⟨by go_simp, ?_⟩) hH0 ?_
  rotate_left
  · intro w' hSw
    have q4 := Keeps.cell' hSw v4 HNZ.out
    go_simp
    try with_reducible rfl
  simp only [Act.put, List.setIfInBounds_toArray, List.set_cons_zero, List.set_cons_succ]
  refine wpAnyH_take (i := 4) (v := ?_) rfl (by kernel_rfl) (by kernel_rfl) (by kernel_rfl) (fun _ _ _ h => h) (Or.inl ⟨by go_simp, ?_⟩) hH0 ?_
  rotate_left
  · intro w' hSw
    go_simp
    try with_reducible rfl
  simp only [Act.put, List.setIfInBounds_toArray, List.set_cons_zero, List.set_cons_succ]
  refine wpAnyH_take (i := 5) (v := ?_) rfl (by kernel_rfl) (by kernel_rfl) (by kernel_rfl) (fun _ _ _ h => h) (Or.inl ⟨by go_simp, ?_⟩) hH0 ?_
  rotate_left
  · intro w' hSw
    go_simp
    try with_reducible rfl
  simp only [Act.put, List.setIfInBounds_toArray, List.set_cons_zero, List.set_cons_succ]
  refine wpAnyH_ready (rs := [6]) (by kernel_rfl) (by simp) ?_
  refine AllReadyH.cons rfl (fun K hK => ?_) AllReadyH.nil
  go_simp
  refine hK.out _ _ HPA.out.2.drew (fun _ => ?_)
  clear hK K
  try simp only [Act.put, List.setIfInBounds_toArray, List.set_cons_zero, List.set_cons_succ]
  refine wpAnyH_take (i := 7) (v := ?_) rfl (by kernel_rfl) (by kernel_rfl) (by kernel_rfl) (fun _ _ _ h => h) (Or.inl ⟨by go_simp, ?_⟩) HPA.out.2.drew ?_
  rotate_left
  · intro w' hSw
    go_simp
    try with_reducible rfl
  simp only [Act.put, List.setIfInBounds_toArray, List.set_cons_zero, List.set_cons_succ]
  refine wpAnyH_ready (rs := [8]) (by kernel_rfl) (by simp) ?_
  refine AllReadyH.cons rfl (fun K hK => ?_) AllReadyH.nil
  go_simp
  refine hK.out _ _ HPW.out.drew (fun _ => ?_)
  clear hK K
  try simp only [Act.put, List.setIfInBounds_toArray, List.set_cons_zero, List.set_cons_succ]
  refine wpAnyH_done (by kernel_rfl) ?_ _
  rw [HADW.out]
  have HX5 := Lib.hid (HPB.out.1.keep ((Keeps.refl (fun _ => False) _).drew) (fun h => h))
  have hk5 := HPB.out.2.drew
  have HK5 := Lib.hid (HB4.out.k.trans hk5 (fun b hb e => by have e : b = z := e; have := HZW.out; omega))
  have HY5 := Lib.hid (HB4.out.res.keep hk5 (fun e => by have e : y = z := e; have := HZW.out; omega))
  have HM5 := Lib.hid (HMZ.out _ hk5)
  obtain ⟨q0, q1, q2, q3, q4, q5⟩ := HB4.out.op.keep hk5 HNZ.out
  simp only at q0 q1 q2 q3 q4 q5
  clear hk5 hH0 v0 v1 v2 v3 v4 v5 z0 z1 z2 z3 z4 z5 z6 z7 zf HPA HPB HPW
  generalize World.drew ((w4.setCell ⟨z, 6, none⟩ (.int .u32 (c.X kb))).setCell ⟨z, 7, none⟩ (.int .u32 ad)) = w5 at *
  obtain ⟨⟨z0, z1, z2, z3, z4, z5, z6, z7⟩, zf⟩ := HX5.out.cells
  simp only at z0 z1 z2 z3 z4 z5 z6 z7
  obtain ⟨⟨y0, y1, y2, y3, y4, y5, y6, y7⟩, gf⟩ := HY5.out.cells
  simp only at y0 y1 y2 y3 y4 y5 y6 y7
  have HNE := Lib.hid (show ¬ z = y ∧ ¬ x = y from ⟨by have := HZW.out; omega, HB4.out.ne⟩)
  have HQD := Lib.hid (HY5.out.put (o' := ⟨k, d, (ka : Int), (kb : Int), im, t⟩) (v' := c.X kb) (a' := ad))
  go_upto_region 20 with fail
  refine wp_region_held_drew (S := fun w' => Keeps (fun b => b = y) w5 w') (by kernel_rfl) (Keeps.refl _ w5).drew (fun hH0 => ?_)
  refine wpAnyH_take (i := 0) (v := ?_) rfl (by kernel_rfl) (by kernel_rfl) (by kernel_rfl) (fun _ _ _ h => h) (Or.inl ⟨by go_simp, ?_⟩) hH0 ?_
  rotate_left
  · intro w' hSw
    have p0 := Keeps.cell' hSw z0 HNE.out.1
    have p1 := Keeps.cell' hSw z1 HNE.out.1
    have p2 := Keeps.cell' hSw z2 HNE.out.1
    have p3 := Keeps.cell' hSw z3 HNE.out.1
    have p4 := Keeps.cell' hSw z4 HNE.out.1
    have p5 := Keeps.cell' hSw z5 HNE.out.1
    have p6 := Keeps.cell' hSw z6 HNE.out.1
    have p7 := Keeps.cell' hSw z7 HNE.out.1
    go_simp
    try with_reducible rfl
  simp only [Act.put, List.setIfInBounds_toArray, List.set_cons_zero, List.set_cons_succ]
  refine wpAnyH_take (i := 1) (v := ?_) rfl (by kernel_rfl) (by kernel_rfl) (by kernel_rfl) (fun _ _ _ h => h) (Or.inl ⟨by go_simp, ?_⟩) hH0 ?_
  rotate_left
  · intro w' hSw
    go_simp
    try with_reducible rfl
  simp only [Act.put, List.setIfInBounds_toArray, List.set_cons_zero, List.set_cons_succ]
  refine wpAnyH_take (i := 2) (v := ?_) rfl (by kernel_rfl) (by kernel_rfl) (by kernel_rfl) (fun _ _ _ h => h) (Or.inl ⟨by go_simp, ?_⟩) hH0 ?_
  rotate_left
  · intro w' hSw
    go_simp
    try with_reducible rfl
  simp only [Act.put, List.setIfInBounds_toArray, List.set_cons_zero, List.set_cons_succ]
  refine wpAnyH_take (i := 3) (v := ?_) rfl (by kernel_rfl) (by kernel_rfl) (by kernel_rfl) (fun _ _ _ h => h) (Or.inl ⟨by go_simp, ?_⟩) hH0 ?_
  rotate_left
  · intro w' hSw
    have p7 := Keeps.cell' hSw z7 HNE.out.1
    go_simp
    try with_reducible rfl
  simp only [Act.put, List.setIfInBounds_toArray, List.set_cons_zero, List.set_cons_succ]
  refine wpAnyH_take (i := 4) (v := ?_) rfl (by kernel_rfl) (by kernel_rfl) (by kernel_rfl) (fun _ _ _ h => h) (Or.inl ⟨by go_simp, ?_⟩) hH0 ?_
  rotate_left
  · intro w' hSw
    go_simp
    try with_reducible rfl
  simp only [Act.put, List.setIfInBounds_toArray, List.set_cons_zero, List.set_cons_succ]
  refine wpAnyH_take (i := 5) (v := ?_) rfl (by kernel_rfl) (by kernel_rfl) (by kernel_rfl) (fun _ _ _ h => h) (Or.inl ⟨by go_simp, ?_⟩) hH0 ?_
  rotate_left
  · intro w' hSw
    have p1 := Keeps.cell' hSw q1 HNE.out.2
    go_simp
    try with_reducible rfl
  simp only [Act.put, List.setIfInBounds_toArray, List.set_cons_zero, List.set_cons_succ]
  refine wpAnyH_ready (rs := [6]) (by kernel_rfl) (by simp) ?_
  refine AllReadyH.cons rfl (fun K hK => ?_) AllReadyH.nil
  go_simp
  refine (HMAY.out _ (HK5.out.drew) (HM5.out.keep ((Keeps.refl (fun _ => False) _).drew) (fun _ _ h => h))).mono ?_
  rintro e w6 ⟨rfl, rfl⟩
  go_wp2_with fail
  have hH1 := hH0
  refine hK.out _ _ hH1 (fun _ => ?_)
  clear hK K
  try simp only [Act.put, List.setIfInBounds_toArray, List.set_cons_zero, List.set_cons_succ]
  refine wpAnyH_ready (rs := [7]) (by kernel_rfl) (by simp) ?_
  refine AllReadyH.cons rfl (fun K hK => ?_) AllReadyH.nil
  go_simp
  refine hK.out _ _ HQD.out.2.drew (fun _ => ?_)
  clear hK K
  try simp only [Act.put, List.setIfInBounds_toArray, List.set_cons_zero, List.set_cons_succ]
  refine wpAnyH_ready (rs := [8]) (by kernel_rfl) (by simp) ?_
  refine AllReadyH.cons rfl (fun K hK => ?_) AllReadyH.nil
  go_simp
  refine hK.out _ _ HQD.out.2.drew (fun _ => ?_)
  clear hK K
  try simp only [Act.put, List.setIfInBounds_toArray, List.set_cons_zero, List.set_cons_succ]
  refine wpAnyH_done (by kernel_rfl) ?_ _
  go_wp2_with fail
  refine bodyPost_ret (results_hres rfl _ _ y ⟨k, d, (ka : Int), (kb : Int), im, t⟩ (c.X kb) ad rfl (HQD.out.1.keep ((Keeps.refl (fun _ => False) _).drew) (fun h => h))) rfl ?_
  exact ReadIs.of (t := q) HPL.out.1 HPL.out.2.1 HPL.out.2.2 HK5.out HB4.out.low HQD.out.2.drew
set_option maxHeartbeats 8000000 in
set_option maxRecDepth 100000 in
theorem read_sum (B mb r pb pw ph cp : Nat) (c : Ir.Mc) (m : Nat → Int) (W : Int → Bool) (k : ByteArray) (d a b im t : Int) (w : World) (ea : Nat → Addr) (E : Errs3 w ea) (M : MachAt w B mb r c) (R : RamAt w r pb pw ph cp m) (hW : WatchAt w pw W)
    (hok : Ir.McOk W c) (hi : Ir.OpIn ⟨k, d, a, b, im, t⟩) (hk : 10 ≤ Ir.kn k) (hB : B ≤ w.heap.size) :
    Calls Tryz.prog 97 #[.pointer (some ⟨mb, 0, none⟩), .agg #[.string k, .int .i64 d, .int .i64 a, .int .i64 b, .int .u32 im, .int .i64 t]] w (ReadIs w c.X (Ir.pend m c.ws) W ⟨k, d, a, b, im, t⟩) := by
  obtain ⟨_, hid, hia, hib, hil, his, him⟩ := hi
  simp only at hid hia hib hil his him
  obtain ⟨ka, rfl⟩ := Int.eq_ofNat_of_zero_le hia.1
  have hka : ka < 64 := by omega
  have hza : (ka : Int) < 64 := by omega
  obtain ⟨kb, rfl⟩ := Int.eq_ofNat_of_zero_le (hib (by omega)).1
  have hkb : kb < 64 := by have := hib (by omega); omega
  have hzb : (kb : Int) < 64 := by omega
  obtain ⟨kd, rfl⟩ := Int.eq_ofNat_of_zero_le (show 0 ≤ d by have := hid (by omega); omega)
  have hkd : 1 ≤ kd ∧ kd < 64 := by have := hid (by omega); omega
  have hzd : (kd : Int) < 64 := by omega
  have k1 := is_set k
  rw [show (Ir.kn k == 1) = false from by rw [beq_eq_false_iff_ne]; omega] at k1
  have k2 := is_copy k
  rw [show (Ir.kn k == 2) = false from by rw [beq_eq_false_iff_ne]; omega] at k2
  have k3 := is_overp k
  rw [show (Ir.kn k == 3) = false from by rw [beq_eq_false_iff_ne]; omega] at k3
  have k4 := is_overm k
  rw [show (Ir.kn k == 4) = false from by rw [beq_eq_false_iff_ne]; omega] at k4
  have k5 := is_load k
  rw [show (Ir.kn k == 5) = false from by rw [beq_eq_false_iff_ne]; omega] at k5
  have k6 := is_store k
  rw [show (Ir.kn k == 6) = false from by rw [beq_eq_false_iff_ne]; omega] at k6
  have k7 := is_if k
  rw [show (Ir.kn k == 7) = false from by rw [beq_eq_false_iff_ne]; omega] at k7
  have k8 := is_out k
  rw [show (Ir.kn k == 8) = false from by rw [beq_eq_false_iff_ne]; omega] at k8
  have k9 := is_outr k
  rw [show (Ir.kn k == 9) = false from by rw [beq_eq_false_iff_ne]; omega] at k9
  have k5n : (k.toList != [108, 111, 97, 100]) = true := by rw [bne, k5]; rfl
  have HPL0 := Lib.hid (show Ir.hv c.X (Ir.pend m c.ws) ⟨k, (kd : Int), (ka : Int), (kb : Int), im, t⟩ = Ir.value (Ir.kn k) (c.X ka) (c.X kb) (c.X kd) ∧ Ir.ha c.X ⟨k, (kd : Int), (ka : Int), (kb : Int), im, t⟩ = 0 ∧ (Ir.resOf c.X (Ir.pend m c.ws) W ⟨k, (kd : Int), (ka : Int), (kb : Int), im, t⟩).trap = !true by
    unfold Ir.hv Ir.ha Ir.resOf
    simp only [Ir.rg, Int.toNat_natCast]
    rw [if_neg (by omega), if_neg (by omega), if_neg (by omega), if_neg (by omega), if_pos hk, if_neg (by omega), if_neg (by omega), if_neg (by omega), if_neg (by omega), if_neg (by omega), if_neg (by omega), if_neg (by omega), if_neg (by omega), if_neg (by omega)]
    exact ⟨rfl, rfl, rfl⟩)
  have HVQ := Lib.hid (fun w => value_any k (c.X ka) (c.X kb) (c.X kd) w (hok.X ka hka) (hok.X kb hkb))
  obtain ⟨vv, hvv⟩ : ∃ vv, Ir.value (Ir.kn k) (c.X ka) (c.X kb) (c.X kd) = vv := ⟨_, rfl⟩
  rw [hvv] at HVQ HPL0
  have HPL := Lib.hid HPL0.out
  clear hvv HPL0
  have HN := Lib.hid (ReadBox.new w k (kd : Int) ka (kb : Int) im t 100)
  have HM := Lib.hid M
  have HE := Lib.hid E
  have HR := Lib.hid R
  have HW := Lib.hid hW
  have HOK := Lib.hid hok
  have xa := hok.X ka hka
  have HBW := Lib.hid (fun (w' : World) (kk : Keeps (fun _ => False) w w') => Nat.le_trans hB kk.size)
  clear M E R hW hok hid hia hib hil his hk
  go_enter Tryz.func97, Tryz.ntmps97
  go_upto_region 1 with fail
  have hN := HN.out
  clear HN
  generalize (w.alloc _).alloc _ = w1 at *
  generalize w.heap.size + 1 = y at *
  obtain ⟨x, hx⟩ : ∃ x, w.heap.size = x := ⟨_, rfl⟩
  rw [hx] at hN ⊢
  clear hx
  have HB1 := Lib.hid hN
  have HM1 := Lib.hid (HM.out.keep hN.k (fun _ _ h => h))
  clear hN
  obtain ⟨v0, v1, v2, v3, v4, v5⟩ := HB1.out.op
  simp only at v0 v1 v2 v3 v4 v5
  obtain ⟨m0, _⟩ := HM1.out.reg ka hka
  go_quiet (fail)
  generalize hwd : World.drewN w1 _ = w2
  have hkd : Keeps (fun _ => False) w1 w2 := by rw [← hwd]; exact Keeps.of_drewN _ _ _
  have HB2 := Lib.hid (HB1.out.keep hkd)
  have HM2 := Lib.hid (HM1.out.keep hkd (fun _ _ h => h))
  clear hwd hkd m0 v0 v1 v2 v3 v4 v5
  obtain ⟨v0, v1, v2, v3, v4, v5⟩ := HB2.out.op
  simp only at v0 v1 v2 v3 v4 v5
  have xb := HOK.out.X kb hkb
  obtain ⟨m0, _⟩ := HM2.out.reg kb hkb
  go_upto_region 3 with fail
  go_quiet (fail)
  generalize hwd : World.drewN w2 _ = w3
  have hkd : Keeps (fun _ => False) w2 w3 := by rw [← hwd]; exact Keeps.of_drewN _ _ _
  have HB3 := Lib.hid (HB2.out.keep hkd)
  have HM3 := Lib.hid (HM2.out.keep hkd (fun _ _ h => h))
  clear hwd hkd m0 v0 v1 v2 v3 v4 v5
  obtain ⟨v0, v1, v2, v3, v4, v5⟩ := HB3.out.op
  simp only at v0 v1 v2 v3 v4 v5
  have hN4 := HBox.new w3 ⟨k, (kd : Int), (ka : Int), (kb : Int), im, t⟩ 0 0
  have hka4 := (Keeps.refl (fun _ => False) w3).alloc (.cells (hresC ⟨k, (kd : Int), (ka : Int), (kb : Int), im, t⟩ 0 0) 176)
  simp only [hresC] at hN4 hka4
  have HN4 := Lib.hid hN4
  have HKA4 := Lib.hid hka4
  clear hN4 hka4
  go_upto_region 5 with fail
  have HB4 := Lib.hid (HB3.out.keep HKA4.out)
  have HM4 := Lib.hid (HM3.out.keep HKA4.out (fun _ _ h => h))
  have HX4 := Lib.hid HN4.out
  have HZW := Lib.hid (show w.heap.size ≤ w3.heap.size ∧ x < w3.heap.size ∧ y < w3.heap.size ∧ mb < w3.heap.size from ⟨HB3.out.k.size, (match HB3.out.op with | ⟨h, _, _, _, _, _⟩ => cell_ltH h), HB3.out.res.lt, HM3.out.lt⟩)
  have HMZ := Lib.hid (fun w' (kk : Keeps (fun b => b = w3.heap.size) (w3.alloc (.cells #[.string k, .int .i64 (kd : Int), .int .i64 (ka : Int), .int .i64 (kb : Int), .int .u32 im, .int .i64 t, .int .u32 0, .int .u32 0] 176)) w') => HM3.out.keepZ ((HKA4.out.mono (T := fun b => b = w3.heap.size) (fun _ _ h => h.elim)).trans kk (fun _ _ h => h)) (fun b hb e => by have e : b = w3.heap.size := e; omega))
  clear HKA4 HN4
  clear v0 v1 v2 v3 v4 v5
  generalize w3.alloc _ = w4 at *
  generalize w3.heap.size = z at *
  obtain ⟨v0, v1, v2, v3, v4, v5⟩ := HB4.out.op
  simp only at v0 v1 v2 v3 v4 v5
  obtain ⟨⟨z0, z1, z2, z3, z4, z5, z6, z7⟩, zf⟩ := HX4.out.cells
  simp only at z0 z1 z2 z3 z4 z5 z6 z7
  have HNZ := Lib.hid (show ¬ x = z ∧ ¬ mb = z by have := HZW.out; omega)
  obtain ⟨m1, _⟩ := HM4.out.reg kd hkd.2
  go_upto_region 6 with fail
  refine wp_region_held_drew (S := fun w' => Keeps (fun b => b = z) w4 w') (by kernel_rfl) (Keeps.refl _ w4).drew (fun hH0 => ?_)
  refine wpAnyH_take (i := 0) (v := ?_) rfl (by kernel_rfl) (by kernel_rfl) (by kernel_rfl) (fun _ _ _ h => h) (Or.inl ⟨by go_simp, ?_⟩) hH0 ?_
  rotate_left
  · intro w' hSw
    go_simp
    try with_reducible rfl
  simp only [Act.put, List.setIfInBounds_toArray, List.set_cons_zero, List.set_cons_succ]
  refine wpAnyH_take (i := 1) (v := ?_) rfl (by kernel_rfl) (by kernel_rfl) (by kernel_rfl) (fun _ _ _ h => h) (Or.inl ⟨by go_simp, ?_⟩) hH0 ?_
  rotate_left
  · intro w' hSw
    have q0 := Keeps.cell' hSw v0 HNZ.out.1
    go_simp
    try with_reducible rfl
  simp only [Act.put, List.setIfInBounds_toArray, List.set_cons_zero, List.set_cons_succ]
  refine wpAnyH_take (i := 2) (v := ?_) rfl (by kernel_rfl) (by kernel_rfl) (by kernel_rfl) (fun _ _ _ h => h) (Or.inl ⟨by go_simp, ?_⟩) hH0 ?_
  rotate_left
  · intro w' hSw
    go_simp
    try with_reducible rfl
  simp only [Act.put, List.setIfInBounds_toArray, List.set_cons_zero, List.set_cons_succ]
  refine wpAnyH_take (i := 3) (v := ?_) rfl (by kernel_rfl) (by kernel_rfl) (by kernel_rfl) (fun _ _ _ h => h) (Or.inl ⟨by go_simp, ?_⟩) hH0 ?_
  rotate_left
  · intro w' hSw
    go_simp
    try with_reducible rfl
  simp only [Act.put, List.setIfInBounds_toArray, List.set_cons_zero, List.set_cons_succ]
  refine wpAnyH_take (i := 4) (v := ?_) rfl (by kernel_rfl) (by kernel_rfl) (by kernel_rfl) (fun _ _ _ h => h) (Or.inl ⟨by go_simp, ?_⟩) hH0 ?_
  rotate_left
  · intro w' hSw
    go_simp
    try with_reducible rfl
  simp only [Act.put, List.setIfInBounds_toArray, List.set_cons_zero, List.set_cons_succ]
  refine wpAnyH_take (i := 5) (v := ?_) rfl (by kernel_rfl) (by kernel_rfl) (by kernel_rfl) (fun _ _ _ h => h) (Or.inl ⟨by go_simp, ?_⟩) hH0 ?_
  rotate_left
  · intro w' hSw
    go_simp
    try with_reducible rfl
  simp only [Act.put, List.setIfInBounds_toArray, List.set_cons_zero, List.set_cons_succ]
  refine wpAnyH_take (i := 6) (v := ?_) rfl (by kernel_rfl) (by kernel_rfl) (by kernel_rfl) (fun _ _ _ h => h) (Or.inl ⟨by go_simp, ?_⟩) hH0 ?_
  rotate_left
  · intro w' hSw
    have q1 := Keeps.cell' hSw v1 HNZ.out.1
    go_simp
    try with_reducible rfl
  simp only [Act.put, List.setIfInBounds_toArray, List.set_cons_zero, List.set_cons_succ]
  refine wpAnyH_take (i := 7) (v := ?_) rfl (by kernel_rfl) (by kernel_rfl) (by kernel_rfl) (fun _ _ _ h => h) (Or.inl ⟨by go_simp, ?_⟩) hH0 ?_
  rotate_left
  · intro w' hSw
    go_simp
    try with_reducible rfl
  simp only [Act.put, List.setIfInBounds_toArray, List.set_cons_zero, List.set_cons_succ]
  refine wpAnyH_take (i := 8) (v := ?_) rfl (by kernel_rfl) (by kernel_rfl) (by kernel_rfl) (fun _ _ _ h => h) (Or.inl ⟨by go_simp, ?_⟩) hH0 ?_
  rotate_left
  · intro w' hSw
    go_simp
    try with_reducible rfl
  simp only [Act.put, List.setIfInBounds_toArray, List.set_cons_zero, List.set_cons_succ]
  refine wpAnyH_take (i := 9) (v := ?_) rfl (by kernel_rfl) (by kernel_rfl) (by kernel_rfl) (fun _ _ _ h => h) (Or.inl ⟨by go_simp, ?_⟩) hH0 ?_
  rotate_left
  · intro w' hSw
    go_simp
    try with_reducible rfl
  simp only [Act.put, List.setIfInBounds_toArray, List.set_cons_zero, List.set_cons_succ]
  refine wpAnyH_take (i := 10) (v := ?_) rfl (by kernel_rfl) (by kernel_rfl) (by kernel_rfl) (fun _ _ _ h => h) (Or.inl ⟨by go_simp, ?_⟩) hH0 ?_
  rotate_left
  · intro w' hSw
    have q0 := Keeps.cell' hSw m1 HNZ.out.2
    go_simp
    try with_reducible rfl
  simp only [Act.put, List.setIfInBounds_toArray, List.set_cons_zero, List.set_cons_succ]
  refine wpAnyH_ready (rs := [11]) (by kernel_rfl) (by simp) ?_
  refine AllReadyH.cons rfl (fun K hK => ?_) AllReadyH.nil
  go_simp
  refine (HVQ.out _).mono ?_
  rintro e w5 ⟨rfl, hkv⟩
  go_wp2_with fail
  have hH1 := Keeps.trans hH0 (hkv.mono (fun _ _ h => h.elim)) (fun _ _ h => h)
  refine hK.out _ _ hH1 (fun _ => ?_)
  clear hK K
  try simp only [Act.put, List.setIfInBounds_toArray, List.set_cons_zero, List.set_cons_succ]
  refine wpAnyH_take (i := 12) (v := ?_) rfl (by kernel_rfl) (by kernel_rfl) (by kernel_rfl) (fun _ _ _ h => h) (Or.inl ⟨by go_simp, ?_⟩) hH1 ?_
  rotate_left
  · intro w' hSw
    go_simp
    try with_reducible rfl
  simp only [Act.put, List.setIfInBounds_toArray, List.set_cons_zero, List.set_cons_succ]
  have hk45 := ((Keeps.refl (fun _ => False) w4).drew).trans hkv (fun _ _ h => h)
  have hB5 := HB4.out.keep hk45
  obtain ⟨hq1, hq2⟩ := (HX4.out.keep hk45 (fun h => h)).putV vv
  obtain ⟨⟨g0, g1, g2, g3, g4, g5, g6, g7⟩, gf⟩ := (HX4.out.keep hk45 (fun h => h)).cells
  simp only at g0 g1 g2 g3 g4 g5 g6 g7
  refine wpAnyH_ready (rs := [13]) (by kernel_rfl) (by simp) ?_
  refine AllReadyH.cons rfl (fun K hK => ?_) AllReadyH.nil
  go_simp
  refine hK.out _ _ (hH1.trans hq2 (fun _ _ h => h)) (fun _ => ?_)
  clear hK K
  try simp only [Act.put, List.setIfInBounds_toArray, List.set_cons_zero, List.set_cons_succ]
  refine wpAnyH_done (by kernel_rfl) ?_ _
  clear v0 v1 v2 v3 v4 v5 z0 z1 z2 z3 z4 z5 z6 z7 zf g0 g1 g2 g3 g4 g5 g6 g7 gf m1 hH0 hH1 hkv hk45
  have HX6 := Lib.hid hq1
  have HY6 := Lib.hid (hB5.res.keep hq2 (fun e => by have e : y = z := e; have := HZW.out; omega))
  have HK6 := Lib.hid (hB5.k.trans hq2 (fun b hb e => by have e : b = z := e; have := HZW.out; omega))
  have HLOW := Lib.hid hB5.low
  clear hq1 hq2 hB5
  generalize World.setCell w5 _ _ = w6 at *
  go_upto_region 25 with fail
  obtain ⟨⟨z0, z1, z2, z3, z4, z5, z6, z7⟩, zf⟩ := HX6.out.cells
  simp only at z0 z1 z2 z3 z4 z5 z6 z7
  have HQ := Lib.hid (HY6.out.put (o' := ⟨k, (kd : Int), (ka : Int), (kb : Int), im, t⟩) (v' := vv) (a' := 0))
  obtain ⟨⟨y0, y1, y2, y3, y4, y5, y6, y7⟩, gf⟩ := HY6.out.cells
  simp only at y0 y1 y2 y3 y4 y5 y6 y7
  go_wp2_with fail
  refine bodyPost_ret (results_hres rfl _ _ y ⟨k, (kd : Int), (ka : Int), (kb : Int), im, t⟩ (vv) (0) rfl HQ.out.1) rfl ?_
  exact ReadIs.of (t := true) HPL.out.1 HPL.out.2.1 HPL.out.2.2 HK6.out HLOW.out HQ.out.2
end Go.Proofs.YtknhfobcejpmeaaGreatDoor

/- HostRead -/
/- The walk of host.read. Printed by gen/hostread.py. -/
namespace Go.Proofs.YtknhfobcejpmeaaGreatDoor
open Go.RowKit Go.Deep
set_option linter.unusedVariables false
set_option linter.unusedSimpArgs false

theorem read_any (B mb r pb pw ph cp : Nat) (c : Ir.Mc) (m : Nat → Int) (W : Int → Bool) (o : Ir.Op) (w : World) (ea : Nat → Addr) (E : Errs3 w ea) (M : MachAt w B mb r c) (R : RamAt w r pb pw ph cp m) (hW : WatchAt w pw W)
    (hok : Ir.McOk W c) (hi : Ir.OpIn o) (hB : B ≤ w.heap.size) :
    Calls Tryz.prog 97 #[.pointer (some ⟨mb, 0, none⟩), .agg (opC o)] w (ReadIs w c.X (Ir.pend m c.ws) W o) := by
  obtain ⟨k, d, a, b, im, t⟩ := o
  have hle := Ir.kn_le k
  have h0 := hi.k
  simp only at h0
  rcases (show Ir.kn k = 1 ∨ Ir.kn k = 2 ∨ Ir.kn k = 3 ∨ Ir.kn k = 4 ∨ Ir.kn k = 5 ∨ Ir.kn k = 6 ∨ Ir.kn k = 7 ∨ Ir.kn k = 8 ∨ Ir.kn k = 9 ∨ 10 ≤ Ir.kn k by omega) with h | h | h | h | h | h | h | h | h | h
  · exact read_set B mb r pb pw ph cp c m W k d a b im t w ea E M R hW hok hi h hB
  · exact read_copy B mb r pb pw ph cp c m W k d a b im t w ea E M R hW hok hi h hB
  · exact read_overp B mb r pb pw ph cp c m W k d a b im t w ea E M R hW hok hi h hB
  · exact read_overm B mb r pb pw ph cp c m W k d a b im t w ea E M R hW hok hi h hB
  · by_cases hr : rightC (Ir.adr (Ir.rg c.X a) im) b.natAbs = 0
    · exact read_load_ok B mb r pb pw ph cp c m W k d a b im t w ea E M R hW hok hi h hr hB
    · exact read_load_bad B mb r pb pw ph cp c m W k d a b im t w ea E M R hW hok hi h hr hB
  · exact read_store B mb r pb pw ph cp c m W k d a b im t w ea E M R hW hok hi h hB
  · exact read_if B mb r pb pw ph cp c m W k d a b im t w ea E M R hW hok hi h hB
  · exact read_out B mb r pb pw ph cp c m W k d a b im t w ea E M R hW hok hi h hB
  · exact read_outr B mb r pb pw ph cp c m W k d a b im t w ea E M R hW hok hi h hB
  · exact read_sum B mb r pb pw ph cp c m W k d a b im t w ea E M R hW hok hi h hB
end Go.Proofs.YtknhfobcejpmeaaGreatDoor
