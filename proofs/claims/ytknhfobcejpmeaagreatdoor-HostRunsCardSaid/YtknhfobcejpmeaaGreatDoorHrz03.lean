import Derived.Test.YtknhfobcejpmeaaGreatDoorHrz02

/- ResOf1 -/
/- The walk of the reference's ResultOf. Printed by gen/resof.py. -/
namespace Go.Proofs.YtknhfobcejpmeaaGreatDoor
open Go.RowKit Go.Deep
set_option linter.unusedVariables false
set_option linter.unusedSimpArgs false

set_option maxHeartbeats 4000000 in
set_option maxRecDepth 100000 in
theorem res_loadu_bad (X : Nat → Int) (k : ByteArray) (d a b im t : Int) (q wb tb hb : Nat) (m : Nat → Int) (wt ht : Nat → Bool) (W : Int → Bool) (w : World) (R : RefAt w q wb tb hb m wt ht) (hW : ∀ p : Nat, p < 64 → wt p = W p) (hX : ∀ k, k < 64 → 0 ≤ X k ∧ X k < 4294967296)
    (hi : Ir.OpIn ⟨k, d, a, b, im, t⟩) (hk : Ir.kn k = 5) (nb : Nat) (hnb : nb = 1 ∨ nb = 2 ∨ nb = 4) (hbn : b = (nb : Int)) (hrc : rightC (Ir.adr (Ir.rg X a) im) nb ≠ 0) :
    Calls Tryz.prog 64 #[.agg (regL X).toArray, .pointer (some ⟨q, 0, none⟩), .agg #[.string k, .int .i64 d, .int .i64 a, .int .i64 b, .int .u32 im, .int .i64 t]] w (ResIs w (Ir.resOf X m W ⟨k, d, a, b, im, t⟩)) := by
  have hin := hi
  obtain ⟨_, hid, hia, hib, hil, his, him⟩ := hi
  simp only at hid hia hib hil his him
  obtain ⟨ka, rfl⟩ := Int.eq_ofNat_of_zero_le hia.1
  have hka : ka < 64 := by omega
  have hza : (ka : Int) < 64 := by omega
  have xa := hX ka hka
  subst hbn
  have HK := Ir.kinds k 5 hk
  simp only [Nat.reduceBEq] at HK
  obtain ⟨k1, k2, k3, k4, k5, k6, k7, k8, k9, k10, k11, k12, k13, k14, k15, k16, k17, k18, k19, k20, k21, k22, k23, k24, k25, k26, k27⟩ := HK
  obtain ⟨na, hna⟩ : ∃ na : Nat, Ir.adr (X ka) im = na := ⟨(Ir.adr (X ka) im).toNat, by unfold Ir.adr; omega⟩
  have hlt : na < 4294967296 := by unfold Ir.adr at hna; omega
  have had : (X ka + im) % 4294967296 = (na : Int) := hna
  have hrc2 : rightC (na : Int) nb ≠ 0 := by rw [← hna]; exact hrc
  have HRES := Lib.hid (show Ir.resOf X m W ⟨k, d, (ka : Int), (nb : Int), im, t⟩ = ⟨0, 0, true, false⟩ by
    have e1 : Ir.adr (Ir.rg X (ka : Int)) im = (na : Int) := hna
    have e2 : ((nb : Int) : Int).natAbs = nb := by omega
    have e3 : decide ((nb : Int) < 0) = false := decide_eq_false (by omega)
    unfold Ir.resOf
    simp only [hk, e1, e2, e3]
    simp [hrc2, Int.toNat_natCast])
  have hwf : (Lit.int .i64 (nb : Int)).wf = true := WalkArith.wf_i64 (by omega)
  have HLD := Lib.hid (fun (w3 : World) (kk : Keeps (fun _ => False) w w3) n => quiet_same (n := n) (rload_bad ⟨q, 0, none⟩ na nb false (w3.drewN n) ⟨by omega, by omega⟩ hwf hrc2))
  have e1 : 0 < rightC (na : Int) nb := by unfold rightC at hrc2 ⊢; split <;> (try split) <;> (try split) <;> simp_all
  have e2 : decide (0 < rightC (na : Int) nb) = true := decide_eq_true e1
  generalize rightC (na : Int) nb = rc at *
  have HPL := Lib.hid (fun (w3 : World) n => quiet_same (n := n) (rplus_any (X ka) im (w3.drewN n) xa him))
  rw [had] at HPL
  have hnb0 : 1 ≤ nb ∧ nb ≤ 4 := by omega
  have tl : decide ((nb : Int) < 0) = false := decide_eq_false (by omega)
  clear hrc hna had hnb hrc2
  have HO := Lib.hid (res_open w X k d (ka : Int) (nb : Int) im t 132 100)
  have HR := Lib.hid R
  have HW := Lib.hid hW
  have HX := Lib.hid hX
  clear R hW hid hia hib hil his hX
  go_enter Tryz.func64, Tryz.ntmps64
  go_upto_region 1 with fail
  have hO := HO.out
  clear HO
  generalize World.alloc _ _ = w3 at *
  obtain ⟨x, hx⟩ : ∃ x, w.heap.size = x := ⟨_, rfl⟩
  rw [hx] at hO ⊢
  clear hx
  obtain ⟨y, hy⟩ : ∃ y, x + 1 = y := ⟨_, rfl⟩
  rw [hy] at hO ⊢
  clear hy
  obtain ⟨z, hz⟩ : ∃ z, y + 1 = z := ⟨_, rfl⟩
  rw [hz] at hO ⊢
  clear hz
  have HO := Lib.hid hO
  obtain ⟨v0, v1, v2, v3, v4, v5⟩ := hO.op
  simp only at v0 v1 v2 v3 v4 v5
  have ma := hO.regs ka hka
  obtain ⟨_, g0, g1, g2, g3⟩ := hO.box.cells
  have HLD3 := Lib.hid (HLD.out w3 HO.out.k)
  clear HLD
  go_upto_region 20 with fail
  go_quiet (first | (go_at_call 67; exact HPL.out _ _) | (go_at_call 104; exact HLD3.out _))
  generalize hwd : World.drewN w3 _ = w4
  have hkd : Keeps (fun _ => False) w3 w4 := by rw [← hwd]; exact Keeps.of_drewN _ _ _
  have HO4 := Lib.hid (HO.out.keep hkd)
  clear hwd hkd hO v0 v1 v2 v3 v4 v5 ma g0 g1 g2 g3
  obtain ⟨_, g0, g1, g2, g3⟩ := HO4.out.box.cells
  obtain ⟨hp1, hp2⟩ := HO4.out.box.put (r' := ⟨0, 0, true, false⟩)
  have HP := Lib.hid hp1
  have HPK := Lib.hid hp2
  clear hp1 hp2
  go_wp2_with fail
  refine bodyPost_ret (results_cell_row rfl _ _ z 130 (resC ⟨0, 0, true, false⟩) (0, 0) _ rfl HP.out.blk Tryz.underlying130 rfl size_res) rfl ?_
  rw [HRES.out]
  exact ResIs.of HO4.out HPK.out
set_option maxHeartbeats 4000000 in
set_option maxRecDepth 100000 in
theorem res_loads_ok (X : Nat → Int) (k : ByteArray) (d a b im t : Int) (q wb tb hb : Nat) (m : Nat → Int) (wt ht : Nat → Bool) (W : Int → Bool) (w : World) (R : RefAt w q wb tb hb m wt ht) (hW : ∀ p : Nat, p < 64 → wt p = W p) (hX : ∀ k, k < 64 → 0 ≤ X k ∧ X k < 4294967296)
    (hi : Ir.OpIn ⟨k, d, a, b, im, t⟩) (hk : Ir.kn k = 5) (nb : Nat) (hnb : nb = 1 ∨ nb = 2 ∨ nb = 4) (hbn : b = (-(nb : Int))) (hrc : rightC (Ir.adr (Ir.rg X a) im) nb = 0) :
    Calls Tryz.prog 64 #[.agg (regL X).toArray, .pointer (some ⟨q, 0, none⟩), .agg #[.string k, .int .i64 d, .int .i64 a, .int .i64 b, .int .u32 im, .int .i64 t]] w (ResIs w (Ir.resOf X m W ⟨k, d, a, b, im, t⟩)) := by
  have hin := hi
  obtain ⟨_, hid, hia, hib, hil, his, him⟩ := hi
  simp only at hid hia hib hil his him
  obtain ⟨ka, rfl⟩ := Int.eq_ofNat_of_zero_le hia.1
  have hka : ka < 64 := by omega
  have hza : (ka : Int) < 64 := by omega
  have xa := hX ka hka
  subst hbn
  have HK := Ir.kinds k 5 hk
  simp only [Nat.reduceBEq] at HK
  obtain ⟨k1, k2, k3, k4, k5, k6, k7, k8, k9, k10, k11, k12, k13, k14, k15, k16, k17, k18, k19, k20, k21, k22, k23, k24, k25, k26, k27⟩ := HK
  obtain ⟨na, hna⟩ : ∃ na : Nat, Ir.adr (X ka) im = na := ⟨(Ir.adr (X ka) im).toNat, by unfold Ir.adr; omega⟩
  have hlt : na < 4294967296 := by unfold Ir.adr at hna; omega
  have had : (X ka + im) % 4294967296 = (na : Int) := hna
  have hrc2 : rightC (na : Int) nb = 0 := by rw [← hna]; exact hrc
  have HRES := Lib.hid (show Ir.resOf X m W ⟨k, d, (ka : Int), (-(nb : Int)), im, t⟩ = ⟨Wd.wide (be m na nb) (8 * nb) true, 0, false, false⟩ by
    have e1 : Ir.adr (Ir.rg X (ka : Int)) im = (na : Int) := hna
    have e2 : ((-(nb : Int)) : Int).natAbs = nb := by omega
    have e3 : decide ((-(nb : Int)) < 0) = true := decide_eq_true (by omega)
    unfold Ir.resOf
    simp only [hk, e1, e2, e3]
    simp [hrc2, Int.toNat_natCast])
  have HLD := Lib.hid (fun (w3 : World) (kk : Keeps (fun _ => False) w w3) n => quiet_same (n := n) (rload_ok q wb tb hb m wt ht na nb true (w3.drewN n) ((R.keep kk ⟨fun h => h, fun h => h, fun h => h, fun h => h⟩).keep ((Keeps.refl (fun _ => False) w3).drewN n) ⟨fun h => h, fun h => h, fun h => h, fun h => h⟩) hrc2))
  have HPL := Lib.hid (fun (w3 : World) n => quiet_same (n := n) (rplus_any (X ka) im (w3.drewN n) xa him))
  rw [had] at HPL
  have hnb0 : 1 ≤ nb ∧ nb ≤ 4 := by omega
  have tl : decide ((-(nb : Int)) < 0) = true := decide_eq_true (by omega)
  clear hrc hna had hnb hrc2
  have HO := Lib.hid (res_open w X k d (ka : Int) (-(nb : Int)) im t 132 100)
  have HR := Lib.hid R
  have HW := Lib.hid hW
  have HX := Lib.hid hX
  clear R hW hid hia hib hil his hX
  go_enter Tryz.func64, Tryz.ntmps64
  go_upto_region 1 with fail
  have hO := HO.out
  clear HO
  generalize World.alloc _ _ = w3 at *
  obtain ⟨x, hx⟩ : ∃ x, w.heap.size = x := ⟨_, rfl⟩
  rw [hx] at hO ⊢
  clear hx
  obtain ⟨y, hy⟩ : ∃ y, x + 1 = y := ⟨_, rfl⟩
  rw [hy] at hO ⊢
  clear hy
  obtain ⟨z, hz⟩ : ∃ z, y + 1 = z := ⟨_, rfl⟩
  rw [hz] at hO ⊢
  clear hz
  have HO := Lib.hid hO
  obtain ⟨v0, v1, v2, v3, v4, v5⟩ := hO.op
  simp only at v0 v1 v2 v3 v4 v5
  have ma := hO.regs ka hka
  obtain ⟨_, g0, g1, g2, g3⟩ := hO.box.cells
  have HLD3 := Lib.hid (HLD.out w3 HO.out.k)
  clear HLD
  go_upto_region 20 with fail
  go_quiet (first | (go_at_call 67; exact HPL.out _ _) | (go_at_call 104; exact HLD3.out _))
  generalize hwd : World.drewN w3 _ = w4
  have hkd : Keeps (fun _ => False) w3 w4 := by rw [← hwd]; exact Keeps.of_drewN _ _ _
  have HO4 := Lib.hid (HO.out.keep hkd)
  clear hwd hkd hO v0 v1 v2 v3 v4 v5 ma g0 g1 g2 g3
  obtain ⟨_, g0, g1, g2, g3⟩ := HO4.out.box.cells
  obtain ⟨hp1, hp2⟩ := HO4.out.box.put (r' := ⟨Wd.wide (be m na nb) (8 * nb) true, 0, false, false⟩)
  have HP := Lib.hid hp1
  have HPK := Lib.hid hp2
  clear hp1 hp2
  go_wp2_with fail
  refine bodyPost_ret (results_cell_row rfl _ _ z 130 (resC ⟨Wd.wide (be m na nb) (8 * nb) true, 0, false, false⟩) (0, 0) _ rfl HP.out.blk Tryz.underlying130 rfl size_res) rfl ?_
  rw [HRES.out]
  exact ResIs.of HO4.out HPK.out
set_option maxHeartbeats 4000000 in
set_option maxRecDepth 100000 in
theorem res_loads_bad (X : Nat → Int) (k : ByteArray) (d a b im t : Int) (q wb tb hb : Nat) (m : Nat → Int) (wt ht : Nat → Bool) (W : Int → Bool) (w : World) (R : RefAt w q wb tb hb m wt ht) (hW : ∀ p : Nat, p < 64 → wt p = W p) (hX : ∀ k, k < 64 → 0 ≤ X k ∧ X k < 4294967296)
    (hi : Ir.OpIn ⟨k, d, a, b, im, t⟩) (hk : Ir.kn k = 5) (nb : Nat) (hnb : nb = 1 ∨ nb = 2 ∨ nb = 4) (hbn : b = (-(nb : Int))) (hrc : rightC (Ir.adr (Ir.rg X a) im) nb ≠ 0) :
    Calls Tryz.prog 64 #[.agg (regL X).toArray, .pointer (some ⟨q, 0, none⟩), .agg #[.string k, .int .i64 d, .int .i64 a, .int .i64 b, .int .u32 im, .int .i64 t]] w (ResIs w (Ir.resOf X m W ⟨k, d, a, b, im, t⟩)) := by
  have hin := hi
  obtain ⟨_, hid, hia, hib, hil, his, him⟩ := hi
  simp only at hid hia hib hil his him
  obtain ⟨ka, rfl⟩ := Int.eq_ofNat_of_zero_le hia.1
  have hka : ka < 64 := by omega
  have hza : (ka : Int) < 64 := by omega
  have xa := hX ka hka
  subst hbn
  have HK := Ir.kinds k 5 hk
  simp only [Nat.reduceBEq] at HK
  obtain ⟨k1, k2, k3, k4, k5, k6, k7, k8, k9, k10, k11, k12, k13, k14, k15, k16, k17, k18, k19, k20, k21, k22, k23, k24, k25, k26, k27⟩ := HK
  obtain ⟨na, hna⟩ : ∃ na : Nat, Ir.adr (X ka) im = na := ⟨(Ir.adr (X ka) im).toNat, by unfold Ir.adr; omega⟩
  have hlt : na < 4294967296 := by unfold Ir.adr at hna; omega
  have had : (X ka + im) % 4294967296 = (na : Int) := hna
  have hrc2 : rightC (na : Int) nb ≠ 0 := by rw [← hna]; exact hrc
  have HRES := Lib.hid (show Ir.resOf X m W ⟨k, d, (ka : Int), (-(nb : Int)), im, t⟩ = ⟨0, 0, true, false⟩ by
    have e1 : Ir.adr (Ir.rg X (ka : Int)) im = (na : Int) := hna
    have e2 : ((-(nb : Int)) : Int).natAbs = nb := by omega
    have e3 : decide ((-(nb : Int)) < 0) = true := decide_eq_true (by omega)
    unfold Ir.resOf
    simp only [hk, e1, e2, e3]
    simp [hrc2, Int.toNat_natCast])
  have hwf : (Lit.int .i64 (nb : Int)).wf = true := WalkArith.wf_i64 (by omega)
  have HLD := Lib.hid (fun (w3 : World) (kk : Keeps (fun _ => False) w w3) n => quiet_same (n := n) (rload_bad ⟨q, 0, none⟩ na nb true (w3.drewN n) ⟨by omega, by omega⟩ hwf hrc2))
  have e1 : 0 < rightC (na : Int) nb := by unfold rightC at hrc2 ⊢; split <;> (try split) <;> (try split) <;> simp_all
  have e2 : decide (0 < rightC (na : Int) nb) = true := decide_eq_true e1
  generalize rightC (na : Int) nb = rc at *
  have HPL := Lib.hid (fun (w3 : World) n => quiet_same (n := n) (rplus_any (X ka) im (w3.drewN n) xa him))
  rw [had] at HPL
  have hnb0 : 1 ≤ nb ∧ nb ≤ 4 := by omega
  have tl : decide ((-(nb : Int)) < 0) = true := decide_eq_true (by omega)
  clear hrc hna had hnb hrc2
  have HO := Lib.hid (res_open w X k d (ka : Int) (-(nb : Int)) im t 132 100)
  have HR := Lib.hid R
  have HW := Lib.hid hW
  have HX := Lib.hid hX
  clear R hW hid hia hib hil his hX
  go_enter Tryz.func64, Tryz.ntmps64
  go_upto_region 1 with fail
  have hO := HO.out
  clear HO
  generalize World.alloc _ _ = w3 at *
  obtain ⟨x, hx⟩ : ∃ x, w.heap.size = x := ⟨_, rfl⟩
  rw [hx] at hO ⊢
  clear hx
  obtain ⟨y, hy⟩ : ∃ y, x + 1 = y := ⟨_, rfl⟩
  rw [hy] at hO ⊢
  clear hy
  obtain ⟨z, hz⟩ : ∃ z, y + 1 = z := ⟨_, rfl⟩
  rw [hz] at hO ⊢
  clear hz
  have HO := Lib.hid hO
  obtain ⟨v0, v1, v2, v3, v4, v5⟩ := hO.op
  simp only at v0 v1 v2 v3 v4 v5
  have ma := hO.regs ka hka
  obtain ⟨_, g0, g1, g2, g3⟩ := hO.box.cells
  have HLD3 := Lib.hid (HLD.out w3 HO.out.k)
  clear HLD
  go_upto_region 20 with fail
  go_quiet (first | (go_at_call 67; exact HPL.out _ _) | (go_at_call 104; exact HLD3.out _))
  generalize hwd : World.drewN w3 _ = w4
  have hkd : Keeps (fun _ => False) w3 w4 := by rw [← hwd]; exact Keeps.of_drewN _ _ _
  have HO4 := Lib.hid (HO.out.keep hkd)
  clear hwd hkd hO v0 v1 v2 v3 v4 v5 ma g0 g1 g2 g3
  obtain ⟨_, g0, g1, g2, g3⟩ := HO4.out.box.cells
  obtain ⟨hp1, hp2⟩ := HO4.out.box.put (r' := ⟨0, 0, true, false⟩)
  have HP := Lib.hid hp1
  have HPK := Lib.hid hp2
  clear hp1 hp2
  go_wp2_with fail
  refine bodyPost_ret (results_cell_row rfl _ _ z 130 (resC ⟨0, 0, true, false⟩) (0, 0) _ rfl HP.out.blk Tryz.underlying130 rfl size_res) rfl ?_
  rw [HRES.out]
  exact ResIs.of HO4.out HPK.out
set_option maxHeartbeats 4000000 in
set_option maxRecDepth 100000 in
theorem res_store_bad (X : Nat → Int) (k : ByteArray) (d a b im t : Int) (q wb tb hb : Nat) (m : Nat → Int) (wt ht : Nat → Bool) (W : Int → Bool) (w : World) (R : RefAt w q wb tb hb m wt ht) (hW : ∀ p : Nat, p < 64 → wt p = W p) (hX : ∀ k, k < 64 → 0 ≤ X k ∧ X k < 4294967296)
    (hi : Ir.OpIn ⟨k, d, a, b, im, t⟩) (hk : Ir.kn k = 6) (hrc : rightC (Ir.adr (Ir.rg X a) im) d ≠ 0) :
    Calls Tryz.prog 64 #[.agg (regL X).toArray, .pointer (some ⟨q, 0, none⟩), .agg #[.string k, .int .i64 d, .int .i64 a, .int .i64 b, .int .u32 im, .int .i64 t]] w (ResIs w (Ir.resOf X m W ⟨k, d, a, b, im, t⟩)) := by
  have hin := hi
  obtain ⟨_, hid, hia, hib, hil, his, him⟩ := hi
  simp only at hid hia hib hil his him
  obtain ⟨ka, rfl⟩ := Int.eq_ofNat_of_zero_le hia.1
  have hka : ka < 64 := by omega
  have hza : (ka : Int) < 64 := by omega
  have xa := hX ka hka
  obtain ⟨kb, rfl⟩ := Int.eq_ofNat_of_zero_le (hib (by omega)).1
  have hkb : kb < 64 := by have := hib (by omega); omega
  have hzb : (kb : Int) < 64 := by omega
  have xb := hX kb hkb
  obtain ⟨kd, rfl⟩ := Int.eq_ofNat_of_zero_le (show 0 ≤ d by have := his hk; omega)
  have hkd : kd = 1 ∨ kd = 2 ∨ kd = 4 := by have := his hk; omega
  have HK := Ir.kinds k 6 hk
  simp only [Nat.reduceBEq] at HK
  obtain ⟨k1, k2, k3, k4, k5, k6, k7, k8, k9, k10, k11, k12, k13, k14, k15, k16, k17, k18, k19, k20, k21, k22, k23, k24, k25, k26, k27⟩ := HK
  obtain ⟨na, hna⟩ : ∃ na : Nat, Ir.adr (X ka) im = na := ⟨(Ir.adr (X ka) im).toNat, by unfold Ir.adr; omega⟩
  have hlt : na < 4294967296 := by unfold Ir.adr at hna; omega
  have had : (X ka + im) % 4294967296 = (na : Int) := hna
  have hrc2 : rightC (na : Int) kd ≠ 0 := by rw [← hna]; exact hrc
  have HRES := Lib.hid (show Ir.resOf X m W ⟨k, (kd : Int), (ka : Int), (kb : Int), im, t⟩ = ⟨0, 0, true, false⟩ by
    have e1 : Ir.adr (Ir.rg X (ka : Int)) im = (na : Int) := hna
    unfold Ir.resOf
    simp only [hk, e1]
    simp [hrc2, Ir.rg])
  have HPL := Lib.hid (fun w => rplus_any (X ka) im w xa him)
  rw [had] at HPL
  have hwf : (Lit.int .i64 (kd : Int)).wf = true := WalkArith.wf_i64 (by omega)
  have HRE := Lib.hid (fun w => reach_any na kd w ⟨by omega, by omega⟩ hwf)
  have e1 : 0 < rightC (na : Int) kd := by unfold rightC at hrc2 ⊢; split <;> (try split) <;> (try split) <;> simp_all
  have e2 : decide (0 < rightC (na : Int) kd) = true := decide_eq_true e1
  generalize rightC (na : Int) kd = rc at *
  clear hrc hna had hrc2
  have HO := Lib.hid (res_open w X k (kd : Int) (ka : Int) (kb : Int) im t 132 100)
  have HR := Lib.hid R
  have HW := Lib.hid hW
  have HX := Lib.hid hX
  clear R hW hid hia hib hil his hX
  go_enter Tryz.func64, Tryz.ntmps64
  go_upto_region 1 with fail
  have hO := HO.out
  clear HO
  generalize World.alloc _ _ = w3 at *
  obtain ⟨x, hx⟩ : ∃ x, w.heap.size = x := ⟨_, rfl⟩
  rw [hx] at hO ⊢
  clear hx
  obtain ⟨y, hy⟩ : ∃ y, x + 1 = y := ⟨_, rfl⟩
  rw [hy] at hO ⊢
  clear hy
  obtain ⟨z, hz⟩ : ∃ z, y + 1 = z := ⟨_, rfl⟩
  rw [hz] at hO ⊢
  clear hz
  have HO := Lib.hid hO
  obtain ⟨v0, v1, v2, v3, v4, v5⟩ := hO.op
  simp only at v0 v1 v2 v3 v4 v5
  have ma := hO.regs ka hka
  obtain ⟨_, g0, g1, g2, g3⟩ := hO.box.cells
  have mb := HO.out.regs kb hkb
  go_wp2_with fail
  refine (HPL.out _).mono ?_
  rintro e w' ⟨rfl, rfl⟩
  go_wp2_with fail
  refine (HRE.out _).mono ?_
  rintro e w' ⟨rfl, rfl⟩
  obtain ⟨hp1, hp2⟩ := HO.out.box.put (r' := ⟨0, 0, true, false⟩)
  have HP := Lib.hid hp1
  have HPK := Lib.hid hp2
  clear hp1 hp2 hO
  go_wp2_with fail
  refine bodyPost_ret (results_cell_row rfl _ _ z 130 (resC ⟨0, 0, true, false⟩) (0, 0) _ rfl HP.out.blk Tryz.underlying130 rfl size_res) rfl ?_
  rw [HRES.out]
  exact ResIs.of HO.out HPK.out
set_option maxHeartbeats 4000000 in
set_option maxRecDepth 100000 in
theorem res_store_ok (X : Nat → Int) (k : ByteArray) (d a b im t : Int) (q wb tb hb : Nat) (m : Nat → Int) (wt ht : Nat → Bool) (W : Int → Bool) (w : World) (R : RefAt w q wb tb hb m wt ht) (hW : ∀ p : Nat, p < 64 → wt p = W p) (hX : ∀ k, k < 64 → 0 ≤ X k ∧ X k < 4294967296)
    (hi : Ir.OpIn ⟨k, d, a, b, im, t⟩) (hk : Ir.kn k = 6) (hrc : rightC (Ir.adr (Ir.rg X a) im) d = 0) :
    Calls Tryz.prog 64 #[.agg (regL X).toArray, .pointer (some ⟨q, 0, none⟩), .agg #[.string k, .int .i64 d, .int .i64 a, .int .i64 b, .int .u32 im, .int .i64 t]] w (ResIs w (Ir.resOf X m W ⟨k, d, a, b, im, t⟩)) := by
  have hin := hi
  obtain ⟨_, hid, hia, hib, hil, his, him⟩ := hi
  simp only at hid hia hib hil his him
  obtain ⟨ka, rfl⟩ := Int.eq_ofNat_of_zero_le hia.1
  have hka : ka < 64 := by omega
  have hza : (ka : Int) < 64 := by omega
  have xa := hX ka hka
  obtain ⟨kb, rfl⟩ := Int.eq_ofNat_of_zero_le (hib (by omega)).1
  have hkb : kb < 64 := by have := hib (by omega); omega
  have hzb : (kb : Int) < 64 := by omega
  have xb := hX kb hkb
  obtain ⟨kd, rfl⟩ := Int.eq_ofNat_of_zero_le (show 0 ≤ d by have := his hk; omega)
  have hkd : kd = 1 ∨ kd = 2 ∨ kd = 4 := by have := his hk; omega
  have HK := Ir.kinds k 6 hk
  simp only [Nat.reduceBEq] at HK
  obtain ⟨k1, k2, k3, k4, k5, k6, k7, k8, k9, k10, k11, k12, k13, k14, k15, k16, k17, k18, k19, k20, k21, k22, k23, k24, k25, k26, k27⟩ := HK
  obtain ⟨na, hna⟩ : ∃ na : Nat, Ir.adr (X ka) im = na := ⟨(Ir.adr (X ka) im).toNat, by unfold Ir.adr; omega⟩
  have hlt : na < 4294967296 := by unfold Ir.adr at hna; omega
  have had : (X ka + im) % 4294967296 = (na : Int) := hna
  have hrc2 : rightC (na : Int) kd = 0 := by rw [← hna]; exact hrc
  have HRES := Lib.hid (show Ir.resOf X m W ⟨k, (kd : Int), (ka : Int), (kb : Int), im, t⟩ = ⟨X kb, (na : Int), W ((na : Int) / 256), false⟩ by
    have e1 : Ir.adr (Ir.rg X (ka : Int)) im = (na : Int) := hna
    unfold Ir.resOf
    simp only [hk, e1]
    simp [hrc2, Ir.rg])
  have HPL := Lib.hid (fun w => rplus_any (X ka) im w xa him)
  rw [had] at HPL
  have hwf : (Lit.int .i64 (kd : Int)).wf = true := WalkArith.wf_i64 (by omega)
  have HRE := Lib.hid (fun w => reach_any na kd w ⟨by omega, by omega⟩ hwf)
  have hlt2 : na < 16384 := by have := rightC_ok hrc2; omega
  have hwp := hW (na / 256) (by omega)
  rw [show ((na / 256 : Nat) : Int) = (na : Int) / 256 by omega] at hwp
  have HWP := Lib.hid hwp
  have q1 : ((na : Int) / 256).toNat = na / 256 := by omega
  have q5 : (na : Int) / 256 < 64 := by omega
  rw [hrc2] at HRE
  clear hwp
  clear hrc hna had hrc2
  have HO := Lib.hid (res_open w X k (kd : Int) (ka : Int) (kb : Int) im t 132 100)
  have HR := Lib.hid R
  have HW := Lib.hid hW
  have HX := Lib.hid hX
  clear R hW hid hia hib hil his hX
  go_enter Tryz.func64, Tryz.ntmps64
  go_upto_region 1 with fail
  have hO := HO.out
  clear HO
  generalize World.alloc _ _ = w3 at *
  obtain ⟨x, hx⟩ : ∃ x, w.heap.size = x := ⟨_, rfl⟩
  rw [hx] at hO ⊢
  clear hx
  obtain ⟨y, hy⟩ : ∃ y, x + 1 = y := ⟨_, rfl⟩
  rw [hy] at hO ⊢
  clear hy
  obtain ⟨z, hz⟩ : ∃ z, y + 1 = z := ⟨_, rfl⟩
  rw [hz] at hO ⊢
  clear hz
  have HO := Lib.hid hO
  obtain ⟨v0, v1, v2, v3, v4, v5⟩ := hO.op
  simp only at v0 v1 v2 v3 v4 v5
  have ma := hO.regs ka hka
  obtain ⟨_, g0, g1, g2, g3⟩ := hO.box.cells
  have mb := HO.out.regs kb hkb
  go_wp2_with fail
  refine (HPL.out _).mono ?_
  rintro e w' ⟨rfl, rfl⟩
  go_wp2_with fail
  refine (HRE.out _).mono ?_
  rintro e w' ⟨rfl, rfl⟩
  have hR3 := HR.out.keep HO.out.k ⟨fun h => h, fun h => h, fun h => h, fun h => h⟩
  have c2 := cell_at hR3.raw.box 1
  have c3 := hR3.raw.watch.cell (i := na / 256) (by omega)
  rw [HWP.out] at c3
  clear hR3
  obtain ⟨hp1, hp2⟩ := HO.out.box.put (r' := ⟨X kb, (na : Int), W ((na : Int) / 256), false⟩)
  have HP := Lib.hid hp1
  have HPK := Lib.hid hp2
  clear hp1 hp2 hO
  go_wp2_with fail
  refine bodyPost_ret (results_cell_row rfl _ _ z 130 (resC ⟨X kb, (na : Int), W ((na : Int) / 256), false⟩) (0, 0) _ rfl HP.out.blk Tryz.underlying130 rfl size_res) rfl ?_
  rw [HRES.out]
  exact ResIs.of HO.out HPK.out
set_option maxHeartbeats 4000000 in
set_option maxRecDepth 100000 in
theorem res_sum (X : Nat → Int) (k : ByteArray) (d a b im t : Int) (q wb tb hb : Nat) (m : Nat → Int) (wt ht : Nat → Bool) (W : Int → Bool) (w : World) (R : RefAt w q wb tb hb m wt ht) (hW : ∀ p : Nat, p < 64 → wt p = W p) (hX : ∀ k, k < 64 → 0 ≤ X k ∧ X k < 4294967296)
    (hi : Ir.OpIn ⟨k, d, a, b, im, t⟩) (hk : 10 ≤ Ir.kn k ∧ Ir.kn k < 24) :
    Calls Tryz.prog 64 #[.agg (regL X).toArray, .pointer (some ⟨q, 0, none⟩), .agg #[.string k, .int .i64 d, .int .i64 a, .int .i64 b, .int .u32 im, .int .i64 t]] w (ResIs w (Ir.resOf X m W ⟨k, d, a, b, im, t⟩)) := by
  have hin := hi
  obtain ⟨_, hid, hia, hib, hil, his, him⟩ := hi
  simp only at hid hia hib hil his him
  obtain ⟨ka, rfl⟩ := Int.eq_ofNat_of_zero_le hia.1
  have hka : ka < 64 := by omega
  have hza : (ka : Int) < 64 := by omega
  have xa := hX ka hka
  obtain ⟨kb, rfl⟩ := Int.eq_ofNat_of_zero_le (hib (by omega)).1
  have hkb : kb < 64 := by have := hib (by omega); omega
  have hzb : (kb : Int) < 64 := by omega
  have xb := hX kb hkb
  have HK := Ir.kinds k _ rfl
  obtain ⟨k1, k2, k3, k4, k5, k6, k7, k8, k9, k10, k11, k12, k13, k14, k15, k16, k17, k18, k19, k20, k21, k22, k23, k24, k25, k26, k27⟩ := HK
  rw [show (Ir.kn k == 1) = false by simp; omega] at k1
  rw [show (Ir.kn k == 2) = false by simp; omega] at k2
  rw [show (Ir.kn k == 3) = false by simp; omega] at k3
  rw [show (Ir.kn k == 4) = false by simp; omega] at k4
  rw [show (Ir.kn k == 5) = false by simp; omega] at k5
  rw [show (Ir.kn k == 6) = false by simp; omega] at k6
  rw [show (Ir.kn k == 7) = false by simp; omega] at k7
  rw [show (Ir.kn k == 8) = false by simp; omega] at k8
  rw [show (Ir.kn k == 9) = false by simp; omega] at k9
  clear k10 k11 k12 k13 k14 k15 k16 k17 k18 k19 k20 k21 k22 k23 k24 k25 k26 k27
  have k5n : (k.toList != [108, 111, 97, 100]) = true := by rw [bne, k5]; rfl
  have HRES := Lib.hid (show Ir.resOf X m W ⟨k, d, (ka : Int), (kb : Int), im, t⟩ = ⟨Ir.sumsV (Ir.kn k) (X ka) (X kb), 0, false, false⟩ by
    have e1 : Ir.isDiv (Ir.kn k) = false := by unfold Ir.isDiv; simp; omega
    unfold Ir.resOf Ir.value
    dsimp only
    rw [if_neg (by omega), if_neg (by omega), if_neg (by omega), if_neg (by omega), if_neg (by omega), if_neg (by omega), if_neg (by omega), if_neg (by omega), e1]
    rfl)
  have HDV := Lib.hid (fun w => isDiv_any k w)
  rw [show Ir.isDiv (Ir.kn k) = false by unfold Ir.isDiv; simp; omega] at HDV
  have HSM := Lib.hid (fun w => rsumOf_any k hk (X ka) (X kb) w xa xb)
  generalize Ir.sumsV (Ir.kn k) (X ka) (X kb) = sv at *
  have HO := Lib.hid (res_open w X k d (ka : Int) (kb : Int) im t 132 100)
  have HR := Lib.hid R
  have HW := Lib.hid hW
  have HX := Lib.hid hX
  clear R hW hid hia hib hil his hX
  go_enter Tryz.func64, Tryz.ntmps64
  go_upto_region 1 with fail
  have hO := HO.out
  clear HO
  generalize World.alloc _ _ = w3 at *
  obtain ⟨x, hx⟩ : ∃ x, w.heap.size = x := ⟨_, rfl⟩
  rw [hx] at hO ⊢
  clear hx
  obtain ⟨y, hy⟩ : ∃ y, x + 1 = y := ⟨_, rfl⟩
  rw [hy] at hO ⊢
  clear hy
  obtain ⟨z, hz⟩ : ∃ z, y + 1 = z := ⟨_, rfl⟩
  rw [hz] at hO ⊢
  clear hz
  have HO := Lib.hid hO
  obtain ⟨v0, v1, v2, v3, v4, v5⟩ := hO.op
  simp only at v0 v1 v2 v3 v4 v5
  have ma := hO.regs ka hka
  obtain ⟨_, g0, g1, g2, g3⟩ := hO.box.cells
  have mb := HO.out.regs kb hkb
  go_wp2_with fail
  refine (HDV.out _).mono ?_
  rintro e w' ⟨rfl, rfl⟩
  go_wp2_with fail
  refine (HSM.out _).mono ?_
  rintro e w' ⟨rfl, rfl⟩
  obtain ⟨hp1, hp2⟩ := HO.out.box.put (r' := ⟨sv, 0, false, false⟩)
  have HP := Lib.hid hp1
  have HPK := Lib.hid hp2
  clear hp1 hp2 hO
  go_wp2_with fail
  refine bodyPost_ret (results_cell_row rfl _ _ z 130 (resC ⟨sv, 0, false, false⟩) (0, 0) _ rfl HP.out.blk Tryz.underlying130 rfl size_res) rfl ?_
  rw [HRES.out]
  exact ResIs.of HO.out HPK.out
set_option maxHeartbeats 4000000 in
set_option maxRecDepth 100000 in
theorem res_div24_z (X : Nat → Int) (k : ByteArray) (d a b im t : Int) (q wb tb hb : Nat) (m : Nat → Int) (wt ht : Nat → Bool) (W : Int → Bool) (w : World) (R : RefAt w q wb tb hb m wt ht) (hW : ∀ p : Nat, p < 64 → wt p = W p) (hX : ∀ k, k < 64 → 0 ≤ X k ∧ X k < 4294967296)
    (hi : Ir.OpIn ⟨k, d, a, b, im, t⟩) (hk : Ir.kn k = 24) (hz : Ir.rg X b = 0) :
    Calls Tryz.prog 64 #[.agg (regL X).toArray, .pointer (some ⟨q, 0, none⟩), .agg #[.string k, .int .i64 d, .int .i64 a, .int .i64 b, .int .u32 im, .int .i64 t]] w (ResIs w (Ir.resOf X m W ⟨k, d, a, b, im, t⟩)) := by
  have hin := hi
  obtain ⟨_, hid, hia, hib, hil, his, him⟩ := hi
  simp only at hid hia hib hil his him
  obtain ⟨ka, rfl⟩ := Int.eq_ofNat_of_zero_le hia.1
  have hka : ka < 64 := by omega
  have hza : (ka : Int) < 64 := by omega
  have xa := hX ka hka
  obtain ⟨kb, rfl⟩ := Int.eq_ofNat_of_zero_le (hib (by omega)).1
  have hkb : kb < 64 := by have := hib (by omega); omega
  have hzb : (kb : Int) < 64 := by omega
  have xb := hX kb hkb
  obtain ⟨kd, rfl⟩ := Int.eq_ofNat_of_zero_le (show 0 ≤ d by have := hid (by omega); omega)
  have hkd : 1 ≤ kd ∧ kd < 64 := by have := hid (by omega); omega
  have hzd : (kd : Int) < 64 := by omega
  have HK := Ir.kinds k 24 hk
  simp only [Nat.reduceBEq] at HK
  obtain ⟨k1, k2, k3, k4, k5, k6, k7, k8, k9, k10, k11, k12, k13, k14, k15, k16, k17, k18, k19, k20, k21, k22, k23, k24, k25, k26, k27⟩ := HK
  have hz2 : X kb = 0 := hz
  have HRES := Lib.hid (show Ir.resOf X m W ⟨k, (kd : Int), (ka : Int), (kb : Int), im, t⟩ = ⟨X kd, 0, false, false⟩ by
    unfold Ir.resOf Ir.value Ir.isDiv
    simp only [hk]
    simp [Ir.rg, hz2])
  have HDV := Lib.hid (fun w => isDiv_any k w)
  rw [show Ir.isDiv (Ir.kn k) = true by rw [hk]; decide] at HDV
  have HDO := Lib.hid (fun w => divOf_any (X ka) (X kb) true w xa xb)
  rw [show (X kb != 0) = false by simp [hz2]] at HDO
  clear hz hz2
  have HO := Lib.hid (res_open w X k (kd : Int) (ka : Int) (kb : Int) im t 132 100)
  have HR := Lib.hid R
  have HW := Lib.hid hW
  have HX := Lib.hid hX
  clear R hW hid hia hib hil his hX
  go_enter Tryz.func64, Tryz.ntmps64
  go_upto_region 1 with fail
  have hO := HO.out
  clear HO
  generalize World.alloc _ _ = w3 at *
  obtain ⟨x, hx⟩ : ∃ x, w.heap.size = x := ⟨_, rfl⟩
  rw [hx] at hO ⊢
  clear hx
  obtain ⟨y, hy⟩ : ∃ y, x + 1 = y := ⟨_, rfl⟩
  rw [hy] at hO ⊢
  clear hy
  obtain ⟨z, hz⟩ : ∃ z, y + 1 = z := ⟨_, rfl⟩
  rw [hz] at hO ⊢
  clear hz
  have HO := Lib.hid hO
  obtain ⟨v0, v1, v2, v3, v4, v5⟩ := hO.op
  simp only at v0 v1 v2 v3 v4 v5
  have ma := hO.regs ka hka
  obtain ⟨_, g0, g1, g2, g3⟩ := hO.box.cells
  have mb := HO.out.regs kb hkb
  go_wp2_with fail
  refine (HDV.out _).mono ?_
  rintro e w' ⟨rfl, rfl⟩
  go_wp2_with fail
  refine (HDO.out _).mono ?_
  rintro e w4 ⟨rfl, n, hw4⟩
  have HO4 := Lib.hid (HO.out.keep (show Keeps (fun _ => False) _ w4 by rw [hw4]; exact (Keeps.refl _ _).drewN n))
  clear hw4 hO v0 v1 v2 v3 v4 v5 ma mb g0 g1 g2 g3
  obtain ⟨v0, v1, v2, v3, v4, v5⟩ := HO4.out.op
  simp only at v0 v1 v2 v3 v4 v5
  have md := HO4.out.regs kd hkd.2
  obtain ⟨_, g0, g1, g2, g3⟩ := HO4.out.box.cells
  obtain ⟨hp1, hp2⟩ := HO4.out.box.put (r' := ⟨X kd, 0, false, false⟩)
  have HP := Lib.hid hp1
  have HPK := Lib.hid hp2
  clear hp1 hp2
  go_wp2_with fail
  refine bodyPost_ret (results_cell_row rfl _ _ z 130 (resC ⟨X kd, 0, false, false⟩) (0, 0) _ rfl HP.out.blk Tryz.underlying130 rfl size_res) rfl ?_
  rw [HRES.out]
  exact ResIs.of HO4.out HPK.out
set_option maxHeartbeats 4000000 in
set_option maxRecDepth 100000 in
theorem res_div24_n (X : Nat → Int) (k : ByteArray) (d a b im t : Int) (q wb tb hb : Nat) (m : Nat → Int) (wt ht : Nat → Bool) (W : Int → Bool) (w : World) (R : RefAt w q wb tb hb m wt ht) (hW : ∀ p : Nat, p < 64 → wt p = W p) (hX : ∀ k, k < 64 → 0 ≤ X k ∧ X k < 4294967296)
    (hi : Ir.OpIn ⟨k, d, a, b, im, t⟩) (hk : Ir.kn k = 24) (hz : Ir.rg X b ≠ 0) :
    Calls Tryz.prog 64 #[.agg (regL X).toArray, .pointer (some ⟨q, 0, none⟩), .agg #[.string k, .int .i64 d, .int .i64 a, .int .i64 b, .int .u32 im, .int .i64 t]] w (ResIs w (Ir.resOf X m W ⟨k, d, a, b, im, t⟩)) := by
  have hin := hi
  obtain ⟨_, hid, hia, hib, hil, his, him⟩ := hi
  simp only at hid hia hib hil his him
  obtain ⟨ka, rfl⟩ := Int.eq_ofNat_of_zero_le hia.1
  have hka : ka < 64 := by omega
  have hza : (ka : Int) < 64 := by omega
  have xa := hX ka hka
  obtain ⟨kb, rfl⟩ := Int.eq_ofNat_of_zero_le (hib (by omega)).1
  have hkb : kb < 64 := by have := hib (by omega); omega
  have hzb : (kb : Int) < 64 := by omega
  have xb := hX kb hkb
  obtain ⟨kd, rfl⟩ := Int.eq_ofNat_of_zero_le (show 0 ≤ d by have := hid (by omega); omega)
  have hkd : 1 ≤ kd ∧ kd < 64 := by have := hid (by omega); omega
  have hzd : (kd : Int) < 64 := by omega
  have HK := Ir.kinds k 24 hk
  simp only [Nat.reduceBEq] at HK
  obtain ⟨k1, k2, k3, k4, k5, k6, k7, k8, k9, k10, k11, k12, k13, k14, k15, k16, k17, k18, k19, k20, k21, k22, k23, k24, k25, k26, k27⟩ := HK
  have hz2 : X kb ≠ 0 := hz
  have HRES := Lib.hid (show Ir.resOf X m W ⟨k, (kd : Int), (ka : Int), (kb : Int), im, t⟩ = ⟨Wd.quo (X ka) (X kb) true, 0, false, false⟩ by
    unfold Ir.resOf Ir.value Ir.isDiv
    simp only [hk]
    simp [Ir.rg, hz2])
  have HDV := Lib.hid (fun w => isDiv_any k w)
  rw [show Ir.isDiv (Ir.kn k) = true by rw [hk]; decide] at HDV
  have HDO := Lib.hid (fun w => divOf_any (X ka) (X kb) true w xa xb)
  rw [show (X kb != 0) = true by simp [hz2]] at HDO
  clear hz hz2
  have HO := Lib.hid (res_open w X k (kd : Int) (ka : Int) (kb : Int) im t 132 100)
  have HR := Lib.hid R
  have HW := Lib.hid hW
  have HX := Lib.hid hX
  clear R hW hid hia hib hil his hX
  go_enter Tryz.func64, Tryz.ntmps64
  go_upto_region 1 with fail
  have hO := HO.out
  clear HO
  generalize World.alloc _ _ = w3 at *
  obtain ⟨x, hx⟩ : ∃ x, w.heap.size = x := ⟨_, rfl⟩
  rw [hx] at hO ⊢
  clear hx
  obtain ⟨y, hy⟩ : ∃ y, x + 1 = y := ⟨_, rfl⟩
  rw [hy] at hO ⊢
  clear hy
  obtain ⟨z, hz⟩ : ∃ z, y + 1 = z := ⟨_, rfl⟩
  rw [hz] at hO ⊢
  clear hz
  have HO := Lib.hid hO
  obtain ⟨v0, v1, v2, v3, v4, v5⟩ := hO.op
  simp only at v0 v1 v2 v3 v4 v5
  have ma := hO.regs ka hka
  obtain ⟨_, g0, g1, g2, g3⟩ := hO.box.cells
  have mb := HO.out.regs kb hkb
  go_wp2_with fail
  refine (HDV.out _).mono ?_
  rintro e w' ⟨rfl, rfl⟩
  go_wp2_with fail
  refine (HDO.out _).mono ?_
  rintro e w4 ⟨rfl, n, hw4⟩
  have HO4 := Lib.hid (HO.out.keep (show Keeps (fun _ => False) _ w4 by rw [hw4]; exact (Keeps.refl _ _).drewN n))
  clear hw4 hO v0 v1 v2 v3 v4 v5 ma mb g0 g1 g2 g3
  obtain ⟨v0, v1, v2, v3, v4, v5⟩ := HO4.out.op
  simp only at v0 v1 v2 v3 v4 v5
  have md := HO4.out.regs kd hkd.2
  obtain ⟨_, g0, g1, g2, g3⟩ := HO4.out.box.cells
  obtain ⟨hp1, hp2⟩ := HO4.out.box.put (r' := ⟨Wd.quo (X ka) (X kb) true, 0, false, false⟩)
  have HP := Lib.hid hp1
  have HPK := Lib.hid hp2
  clear hp1 hp2
  go_wp2_with fail
  refine bodyPost_ret (results_cell_row rfl _ _ z 130 (resC ⟨Wd.quo (X ka) (X kb) true, 0, false, false⟩) (0, 0) _ rfl HP.out.blk Tryz.underlying130 rfl size_res) rfl ?_
  rw [HRES.out]
  exact ResIs.of HO4.out HPK.out
end Go.Proofs.YtknhfobcejpmeaaGreatDoor

/- ResOf2 -/
/- The walk of the reference's ResultOf. Printed by gen/resof.py. -/
namespace Go.Proofs.YtknhfobcejpmeaaGreatDoor
open Go.RowKit Go.Deep
set_option linter.unusedVariables false
set_option linter.unusedSimpArgs false

set_option maxHeartbeats 4000000 in
set_option maxRecDepth 100000 in
theorem res_div25_z (X : Nat → Int) (k : ByteArray) (d a b im t : Int) (q wb tb hb : Nat) (m : Nat → Int) (wt ht : Nat → Bool) (W : Int → Bool) (w : World) (R : RefAt w q wb tb hb m wt ht) (hW : ∀ p : Nat, p < 64 → wt p = W p) (hX : ∀ k, k < 64 → 0 ≤ X k ∧ X k < 4294967296)
    (hi : Ir.OpIn ⟨k, d, a, b, im, t⟩) (hk : Ir.kn k = 25) (hz : Ir.rg X b = 0) :
    Calls Tryz.prog 64 #[.agg (regL X).toArray, .pointer (some ⟨q, 0, none⟩), .agg #[.string k, .int .i64 d, .int .i64 a, .int .i64 b, .int .u32 im, .int .i64 t]] w (ResIs w (Ir.resOf X m W ⟨k, d, a, b, im, t⟩)) := by
  have hin := hi
  obtain ⟨_, hid, hia, hib, hil, his, him⟩ := hi
  simp only at hid hia hib hil his him
  obtain ⟨ka, rfl⟩ := Int.eq_ofNat_of_zero_le hia.1
  have hka : ka < 64 := by omega
  have hza : (ka : Int) < 64 := by omega
  have xa := hX ka hka
  obtain ⟨kb, rfl⟩ := Int.eq_ofNat_of_zero_le (hib (by omega)).1
  have hkb : kb < 64 := by have := hib (by omega); omega
  have hzb : (kb : Int) < 64 := by omega
  have xb := hX kb hkb
  obtain ⟨kd, rfl⟩ := Int.eq_ofNat_of_zero_le (show 0 ≤ d by have := hid (by omega); omega)
  have hkd : 1 ≤ kd ∧ kd < 64 := by have := hid (by omega); omega
  have hzd : (kd : Int) < 64 := by omega
  have HK := Ir.kinds k 25 hk
  simp only [Nat.reduceBEq] at HK
  obtain ⟨k1, k2, k3, k4, k5, k6, k7, k8, k9, k10, k11, k12, k13, k14, k15, k16, k17, k18, k19, k20, k21, k22, k23, k24, k25, k26, k27⟩ := HK
  have hz2 : X kb = 0 := hz
  have HRES := Lib.hid (show Ir.resOf X m W ⟨k, (kd : Int), (ka : Int), (kb : Int), im, t⟩ = ⟨X kd, 0, false, false⟩ by
    unfold Ir.resOf Ir.value Ir.isDiv
    simp only [hk]
    simp [Ir.rg, hz2])
  have HDV := Lib.hid (fun w => isDiv_any k w)
  rw [show Ir.isDiv (Ir.kn k) = true by rw [hk]; decide] at HDV
  have HDO := Lib.hid (fun w => divOf_any (X ka) (X kb) true w xa xb)
  rw [show (X kb != 0) = false by simp [hz2]] at HDO
  clear hz hz2
  have HO := Lib.hid (res_open w X k (kd : Int) (ka : Int) (kb : Int) im t 132 100)
  have HR := Lib.hid R
  have HW := Lib.hid hW
  have HX := Lib.hid hX
  clear R hW hid hia hib hil his hX
  go_enter Tryz.func64, Tryz.ntmps64
  go_upto_region 1 with fail
  have hO := HO.out
  clear HO
  generalize World.alloc _ _ = w3 at *
  obtain ⟨x, hx⟩ : ∃ x, w.heap.size = x := ⟨_, rfl⟩
  rw [hx] at hO ⊢
  clear hx
  obtain ⟨y, hy⟩ : ∃ y, x + 1 = y := ⟨_, rfl⟩
  rw [hy] at hO ⊢
  clear hy
  obtain ⟨z, hz⟩ : ∃ z, y + 1 = z := ⟨_, rfl⟩
  rw [hz] at hO ⊢
  clear hz
  have HO := Lib.hid hO
  obtain ⟨v0, v1, v2, v3, v4, v5⟩ := hO.op
  simp only at v0 v1 v2 v3 v4 v5
  have ma := hO.regs ka hka
  obtain ⟨_, g0, g1, g2, g3⟩ := hO.box.cells
  have mb := HO.out.regs kb hkb
  go_wp2_with fail
  refine (HDV.out _).mono ?_
  rintro e w' ⟨rfl, rfl⟩
  go_wp2_with fail
  refine (HDO.out _).mono ?_
  rintro e w4 ⟨rfl, n, hw4⟩
  have HO4 := Lib.hid (HO.out.keep (show Keeps (fun _ => False) _ w4 by rw [hw4]; exact (Keeps.refl _ _).drewN n))
  clear hw4 hO v0 v1 v2 v3 v4 v5 ma mb g0 g1 g2 g3
  obtain ⟨v0, v1, v2, v3, v4, v5⟩ := HO4.out.op
  simp only at v0 v1 v2 v3 v4 v5
  have md := HO4.out.regs kd hkd.2
  obtain ⟨_, g0, g1, g2, g3⟩ := HO4.out.box.cells
  obtain ⟨hp1, hp2⟩ := HO4.out.box.put (r' := ⟨X kd, 0, false, false⟩)
  have HP := Lib.hid hp1
  have HPK := Lib.hid hp2
  clear hp1 hp2
  go_wp2_with fail
  refine bodyPost_ret (results_cell_row rfl _ _ z 130 (resC ⟨X kd, 0, false, false⟩) (0, 0) _ rfl HP.out.blk Tryz.underlying130 rfl size_res) rfl ?_
  rw [HRES.out]
  exact ResIs.of HO4.out HPK.out
set_option maxHeartbeats 4000000 in
set_option maxRecDepth 100000 in
theorem res_div25_n (X : Nat → Int) (k : ByteArray) (d a b im t : Int) (q wb tb hb : Nat) (m : Nat → Int) (wt ht : Nat → Bool) (W : Int → Bool) (w : World) (R : RefAt w q wb tb hb m wt ht) (hW : ∀ p : Nat, p < 64 → wt p = W p) (hX : ∀ k, k < 64 → 0 ≤ X k ∧ X k < 4294967296)
    (hi : Ir.OpIn ⟨k, d, a, b, im, t⟩) (hk : Ir.kn k = 25) (hz : Ir.rg X b ≠ 0) :
    Calls Tryz.prog 64 #[.agg (regL X).toArray, .pointer (some ⟨q, 0, none⟩), .agg #[.string k, .int .i64 d, .int .i64 a, .int .i64 b, .int .u32 im, .int .i64 t]] w (ResIs w (Ir.resOf X m W ⟨k, d, a, b, im, t⟩)) := by
  have hin := hi
  obtain ⟨_, hid, hia, hib, hil, his, him⟩ := hi
  simp only at hid hia hib hil his him
  obtain ⟨ka, rfl⟩ := Int.eq_ofNat_of_zero_le hia.1
  have hka : ka < 64 := by omega
  have hza : (ka : Int) < 64 := by omega
  have xa := hX ka hka
  obtain ⟨kb, rfl⟩ := Int.eq_ofNat_of_zero_le (hib (by omega)).1
  have hkb : kb < 64 := by have := hib (by omega); omega
  have hzb : (kb : Int) < 64 := by omega
  have xb := hX kb hkb
  obtain ⟨kd, rfl⟩ := Int.eq_ofNat_of_zero_le (show 0 ≤ d by have := hid (by omega); omega)
  have hkd : 1 ≤ kd ∧ kd < 64 := by have := hid (by omega); omega
  have hzd : (kd : Int) < 64 := by omega
  have HK := Ir.kinds k 25 hk
  simp only [Nat.reduceBEq] at HK
  obtain ⟨k1, k2, k3, k4, k5, k6, k7, k8, k9, k10, k11, k12, k13, k14, k15, k16, k17, k18, k19, k20, k21, k22, k23, k24, k25, k26, k27⟩ := HK
  have hz2 : X kb ≠ 0 := hz
  have HRES := Lib.hid (show Ir.resOf X m W ⟨k, (kd : Int), (ka : Int), (kb : Int), im, t⟩ = ⟨Wd.rst (X ka) (X kb) true, 0, false, false⟩ by
    unfold Ir.resOf Ir.value Ir.isDiv
    simp only [hk]
    simp [Ir.rg, hz2])
  have HDV := Lib.hid (fun w => isDiv_any k w)
  rw [show Ir.isDiv (Ir.kn k) = true by rw [hk]; decide] at HDV
  have HDO := Lib.hid (fun w => divOf_any (X ka) (X kb) true w xa xb)
  rw [show (X kb != 0) = true by simp [hz2]] at HDO
  clear hz hz2
  have HO := Lib.hid (res_open w X k (kd : Int) (ka : Int) (kb : Int) im t 132 100)
  have HR := Lib.hid R
  have HW := Lib.hid hW
  have HX := Lib.hid hX
  clear R hW hid hia hib hil his hX
  go_enter Tryz.func64, Tryz.ntmps64
  go_upto_region 1 with fail
  have hO := HO.out
  clear HO
  generalize World.alloc _ _ = w3 at *
  obtain ⟨x, hx⟩ : ∃ x, w.heap.size = x := ⟨_, rfl⟩
  rw [hx] at hO ⊢
  clear hx
  obtain ⟨y, hy⟩ : ∃ y, x + 1 = y := ⟨_, rfl⟩
  rw [hy] at hO ⊢
  clear hy
  obtain ⟨z, hz⟩ : ∃ z, y + 1 = z := ⟨_, rfl⟩
  rw [hz] at hO ⊢
  clear hz
  have HO := Lib.hid hO
  obtain ⟨v0, v1, v2, v3, v4, v5⟩ := hO.op
  simp only at v0 v1 v2 v3 v4 v5
  have ma := hO.regs ka hka
  obtain ⟨_, g0, g1, g2, g3⟩ := hO.box.cells
  have mb := HO.out.regs kb hkb
  go_wp2_with fail
  refine (HDV.out _).mono ?_
  rintro e w' ⟨rfl, rfl⟩
  go_wp2_with fail
  refine (HDO.out _).mono ?_
  rintro e w4 ⟨rfl, n, hw4⟩
  have HO4 := Lib.hid (HO.out.keep (show Keeps (fun _ => False) _ w4 by rw [hw4]; exact (Keeps.refl _ _).drewN n))
  clear hw4 hO v0 v1 v2 v3 v4 v5 ma mb g0 g1 g2 g3
  obtain ⟨v0, v1, v2, v3, v4, v5⟩ := HO4.out.op
  simp only at v0 v1 v2 v3 v4 v5
  have md := HO4.out.regs kd hkd.2
  obtain ⟨_, g0, g1, g2, g3⟩ := HO4.out.box.cells
  obtain ⟨hp1, hp2⟩ := HO4.out.box.put (r' := ⟨Wd.rst (X ka) (X kb) true, 0, false, false⟩)
  have HP := Lib.hid hp1
  have HPK := Lib.hid hp2
  clear hp1 hp2
  go_wp2_with fail
  refine bodyPost_ret (results_cell_row rfl _ _ z 130 (resC ⟨Wd.rst (X ka) (X kb) true, 0, false, false⟩) (0, 0) _ rfl HP.out.blk Tryz.underlying130 rfl size_res) rfl ?_
  rw [HRES.out]
  exact ResIs.of HO4.out HPK.out
set_option maxHeartbeats 4000000 in
set_option maxRecDepth 100000 in
theorem res_div26_z (X : Nat → Int) (k : ByteArray) (d a b im t : Int) (q wb tb hb : Nat) (m : Nat → Int) (wt ht : Nat → Bool) (W : Int → Bool) (w : World) (R : RefAt w q wb tb hb m wt ht) (hW : ∀ p : Nat, p < 64 → wt p = W p) (hX : ∀ k, k < 64 → 0 ≤ X k ∧ X k < 4294967296)
    (hi : Ir.OpIn ⟨k, d, a, b, im, t⟩) (hk : Ir.kn k = 26) (hz : Ir.rg X b = 0) :
    Calls Tryz.prog 64 #[.agg (regL X).toArray, .pointer (some ⟨q, 0, none⟩), .agg #[.string k, .int .i64 d, .int .i64 a, .int .i64 b, .int .u32 im, .int .i64 t]] w (ResIs w (Ir.resOf X m W ⟨k, d, a, b, im, t⟩)) := by
  have hin := hi
  obtain ⟨_, hid, hia, hib, hil, his, him⟩ := hi
  simp only at hid hia hib hil his him
  obtain ⟨ka, rfl⟩ := Int.eq_ofNat_of_zero_le hia.1
  have hka : ka < 64 := by omega
  have hza : (ka : Int) < 64 := by omega
  have xa := hX ka hka
  obtain ⟨kb, rfl⟩ := Int.eq_ofNat_of_zero_le (hib (by omega)).1
  have hkb : kb < 64 := by have := hib (by omega); omega
  have hzb : (kb : Int) < 64 := by omega
  have xb := hX kb hkb
  obtain ⟨kd, rfl⟩ := Int.eq_ofNat_of_zero_le (show 0 ≤ d by have := hid (by omega); omega)
  have hkd : 1 ≤ kd ∧ kd < 64 := by have := hid (by omega); omega
  have hzd : (kd : Int) < 64 := by omega
  have HK := Ir.kinds k 26 hk
  simp only [Nat.reduceBEq] at HK
  obtain ⟨k1, k2, k3, k4, k5, k6, k7, k8, k9, k10, k11, k12, k13, k14, k15, k16, k17, k18, k19, k20, k21, k22, k23, k24, k25, k26, k27⟩ := HK
  have hz2 : X kb = 0 := hz
  have HRES := Lib.hid (show Ir.resOf X m W ⟨k, (kd : Int), (ka : Int), (kb : Int), im, t⟩ = ⟨X kd, 0, false, false⟩ by
    unfold Ir.resOf Ir.value Ir.isDiv
    simp only [hk]
    simp [Ir.rg, hz2])
  have HDV := Lib.hid (fun w => isDiv_any k w)
  rw [show Ir.isDiv (Ir.kn k) = true by rw [hk]; decide] at HDV
  have HDO := Lib.hid (fun w => divOf_any (X ka) (X kb) false w xa xb)
  rw [show (X kb != 0) = false by simp [hz2]] at HDO
  clear hz hz2
  have HO := Lib.hid (res_open w X k (kd : Int) (ka : Int) (kb : Int) im t 132 100)
  have HR := Lib.hid R
  have HW := Lib.hid hW
  have HX := Lib.hid hX
  clear R hW hid hia hib hil his hX
  go_enter Tryz.func64, Tryz.ntmps64
  go_upto_region 1 with fail
  have hO := HO.out
  clear HO
  generalize World.alloc _ _ = w3 at *
  obtain ⟨x, hx⟩ : ∃ x, w.heap.size = x := ⟨_, rfl⟩
  rw [hx] at hO ⊢
  clear hx
  obtain ⟨y, hy⟩ : ∃ y, x + 1 = y := ⟨_, rfl⟩
  rw [hy] at hO ⊢
  clear hy
  obtain ⟨z, hz⟩ : ∃ z, y + 1 = z := ⟨_, rfl⟩
  rw [hz] at hO ⊢
  clear hz
  have HO := Lib.hid hO
  obtain ⟨v0, v1, v2, v3, v4, v5⟩ := hO.op
  simp only at v0 v1 v2 v3 v4 v5
  have ma := hO.regs ka hka
  obtain ⟨_, g0, g1, g2, g3⟩ := hO.box.cells
  have mb := HO.out.regs kb hkb
  go_wp2_with fail
  refine (HDV.out _).mono ?_
  rintro e w' ⟨rfl, rfl⟩
  go_wp2_with fail
  refine (HDO.out _).mono ?_
  rintro e w4 ⟨rfl, n, hw4⟩
  have HO4 := Lib.hid (HO.out.keep (show Keeps (fun _ => False) _ w4 by rw [hw4]; exact (Keeps.refl _ _).drewN n))
  clear hw4 hO v0 v1 v2 v3 v4 v5 ma mb g0 g1 g2 g3
  obtain ⟨v0, v1, v2, v3, v4, v5⟩ := HO4.out.op
  simp only at v0 v1 v2 v3 v4 v5
  have md := HO4.out.regs kd hkd.2
  obtain ⟨_, g0, g1, g2, g3⟩ := HO4.out.box.cells
  obtain ⟨hp1, hp2⟩ := HO4.out.box.put (r' := ⟨X kd, 0, false, false⟩)
  have HP := Lib.hid hp1
  have HPK := Lib.hid hp2
  clear hp1 hp2
  go_wp2_with fail
  refine bodyPost_ret (results_cell_row rfl _ _ z 130 (resC ⟨X kd, 0, false, false⟩) (0, 0) _ rfl HP.out.blk Tryz.underlying130 rfl size_res) rfl ?_
  rw [HRES.out]
  exact ResIs.of HO4.out HPK.out
set_option maxHeartbeats 4000000 in
set_option maxRecDepth 100000 in
theorem res_div26_n (X : Nat → Int) (k : ByteArray) (d a b im t : Int) (q wb tb hb : Nat) (m : Nat → Int) (wt ht : Nat → Bool) (W : Int → Bool) (w : World) (R : RefAt w q wb tb hb m wt ht) (hW : ∀ p : Nat, p < 64 → wt p = W p) (hX : ∀ k, k < 64 → 0 ≤ X k ∧ X k < 4294967296)
    (hi : Ir.OpIn ⟨k, d, a, b, im, t⟩) (hk : Ir.kn k = 26) (hz : Ir.rg X b ≠ 0) :
    Calls Tryz.prog 64 #[.agg (regL X).toArray, .pointer (some ⟨q, 0, none⟩), .agg #[.string k, .int .i64 d, .int .i64 a, .int .i64 b, .int .u32 im, .int .i64 t]] w (ResIs w (Ir.resOf X m W ⟨k, d, a, b, im, t⟩)) := by
  have hin := hi
  obtain ⟨_, hid, hia, hib, hil, his, him⟩ := hi
  simp only at hid hia hib hil his him
  obtain ⟨ka, rfl⟩ := Int.eq_ofNat_of_zero_le hia.1
  have hka : ka < 64 := by omega
  have hza : (ka : Int) < 64 := by omega
  have xa := hX ka hka
  obtain ⟨kb, rfl⟩ := Int.eq_ofNat_of_zero_le (hib (by omega)).1
  have hkb : kb < 64 := by have := hib (by omega); omega
  have hzb : (kb : Int) < 64 := by omega
  have xb := hX kb hkb
  obtain ⟨kd, rfl⟩ := Int.eq_ofNat_of_zero_le (show 0 ≤ d by have := hid (by omega); omega)
  have hkd : 1 ≤ kd ∧ kd < 64 := by have := hid (by omega); omega
  have hzd : (kd : Int) < 64 := by omega
  have HK := Ir.kinds k 26 hk
  simp only [Nat.reduceBEq] at HK
  obtain ⟨k1, k2, k3, k4, k5, k6, k7, k8, k9, k10, k11, k12, k13, k14, k15, k16, k17, k18, k19, k20, k21, k22, k23, k24, k25, k26, k27⟩ := HK
  have hz2 : X kb ≠ 0 := hz
  have HRES := Lib.hid (show Ir.resOf X m W ⟨k, (kd : Int), (ka : Int), (kb : Int), im, t⟩ = ⟨Wd.quo (X ka) (X kb) false, 0, false, false⟩ by
    unfold Ir.resOf Ir.value Ir.isDiv
    simp only [hk]
    simp [Ir.rg, hz2])
  have HDV := Lib.hid (fun w => isDiv_any k w)
  rw [show Ir.isDiv (Ir.kn k) = true by rw [hk]; decide] at HDV
  have HDO := Lib.hid (fun w => divOf_any (X ka) (X kb) false w xa xb)
  rw [show (X kb != 0) = true by simp [hz2]] at HDO
  clear hz hz2
  have HO := Lib.hid (res_open w X k (kd : Int) (ka : Int) (kb : Int) im t 132 100)
  have HR := Lib.hid R
  have HW := Lib.hid hW
  have HX := Lib.hid hX
  clear R hW hid hia hib hil his hX
  go_enter Tryz.func64, Tryz.ntmps64
  go_upto_region 1 with fail
  have hO := HO.out
  clear HO
  generalize World.alloc _ _ = w3 at *
  obtain ⟨x, hx⟩ : ∃ x, w.heap.size = x := ⟨_, rfl⟩
  rw [hx] at hO ⊢
  clear hx
  obtain ⟨y, hy⟩ : ∃ y, x + 1 = y := ⟨_, rfl⟩
  rw [hy] at hO ⊢
  clear hy
  obtain ⟨z, hz⟩ : ∃ z, y + 1 = z := ⟨_, rfl⟩
  rw [hz] at hO ⊢
  clear hz
  have HO := Lib.hid hO
  obtain ⟨v0, v1, v2, v3, v4, v5⟩ := hO.op
  simp only at v0 v1 v2 v3 v4 v5
  have ma := hO.regs ka hka
  obtain ⟨_, g0, g1, g2, g3⟩ := hO.box.cells
  have mb := HO.out.regs kb hkb
  go_wp2_with fail
  refine (HDV.out _).mono ?_
  rintro e w' ⟨rfl, rfl⟩
  go_wp2_with fail
  refine (HDO.out _).mono ?_
  rintro e w4 ⟨rfl, n, hw4⟩
  have HO4 := Lib.hid (HO.out.keep (show Keeps (fun _ => False) _ w4 by rw [hw4]; exact (Keeps.refl _ _).drewN n))
  clear hw4 hO v0 v1 v2 v3 v4 v5 ma mb g0 g1 g2 g3
  obtain ⟨v0, v1, v2, v3, v4, v5⟩ := HO4.out.op
  simp only at v0 v1 v2 v3 v4 v5
  have md := HO4.out.regs kd hkd.2
  obtain ⟨_, g0, g1, g2, g3⟩ := HO4.out.box.cells
  obtain ⟨hp1, hp2⟩ := HO4.out.box.put (r' := ⟨Wd.quo (X ka) (X kb) false, 0, false, false⟩)
  have HP := Lib.hid hp1
  have HPK := Lib.hid hp2
  clear hp1 hp2
  go_wp2_with fail
  refine bodyPost_ret (results_cell_row rfl _ _ z 130 (resC ⟨Wd.quo (X ka) (X kb) false, 0, false, false⟩) (0, 0) _ rfl HP.out.blk Tryz.underlying130 rfl size_res) rfl ?_
  rw [HRES.out]
  exact ResIs.of HO4.out HPK.out
set_option maxHeartbeats 4000000 in
set_option maxRecDepth 100000 in
theorem res_div27_z (X : Nat → Int) (k : ByteArray) (d a b im t : Int) (q wb tb hb : Nat) (m : Nat → Int) (wt ht : Nat → Bool) (W : Int → Bool) (w : World) (R : RefAt w q wb tb hb m wt ht) (hW : ∀ p : Nat, p < 64 → wt p = W p) (hX : ∀ k, k < 64 → 0 ≤ X k ∧ X k < 4294967296)
    (hi : Ir.OpIn ⟨k, d, a, b, im, t⟩) (hk : Ir.kn k = 27) (hz : Ir.rg X b = 0) :
    Calls Tryz.prog 64 #[.agg (regL X).toArray, .pointer (some ⟨q, 0, none⟩), .agg #[.string k, .int .i64 d, .int .i64 a, .int .i64 b, .int .u32 im, .int .i64 t]] w (ResIs w (Ir.resOf X m W ⟨k, d, a, b, im, t⟩)) := by
  have hin := hi
  obtain ⟨_, hid, hia, hib, hil, his, him⟩ := hi
  simp only at hid hia hib hil his him
  obtain ⟨ka, rfl⟩ := Int.eq_ofNat_of_zero_le hia.1
  have hka : ka < 64 := by omega
  have hza : (ka : Int) < 64 := by omega
  have xa := hX ka hka
  obtain ⟨kb, rfl⟩ := Int.eq_ofNat_of_zero_le (hib (by omega)).1
  have hkb : kb < 64 := by have := hib (by omega); omega
  have hzb : (kb : Int) < 64 := by omega
  have xb := hX kb hkb
  obtain ⟨kd, rfl⟩ := Int.eq_ofNat_of_zero_le (show 0 ≤ d by have := hid (by omega); omega)
  have hkd : 1 ≤ kd ∧ kd < 64 := by have := hid (by omega); omega
  have hzd : (kd : Int) < 64 := by omega
  have HK := Ir.kinds k 27 hk
  simp only [Nat.reduceBEq] at HK
  obtain ⟨k1, k2, k3, k4, k5, k6, k7, k8, k9, k10, k11, k12, k13, k14, k15, k16, k17, k18, k19, k20, k21, k22, k23, k24, k25, k26, k27⟩ := HK
  have hz2 : X kb = 0 := hz
  have HRES := Lib.hid (show Ir.resOf X m W ⟨k, (kd : Int), (ka : Int), (kb : Int), im, t⟩ = ⟨X kd, 0, false, false⟩ by
    unfold Ir.resOf Ir.value Ir.isDiv
    simp only [hk]
    simp [Ir.rg, hz2])
  have HDV := Lib.hid (fun w => isDiv_any k w)
  rw [show Ir.isDiv (Ir.kn k) = true by rw [hk]; decide] at HDV
  have HDO := Lib.hid (fun w => divOf_any (X ka) (X kb) false w xa xb)
  rw [show (X kb != 0) = false by simp [hz2]] at HDO
  clear hz hz2
  have HO := Lib.hid (res_open w X k (kd : Int) (ka : Int) (kb : Int) im t 132 100)
  have HR := Lib.hid R
  have HW := Lib.hid hW
  have HX := Lib.hid hX
  clear R hW hid hia hib hil his hX
  go_enter Tryz.func64, Tryz.ntmps64
  go_upto_region 1 with fail
  have hO := HO.out
  clear HO
  generalize World.alloc _ _ = w3 at *
  obtain ⟨x, hx⟩ : ∃ x, w.heap.size = x := ⟨_, rfl⟩
  rw [hx] at hO ⊢
  clear hx
  obtain ⟨y, hy⟩ : ∃ y, x + 1 = y := ⟨_, rfl⟩
  rw [hy] at hO ⊢
  clear hy
  obtain ⟨z, hz⟩ : ∃ z, y + 1 = z := ⟨_, rfl⟩
  rw [hz] at hO ⊢
  clear hz
  have HO := Lib.hid hO
  obtain ⟨v0, v1, v2, v3, v4, v5⟩ := hO.op
  simp only at v0 v1 v2 v3 v4 v5
  have ma := hO.regs ka hka
  obtain ⟨_, g0, g1, g2, g3⟩ := hO.box.cells
  have mb := HO.out.regs kb hkb
  go_wp2_with fail
  refine (HDV.out _).mono ?_
  rintro e w' ⟨rfl, rfl⟩
  go_wp2_with fail
  refine (HDO.out _).mono ?_
  rintro e w4 ⟨rfl, n, hw4⟩
  have HO4 := Lib.hid (HO.out.keep (show Keeps (fun _ => False) _ w4 by rw [hw4]; exact (Keeps.refl _ _).drewN n))
  clear hw4 hO v0 v1 v2 v3 v4 v5 ma mb g0 g1 g2 g3
  obtain ⟨v0, v1, v2, v3, v4, v5⟩ := HO4.out.op
  simp only at v0 v1 v2 v3 v4 v5
  have md := HO4.out.regs kd hkd.2
  obtain ⟨_, g0, g1, g2, g3⟩ := HO4.out.box.cells
  obtain ⟨hp1, hp2⟩ := HO4.out.box.put (r' := ⟨X kd, 0, false, false⟩)
  have HP := Lib.hid hp1
  have HPK := Lib.hid hp2
  clear hp1 hp2
  go_wp2_with fail
  refine bodyPost_ret (results_cell_row rfl _ _ z 130 (resC ⟨X kd, 0, false, false⟩) (0, 0) _ rfl HP.out.blk Tryz.underlying130 rfl size_res) rfl ?_
  rw [HRES.out]
  exact ResIs.of HO4.out HPK.out
set_option maxHeartbeats 4000000 in
set_option maxRecDepth 100000 in
theorem res_div27_n (X : Nat → Int) (k : ByteArray) (d a b im t : Int) (q wb tb hb : Nat) (m : Nat → Int) (wt ht : Nat → Bool) (W : Int → Bool) (w : World) (R : RefAt w q wb tb hb m wt ht) (hW : ∀ p : Nat, p < 64 → wt p = W p) (hX : ∀ k, k < 64 → 0 ≤ X k ∧ X k < 4294967296)
    (hi : Ir.OpIn ⟨k, d, a, b, im, t⟩) (hk : Ir.kn k = 27) (hz : Ir.rg X b ≠ 0) :
    Calls Tryz.prog 64 #[.agg (regL X).toArray, .pointer (some ⟨q, 0, none⟩), .agg #[.string k, .int .i64 d, .int .i64 a, .int .i64 b, .int .u32 im, .int .i64 t]] w (ResIs w (Ir.resOf X m W ⟨k, d, a, b, im, t⟩)) := by
  have hin := hi
  obtain ⟨_, hid, hia, hib, hil, his, him⟩ := hi
  simp only at hid hia hib hil his him
  obtain ⟨ka, rfl⟩ := Int.eq_ofNat_of_zero_le hia.1
  have hka : ka < 64 := by omega
  have hza : (ka : Int) < 64 := by omega
  have xa := hX ka hka
  obtain ⟨kb, rfl⟩ := Int.eq_ofNat_of_zero_le (hib (by omega)).1
  have hkb : kb < 64 := by have := hib (by omega); omega
  have hzb : (kb : Int) < 64 := by omega
  have xb := hX kb hkb
  obtain ⟨kd, rfl⟩ := Int.eq_ofNat_of_zero_le (show 0 ≤ d by have := hid (by omega); omega)
  have hkd : 1 ≤ kd ∧ kd < 64 := by have := hid (by omega); omega
  have hzd : (kd : Int) < 64 := by omega
  have HK := Ir.kinds k 27 hk
  simp only [Nat.reduceBEq] at HK
  obtain ⟨k1, k2, k3, k4, k5, k6, k7, k8, k9, k10, k11, k12, k13, k14, k15, k16, k17, k18, k19, k20, k21, k22, k23, k24, k25, k26, k27⟩ := HK
  have hz2 : X kb ≠ 0 := hz
  have HRES := Lib.hid (show Ir.resOf X m W ⟨k, (kd : Int), (ka : Int), (kb : Int), im, t⟩ = ⟨Wd.rst (X ka) (X kb) false, 0, false, false⟩ by
    unfold Ir.resOf Ir.value Ir.isDiv
    simp only [hk]
    simp [Ir.rg, hz2])
  have HDV := Lib.hid (fun w => isDiv_any k w)
  rw [show Ir.isDiv (Ir.kn k) = true by rw [hk]; decide] at HDV
  have HDO := Lib.hid (fun w => divOf_any (X ka) (X kb) false w xa xb)
  rw [show (X kb != 0) = true by simp [hz2]] at HDO
  clear hz hz2
  have HO := Lib.hid (res_open w X k (kd : Int) (ka : Int) (kb : Int) im t 132 100)
  have HR := Lib.hid R
  have HW := Lib.hid hW
  have HX := Lib.hid hX
  clear R hW hid hia hib hil his hX
  go_enter Tryz.func64, Tryz.ntmps64
  go_upto_region 1 with fail
  have hO := HO.out
  clear HO
  generalize World.alloc _ _ = w3 at *
  obtain ⟨x, hx⟩ : ∃ x, w.heap.size = x := ⟨_, rfl⟩
  rw [hx] at hO ⊢
  clear hx
  obtain ⟨y, hy⟩ : ∃ y, x + 1 = y := ⟨_, rfl⟩
  rw [hy] at hO ⊢
  clear hy
  obtain ⟨z, hz⟩ : ∃ z, y + 1 = z := ⟨_, rfl⟩
  rw [hz] at hO ⊢
  clear hz
  have HO := Lib.hid hO
  obtain ⟨v0, v1, v2, v3, v4, v5⟩ := hO.op
  simp only at v0 v1 v2 v3 v4 v5
  have ma := hO.regs ka hka
  obtain ⟨_, g0, g1, g2, g3⟩ := hO.box.cells
  have mb := HO.out.regs kb hkb
  go_wp2_with fail
  refine (HDV.out _).mono ?_
  rintro e w' ⟨rfl, rfl⟩
  go_wp2_with fail
  refine (HDO.out _).mono ?_
  rintro e w4 ⟨rfl, n, hw4⟩
  have HO4 := Lib.hid (HO.out.keep (show Keeps (fun _ => False) _ w4 by rw [hw4]; exact (Keeps.refl _ _).drewN n))
  clear hw4 hO v0 v1 v2 v3 v4 v5 ma mb g0 g1 g2 g3
  obtain ⟨v0, v1, v2, v3, v4, v5⟩ := HO4.out.op
  simp only at v0 v1 v2 v3 v4 v5
  have md := HO4.out.regs kd hkd.2
  obtain ⟨_, g0, g1, g2, g3⟩ := HO4.out.box.cells
  obtain ⟨hp1, hp2⟩ := HO4.out.box.put (r' := ⟨Wd.rst (X ka) (X kb) false, 0, false, false⟩)
  have HP := Lib.hid hp1
  have HPK := Lib.hid hp2
  clear hp1 hp2
  go_wp2_with fail
  refine bodyPost_ret (results_cell_row rfl _ _ z 130 (resC ⟨Wd.rst (X ka) (X kb) false, 0, false, false⟩) (0, 0) _ rfl HP.out.blk Tryz.underlying130 rfl size_res) rfl ?_
  rw [HRES.out]
  exact ResIs.of HO4.out HPK.out
end Go.Proofs.YtknhfobcejpmeaaGreatDoor

/- ResOf -/
/- The walk of the reference's ResultOf. Printed by gen/resof.py. -/
namespace Go.Proofs.YtknhfobcejpmeaaGreatDoor
open Go.RowKit Go.Deep
set_option linter.unusedVariables false
set_option linter.unusedSimpArgs false

/-- WHAT ResultOf ANSWERS, OF A RIGHT OP -/
theorem resultOf_any (X : Nat → Int) (o : Ir.Op) (q wb tb hb : Nat) (m : Nat → Int) (wt ht : Nat → Bool) (W : Int → Bool) (w : World) (R : RefAt w q wb tb hb m wt ht) (hW : ∀ p : Nat, p < 64 → wt p = W p) (hX : ∀ k, k < 64 → 0 ≤ X k ∧ X k < 4294967296)
    (hi : Ir.OpIn o) :
    Calls Tryz.prog 64 #[.agg (regL X).toArray, .pointer (some ⟨q, 0, none⟩), .agg (opC o)] w (ResIs w (Ir.resOf X m W o)) := by
  obtain ⟨k, d, a, b, im, t⟩ := o
  have hle := Ir.kn_le k
  have h0 := hi.k
  simp only at h0
  rcases (show Ir.kn k = 1 ∨ Ir.kn k = 2 ∨ Ir.kn k = 3 ∨ Ir.kn k = 4 ∨ Ir.kn k = 5 ∨ Ir.kn k = 6 ∨ Ir.kn k = 7 ∨ Ir.kn k = 8 ∨ Ir.kn k = 9 ∨ (10 ≤ Ir.kn k ∧ Ir.kn k < 24) ∨ Ir.kn k = 24 ∨ Ir.kn k = 25 ∨ Ir.kn k = 26 ∨ Ir.kn k = 27 by omega) with h | h | h | h | h | h | h | h | h | h | h | h | h | h
  · exact res_set X k d a b im t q wb tb hb m wt ht W w R hW hX hi h
  · exact res_copy X k d a b im t q wb tb hb m wt ht W w R hW hX hi h
  · exact res_overp X k d a b im t q wb tb hb m wt ht W w R hW hX hi h
  · exact res_overm X k d a b im t q wb tb hb m wt ht W w R hW hX hi h
  · have hl := hi.ld h
    simp only at hl
    obtain ⟨nb, hnb, hb2⟩ : ∃ nb : Nat, (nb = 1 ∨ nb = 2 ∨ nb = 4) ∧ (b = nb ∨ b = -(nb : Int)) := ⟨b.natAbs, by omega, by omega⟩
    by_cases hr : rightC (Ir.adr (Ir.rg X a) im) nb = 0
    · rcases hb2 with hb2 | hb2
      · exact res_loadu_ok X k d a b im t q wb tb hb m wt ht W w R hW hX hi h nb hnb hb2 hr
      · exact res_loads_ok X k d a b im t q wb tb hb m wt ht W w R hW hX hi h nb hnb hb2 hr
    · rcases hb2 with hb2 | hb2
      · exact res_loadu_bad X k d a b im t q wb tb hb m wt ht W w R hW hX hi h nb hnb hb2 hr
      · exact res_loads_bad X k d a b im t q wb tb hb m wt ht W w R hW hX hi h nb hnb hb2 hr
  · by_cases hr : rightC (Ir.adr (Ir.rg X a) im) d = 0
    · exact res_store_ok X k d a b im t q wb tb hb m wt ht W w R hW hX hi h hr
    · exact res_store_bad X k d a b im t q wb tb hb m wt ht W w R hW hX hi h hr
  · exact res_if X k d a b im t q wb tb hb m wt ht W w R hW hX hi h
  · exact res_out X k d a b im t q wb tb hb m wt ht W w R hW hX hi h
  · exact res_outr X k d a b im t q wb tb hb m wt ht W w R hW hX hi h
  · exact res_sum X k d a b im t q wb tb hb m wt ht W w R hW hX hi h
  · by_cases hz : Ir.rg X b = 0
    · exact res_div24_z X k d a b im t q wb tb hb m wt ht W w R hW hX hi h hz
    · exact res_div24_n X k d a b im t q wb tb hb m wt ht W w R hW hX hi h hz
  · by_cases hz : Ir.rg X b = 0
    · exact res_div25_z X k d a b im t q wb tb hb m wt ht W w R hW hX hi h hz
    · exact res_div25_n X k d a b im t q wb tb hb m wt ht W w R hW hX hi h hz
  · by_cases hz : Ir.rg X b = 0
    · exact res_div26_z X k d a b im t q wb tb hb m wt ht W w R hW hX hi h hz
    · exact res_div26_n X k d a b im t q wb tb hb m wt ht W w R hW hX hi h hz
  · by_cases hz : Ir.rg X b = 0
    · exact res_div27_z X k d a b im t q wb tb hb m wt ht W w R hW hX hi h hz
    · exact res_div27_n X k d a b im t q wb tb hb m wt ht W w R hW hX hi h hz
end Go.Proofs.YtknhfobcejpmeaaGreatDoor
