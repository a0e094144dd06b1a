import Derived.Test.YtknhfobcejpmeaaGreatDoorPez02
import Derived.Test.YtknhfobcejpmeaaGreatDoorPez03
import Derived.Test.YtknhfobcejpmeaaGreatDoorPez01
import Derived.Laws.AppendOwn
import Derived.OwnWalk
import Derived.Lib.Slices
import Derived.Lib.Hide
import Derived.Test.YtknhfobcejpmeaaGreatDoorMach
import Derived.Test.YtknhfobcejpmeaaGreatDoorIrOp
import Derived.Test.YtknhfobcejpmeaaGreatDoorSumsD
import Derived.Test.YtknhfobcejpmeaaGreatDoorStored

/- ResOf2 -/
/- The walk of the reference's ResultOf. Printed by gen/resof.py. -/
namespace Go.Proofs.YtknhfobcejpmeaaGreatDoor
open Go.RowKit Go.Deep
set_option linter.unusedVariables false
set_option linter.unusedSimpArgs false

set_option maxHeartbeats 4000000 in
set_option maxRecDepth 100000 in
theorem res_div25_z (X : Nat → Int) (k : ByteArray) (d a b im t : Int) (q wb tb hb : Nat) (m : Nat → Int) (wt ht : Nat → Bool) (W : Int → Bool) (w : World) (R : RefAt w q wb tb hb m wt ht) (hW : ∀ p : Nat, p < 64 → wt p = W p) (hX : ∀ k, k < 64 → 0 ≤ X k ∧ X k < 4294967296)
    (hi : Ir.OpIn ⟨k, d, a, b, im, t⟩) (hk : Ir.kn k = 25) (hz : Ir.rg X b = 0) :
    Calls Tryz.prog 64 #[.agg (regL X).toArray, .pointer (some ⟨q, 0, none⟩), .agg #[.string k, .int .i64 d, .int .i64 a, .int .i64 b, .int .u32 im, .int .i64 t]] w (ResIs w (Ir.resOf X m W ⟨k, d, a, b, im, t⟩)) := by
  have hin := hi
  obtain ⟨_, hid, hia, hib, hil, his, him⟩ := hi
  simp only at hid hia hib hil his him
  obtain ⟨ka, rfl⟩ := Int.eq_ofNat_of_zero_le hia.1
  have hka : ka < 64 := by omega
  have hza : (ka : Int) < 64 := by omega
  have xa := hX ka hka
  obtain ⟨kb, rfl⟩ := Int.eq_ofNat_of_zero_le (hib (by omega)).1
  have hkb : kb < 64 := by have := hib (by omega); omega
  have hzb : (kb : Int) < 64 := by omega
  have xb := hX kb hkb
  obtain ⟨kd, rfl⟩ := Int.eq_ofNat_of_zero_le (show 0 ≤ d by have := hid (by omega); omega)
  have hkd : 1 ≤ kd ∧ kd < 64 := by have := hid (by omega); omega
  have hzd : (kd : Int) < 64 := by omega
  have HK := Ir.kinds k 25 hk
  simp only [Nat.reduceBEq] at HK
  obtain ⟨k1, k2, k3, k4, k5, k6, k7, k8, k9, k10, k11, k12, k13, k14, k15, k16, k17, k18, k19, k20, k21, k22, k23, k24, k25, k26, k27⟩ := HK
  have hz2 : X kb = 0 := hz
  have HRES := Lib.hid (show Ir.resOf X m W ⟨k, (kd : Int), (ka : Int), (kb : Int), im, t⟩ = ⟨X kd, 0, false, false⟩ by
    unfold Ir.resOf Ir.value Ir.isDiv
    simp only [hk]
    simp [Ir.rg, hz2])
  have HDV := Lib.hid (fun w => isDiv_any k w)
  rw [show Ir.isDiv (Ir.kn k) = true by rw [hk]; decide] at HDV
  have HDO := Lib.hid (fun w => divOf_any (X ka) (X kb) true w xa xb)
  rw [show (X kb != 0) = false by simp [hz2]] at HDO
  clear hz hz2
  have HO := Lib.hid (res_open w X k (kd : Int) (ka : Int) (kb : Int) im t 132 100)
  have HR := Lib.hid R
  have HW := Lib.hid hW
  have HX := Lib.hid hX
  clear R hW hid hia hib hil his hX
  go_enter Tryz.func64, Tryz.ntmps64
  go_upto_region 1 with fail
  have hO := HO.out
  clear HO
  generalize World.alloc _ _ = w3 at *
  obtain ⟨x, hx⟩ : ∃ x, w.heap.size = x := ⟨_, rfl⟩
  rw [hx] at hO ⊢
  clear hx
  obtain ⟨y, hy⟩ : ∃ y, x + 1 = y := ⟨_, rfl⟩
  rw [hy] at hO ⊢
  clear hy
  obtain ⟨z, hz⟩ : ∃ z, y + 1 = z := ⟨_, rfl⟩
  rw [hz] at hO ⊢
  clear hz
  have HO := Lib.hid hO
  obtain ⟨v0, v1, v2, v3, v4, v5⟩ := hO.op
  simp only at v0 v1 v2 v3 v4 v5
  have ma := hO.regs ka hka
  obtain ⟨_, g0, g1, g2, g3⟩ := hO.box.cells
  have mb := HO.out.regs kb hkb
  go_wp2_with fail
  refine (HDV.out _).mono ?_
  rintro e w' ⟨rfl, rfl⟩
  go_wp2_with fail
  refine (HDO.out _).mono ?_
  rintro e w4 ⟨rfl, n, hw4⟩
  have HO4 := Lib.hid (HO.out.keep (show Keeps (fun _ => False) _ w4 by rw [hw4]; exact (Keeps.refl _ _).drewN n))
  clear hw4 hO v0 v1 v2 v3 v4 v5 ma mb g0 g1 g2 g3
  obtain ⟨v0, v1, v2, v3, v4, v5⟩ := HO4.out.op
  simp only at v0 v1 v2 v3 v4 v5
  have md := HO4.out.regs kd hkd.2
  obtain ⟨_, g0, g1, g2, g3⟩ := HO4.out.box.cells
  obtain ⟨hp1, hp2⟩ := HO4.out.box.put (r' := ⟨X kd, 0, false, false⟩)
  have HP := Lib.hid hp1
  have HPK := Lib.hid hp2
  clear hp1 hp2
  go_wp2_with fail
  refine bodyPost_ret (results_cell_row rfl _ _ z 130 (resC ⟨X kd, 0, false, false⟩) (0, 0) _ rfl HP.out.blk Tryz.underlying130 rfl size_res) rfl ?_
  rw [HRES.out]
  exact ResIs.of HO4.out HPK.out
set_option maxHeartbeats 4000000 in
set_option maxRecDepth 100000 in
theorem res_div25_n (X : Nat → Int) (k : ByteArray) (d a b im t : Int) (q wb tb hb : Nat) (m : Nat → Int) (wt ht : Nat → Bool) (W : Int → Bool) (w : World) (R : RefAt w q wb tb hb m wt ht) (hW : ∀ p : Nat, p < 64 → wt p = W p) (hX : ∀ k, k < 64 → 0 ≤ X k ∧ X k < 4294967296)
    (hi : Ir.OpIn ⟨k, d, a, b, im, t⟩) (hk : Ir.kn k = 25) (hz : Ir.rg X b ≠ 0) :
    Calls Tryz.prog 64 #[.agg (regL X).toArray, .pointer (some ⟨q, 0, none⟩), .agg #[.string k, .int .i64 d, .int .i64 a, .int .i64 b, .int .u32 im, .int .i64 t]] w (ResIs w (Ir.resOf X m W ⟨k, d, a, b, im, t⟩)) := by
  have hin := hi
  obtain ⟨_, hid, hia, hib, hil, his, him⟩ := hi
  simp only at hid hia hib hil his him
  obtain ⟨ka, rfl⟩ := Int.eq_ofNat_of_zero_le hia.1
  have hka : ka < 64 := by omega
  have hza : (ka : Int) < 64 := by omega
  have xa := hX ka hka
  obtain ⟨kb, rfl⟩ := Int.eq_ofNat_of_zero_le (hib (by omega)).1
  have hkb : kb < 64 := by have := hib (by omega); omega
  have hzb : (kb : Int) < 64 := by omega
  have xb := hX kb hkb
  obtain ⟨kd, rfl⟩ := Int.eq_ofNat_of_zero_le (show 0 ≤ d by have := hid (by omega); omega)
  have hkd : 1 ≤ kd ∧ kd < 64 := by have := hid (by omega); omega
  have hzd : (kd : Int) < 64 := by omega
  have HK := Ir.kinds k 25 hk
  simp only [Nat.reduceBEq] at HK
  obtain ⟨k1, k2, k3, k4, k5, k6, k7, k8, k9, k10, k11, k12, k13, k14, k15, k16, k17, k18, k19, k20, k21, k22, k23, k24, k25, k26, k27⟩ := HK
  have hz2 : X kb ≠ 0 := hz
  have HRES := Lib.hid (show Ir.resOf X m W ⟨k, (kd : Int), (ka : Int), (kb : Int), im, t⟩ = ⟨Wd.rst (X ka) (X kb) true, 0, false, false⟩ by
    unfold Ir.resOf Ir.value Ir.isDiv
    simp only [hk]
    simp [Ir.rg, hz2])
  have HDV := Lib.hid (fun w => isDiv_any k w)
  rw [show Ir.isDiv (Ir.kn k) = true by rw [hk]; decide] at HDV
  have HDO := Lib.hid (fun w => divOf_any (X ka) (X kb) true w xa xb)
  rw [show (X kb != 0) = true by simp [hz2]] at HDO
  clear hz hz2
  have HO := Lib.hid (res_open w X k (kd : Int) (ka : Int) (kb : Int) im t 132 100)
  have HR := Lib.hid R
  have HW := Lib.hid hW
  have HX := Lib.hid hX
  clear R hW hid hia hib hil his hX
  go_enter Tryz.func64, Tryz.ntmps64
  go_upto_region 1 with fail
  have hO := HO.out
  clear HO
  generalize World.alloc _ _ = w3 at *
  obtain ⟨x, hx⟩ : ∃ x, w.heap.size = x := ⟨_, rfl⟩
  rw [hx] at hO ⊢
  clear hx
  obtain ⟨y, hy⟩ : ∃ y, x + 1 = y := ⟨_, rfl⟩
  rw [hy] at hO ⊢
  clear hy
  obtain ⟨z, hz⟩ : ∃ z, y + 1 = z := ⟨_, rfl⟩
  rw [hz] at hO ⊢
  clear hz
  have HO := Lib.hid hO
  obtain ⟨v0, v1, v2, v3, v4, v5⟩ := hO.op
  simp only at v0 v1 v2 v3 v4 v5
  have ma := hO.regs ka hka
  obtain ⟨_, g0, g1, g2, g3⟩ := hO.box.cells
  have mb := HO.out.regs kb hkb
  go_wp2_with fail
  refine (HDV.out _).mono ?_
  rintro e w' ⟨rfl, rfl⟩
  go_wp2_with fail
  refine (HDO.out _).mono ?_
  rintro e w4 ⟨rfl, n, hw4⟩
  have HO4 := Lib.hid (HO.out.keep (show Keeps (fun _ => False) _ w4 by rw [hw4]; exact (Keeps.refl _ _).drewN n))
  clear hw4 hO v0 v1 v2 v3 v4 v5 ma mb g0 g1 g2 g3
  obtain ⟨v0, v1, v2, v3, v4, v5⟩ := HO4.out.op
  simp only at v0 v1 v2 v3 v4 v5
  have md := HO4.out.regs kd hkd.2
  obtain ⟨_, g0, g1, g2, g3⟩ := HO4.out.box.cells
  obtain ⟨hp1, hp2⟩ := HO4.out.box.put (r' := ⟨Wd.rst (X ka) (X kb) true, 0, false, false⟩)
  have HP := Lib.hid hp1
  have HPK := Lib.hid hp2
  clear hp1 hp2
  go_wp2_with fail
  refine bodyPost_ret (results_cell_row rfl _ _ z 130 (resC ⟨Wd.rst (X ka) (X kb) true, 0, false, false⟩) (0, 0) _ rfl HP.out.blk Tryz.underlying130 rfl size_res) rfl ?_
  rw [HRES.out]
  exact ResIs.of HO4.out HPK.out
set_option maxHeartbeats 4000000 in
set_option maxRecDepth 100000 in
theorem res_div26_z (X : Nat → Int) (k : ByteArray) (d a b im t : Int) (q wb tb hb : Nat) (m : Nat → Int) (wt ht : Nat → Bool) (W : Int → Bool) (w : World) (R : RefAt w q wb tb hb m wt ht) (hW : ∀ p : Nat, p < 64 → wt p = W p) (hX : ∀ k, k < 64 → 0 ≤ X k ∧ X k < 4294967296)
    (hi : Ir.OpIn ⟨k, d, a, b, im, t⟩) (hk : Ir.kn k = 26) (hz : Ir.rg X b = 0) :
    Calls Tryz.prog 64 #[.agg (regL X).toArray, .pointer (some ⟨q, 0, none⟩), .agg #[.string k, .int .i64 d, .int .i64 a, .int .i64 b, .int .u32 im, .int .i64 t]] w (ResIs w (Ir.resOf X m W ⟨k, d, a, b, im, t⟩)) := by
  have hin := hi
  obtain ⟨_, hid, hia, hib, hil, his, him⟩ := hi
  simp only at hid hia hib hil his him
  obtain ⟨ka, rfl⟩ := Int.eq_ofNat_of_zero_le hia.1
  have hka : ka < 64 := by omega
  have hza : (ka : Int) < 64 := by omega
  have xa := hX ka hka
  obtain ⟨kb, rfl⟩ := Int.eq_ofNat_of_zero_le (hib (by omega)).1
  have hkb : kb < 64 := by have := hib (by omega); omega
  have hzb : (kb : Int) < 64 := by omega
  have xb := hX kb hkb
  obtain ⟨kd, rfl⟩ := Int.eq_ofNat_of_zero_le (show 0 ≤ d by have := hid (by omega); omega)
  have hkd : 1 ≤ kd ∧ kd < 64 := by have := hid (by omega); omega
  have hzd : (kd : Int) < 64 := by omega
  have HK := Ir.kinds k 26 hk
  simp only [Nat.reduceBEq] at HK
  obtain ⟨k1, k2, k3, k4, k5, k6, k7, k8, k9, k10, k11, k12, k13, k14, k15, k16, k17, k18, k19, k20, k21, k22, k23, k24, k25, k26, k27⟩ := HK
  have hz2 : X kb = 0 := hz
  have HRES := Lib.hid (show Ir.resOf X m W ⟨k, (kd : Int), (ka : Int), (kb : Int), im, t⟩ = ⟨X kd, 0, false, false⟩ by
    unfold Ir.resOf Ir.value Ir.isDiv
    simp only [hk]
    simp [Ir.rg, hz2])
  have HDV := Lib.hid (fun w => isDiv_any k w)
  rw [show Ir.isDiv (Ir.kn k) = true by rw [hk]; decide] at HDV
  have HDO := Lib.hid (fun w => divOf_any (X ka) (X kb) false w xa xb)
  rw [show (X kb != 0) = false by simp [hz2]] at HDO
  clear hz hz2
  have HO := Lib.hid (res_open w X k (kd : Int) (ka : Int) (kb : Int) im t 132 100)
  have HR := Lib.hid R
  have HW := Lib.hid hW
  have HX := Lib.hid hX
  clear R hW hid hia hib hil his hX
  go_enter Tryz.func64, Tryz.ntmps64
  go_upto_region 1 with fail
  have hO := HO.out
  clear HO
  generalize World.alloc _ _ = w3 at *
  obtain ⟨x, hx⟩ : ∃ x, w.heap.size = x := ⟨_, rfl⟩
  rw [hx] at hO ⊢
  clear hx
  obtain ⟨y, hy⟩ : ∃ y, x + 1 = y := ⟨_, rfl⟩
  rw [hy] at hO ⊢
  clear hy
  obtain ⟨z, hz⟩ : ∃ z, y + 1 = z := ⟨_, rfl⟩
  rw [hz] at hO ⊢
  clear hz
  have HO := Lib.hid hO
  obtain ⟨v0, v1, v2, v3, v4, v5⟩ := hO.op
  simp only at v0 v1 v2 v3 v4 v5
  have ma := hO.regs ka hka
  obtain ⟨_, g0, g1, g2, g3⟩ := hO.box.cells
  have mb := HO.out.regs kb hkb
  go_wp2_with fail
  refine (HDV.out _).mono ?_
  rintro e w' ⟨rfl, rfl⟩
  go_wp2_with fail
  refine (HDO.out _).mono ?_
  rintro e w4 ⟨rfl, n, hw4⟩
  have HO4 := Lib.hid (HO.out.keep (show Keeps (fun _ => False) _ w4 by rw [hw4]; exact (Keeps.refl _ _).drewN n))
  clear hw4 hO v0 v1 v2 v3 v4 v5 ma mb g0 g1 g2 g3
  obtain ⟨v0, v1, v2, v3, v4, v5⟩ := HO4.out.op
  simp only at v0 v1 v2 v3 v4 v5
  have md := HO4.out.regs kd hkd.2
  obtain ⟨_, g0, g1, g2, g3⟩ := HO4.out.box.cells
  obtain ⟨hp1, hp2⟩ := HO4.out.box.put (r' := ⟨X kd, 0, false, false⟩)
  have HP := Lib.hid hp1
  have HPK := Lib.hid hp2
  clear hp1 hp2
  go_wp2_with fail
  refine bodyPost_ret (results_cell_row rfl _ _ z 130 (resC ⟨X kd, 0, false, false⟩) (0, 0) _ rfl HP.out.blk Tryz.underlying130 rfl size_res) rfl ?_
  rw [HRES.out]
  exact ResIs.of HO4.out HPK.out
set_option maxHeartbeats 4000000 in
set_option maxRecDepth 100000 in
theorem res_div26_n (X : Nat → Int) (k : ByteArray) (d a b im t : Int) (q wb tb hb : Nat) (m : Nat → Int) (wt ht : Nat → Bool) (W : Int → Bool) (w : World) (R : RefAt w q wb tb hb m wt ht) (hW : ∀ p : Nat, p < 64 → wt p = W p) (hX : ∀ k, k < 64 → 0 ≤ X k ∧ X k < 4294967296)
    (hi : Ir.OpIn ⟨k, d, a, b, im, t⟩) (hk : Ir.kn k = 26) (hz : Ir.rg X b ≠ 0) :
    Calls Tryz.prog 64 #[.agg (regL X).toArray, .pointer (some ⟨q, 0, none⟩), .agg #[.string k, .int .i64 d, .int .i64 a, .int .i64 b, .int .u32 im, .int .i64 t]] w (ResIs w (Ir.resOf X m W ⟨k, d, a, b, im, t⟩)) := by
  have hin := hi
  obtain ⟨_, hid, hia, hib, hil, his, him⟩ := hi
  simp only at hid hia hib hil his him
  obtain ⟨ka, rfl⟩ := Int.eq_ofNat_of_zero_le hia.1
  have hka : ka < 64 := by omega
  have hza : (ka : Int) < 64 := by omega
  have xa := hX ka hka
  obtain ⟨kb, rfl⟩ := Int.eq_ofNat_of_zero_le (hib (by omega)).1
  have hkb : kb < 64 := by have := hib (by omega); omega
  have hzb : (kb : Int) < 64 := by omega
  have xb := hX kb hkb
  obtain ⟨kd, rfl⟩ := Int.eq_ofNat_of_zero_le (show 0 ≤ d by have := hid (by omega); omega)
  have hkd : 1 ≤ kd ∧ kd < 64 := by have := hid (by omega); omega
  have hzd : (kd : Int) < 64 := by omega
  have HK := Ir.kinds k 26 hk
  simp only [Nat.reduceBEq] at HK
  obtain ⟨k1, k2, k3, k4, k5, k6, k7, k8, k9, k10, k11, k12, k13, k14, k15, k16, k17, k18, k19, k20, k21, k22, k23, k24, k25, k26, k27⟩ := HK
  have hz2 : X kb ≠ 0 := hz
  have HRES := Lib.hid (show Ir.resOf X m W ⟨k, (kd : Int), (ka : Int), (kb : Int), im, t⟩ = ⟨Wd.quo (X ka) (X kb) false, 0, false, false⟩ by
    unfold Ir.resOf Ir.value Ir.isDiv
    simp only [hk]
    simp [Ir.rg, hz2])
  have HDV := Lib.hid (fun w => isDiv_any k w)
  rw [show Ir.isDiv (Ir.kn k) = true by rw [hk]; decide] at HDV
  have HDO := Lib.hid (fun w => divOf_any (X ka) (X kb) false w xa xb)
  rw [show (X kb != 0) = true by simp [hz2]] at HDO
  clear hz hz2
  have HO := Lib.hid (res_open w X k (kd : Int) (ka : Int) (kb : Int) im t 132 100)
  have HR := Lib.hid R
  have HW := Lib.hid hW
  have HX := Lib.hid hX
  clear R hW hid hia hib hil his hX
  go_enter Tryz.func64, Tryz.ntmps64
  go_upto_region 1 with fail
  have hO := HO.out
  clear HO
  generalize World.alloc _ _ = w3 at *
  obtain ⟨x, hx⟩ : ∃ x, w.heap.size = x := ⟨_, rfl⟩
  rw [hx] at hO ⊢
  clear hx
  obtain ⟨y, hy⟩ : ∃ y, x + 1 = y := ⟨_, rfl⟩
  rw [hy] at hO ⊢
  clear hy
  obtain ⟨z, hz⟩ : ∃ z, y + 1 = z := ⟨_, rfl⟩
  rw [hz] at hO ⊢
  clear hz
  have HO := Lib.hid hO
  obtain ⟨v0, v1, v2, v3, v4, v5⟩ := hO.op
  simp only at v0 v1 v2 v3 v4 v5
  have ma := hO.regs ka hka
  obtain ⟨_, g0, g1, g2, g3⟩ := hO.box.cells
  have mb := HO.out.regs kb hkb
  go_wp2_with fail
  refine (HDV.out _).mono ?_
  rintro e w' ⟨rfl, rfl⟩
  go_wp2_with fail
  refine (HDO.out _).mono ?_
  rintro e w4 ⟨rfl, n, hw4⟩
  have HO4 := Lib.hid (HO.out.keep (show Keeps (fun _ => False) _ w4 by rw [hw4]; exact (Keeps.refl _ _).drewN n))
  clear hw4 hO v0 v1 v2 v3 v4 v5 ma mb g0 g1 g2 g3
  obtain ⟨v0, v1, v2, v3, v4, v5⟩ := HO4.out.op
  simp only at v0 v1 v2 v3 v4 v5
  have md := HO4.out.regs kd hkd.2
  obtain ⟨_, g0, g1, g2, g3⟩ := HO4.out.box.cells
  obtain ⟨hp1, hp2⟩ := HO4.out.box.put (r' := ⟨Wd.quo (X ka) (X kb) false, 0, false, false⟩)
  have HP := Lib.hid hp1
  have HPK := Lib.hid hp2
  clear hp1 hp2
  go_wp2_with fail
  refine bodyPost_ret (results_cell_row rfl _ _ z 130 (resC ⟨Wd.quo (X ka) (X kb) false, 0, false, false⟩) (0, 0) _ rfl HP.out.blk Tryz.underlying130 rfl size_res) rfl ?_
  rw [HRES.out]
  exact ResIs.of HO4.out HPK.out
set_option maxHeartbeats 4000000 in
set_option maxRecDepth 100000 in
theorem res_div27_z (X : Nat → Int) (k : ByteArray) (d a b im t : Int) (q wb tb hb : Nat) (m : Nat → Int) (wt ht : Nat → Bool) (W : Int → Bool) (w : World) (R : RefAt w q wb tb hb m wt ht) (hW : ∀ p : Nat, p < 64 → wt p = W p) (hX : ∀ k, k < 64 → 0 ≤ X k ∧ X k < 4294967296)
    (hi : Ir.OpIn ⟨k, d, a, b, im, t⟩) (hk : Ir.kn k = 27) (hz : Ir.rg X b = 0) :
    Calls Tryz.prog 64 #[.agg (regL X).toArray, .pointer (some ⟨q, 0, none⟩), .agg #[.string k, .int .i64 d, .int .i64 a, .int .i64 b, .int .u32 im, .int .i64 t]] w (ResIs w (Ir.resOf X m W ⟨k, d, a, b, im, t⟩)) := by
  have hin := hi
  obtain ⟨_, hid, hia, hib, hil, his, him⟩ := hi
  simp only at hid hia hib hil his him
  obtain ⟨ka, rfl⟩ := Int.eq_ofNat_of_zero_le hia.1
  have hka : ka < 64 := by omega
  have hza : (ka : Int) < 64 := by omega
  have xa := hX ka hka
  obtain ⟨kb, rfl⟩ := Int.eq_ofNat_of_zero_le (hib (by omega)).1
  have hkb : kb < 64 := by have := hib (by omega); omega
  have hzb : (kb : Int) < 64 := by omega
  have xb := hX kb hkb
  obtain ⟨kd, rfl⟩ := Int.eq_ofNat_of_zero_le (show 0 ≤ d by have := hid (by omega); omega)
  have hkd : 1 ≤ kd ∧ kd < 64 := by have := hid (by omega); omega
  have hzd : (kd : Int) < 64 := by omega
  have HK := Ir.kinds k 27 hk
  simp only [Nat.reduceBEq] at HK
  obtain ⟨k1, k2, k3, k4, k5, k6, k7, k8, k9, k10, k11, k12, k13, k14, k15, k16, k17, k18, k19, k20, k21, k22, k23, k24, k25, k26, k27⟩ := HK
  have hz2 : X kb = 0 := hz
  have HRES := Lib.hid (show Ir.resOf X m W ⟨k, (kd : Int), (ka : Int), (kb : Int), im, t⟩ = ⟨X kd, 0, false, false⟩ by
    unfold Ir.resOf Ir.value Ir.isDiv
    simp only [hk]
    simp [Ir.rg, hz2])
  have HDV := Lib.hid (fun w => isDiv_any k w)
  rw [show Ir.isDiv (Ir.kn k) = true by rw [hk]; decide] at HDV
  have HDO := Lib.hid (fun w => divOf_any (X ka) (X kb) false w xa xb)
  rw [show (X kb != 0) = false by simp [hz2]] at HDO
  clear hz hz2
  have HO := Lib.hid (res_open w X k (kd : Int) (ka : Int) (kb : Int) im t 132 100)
  have HR := Lib.hid R
  have HW := Lib.hid hW
  have HX := Lib.hid hX
  clear R hW hid hia hib hil his hX
  go_enter Tryz.func64, Tryz.ntmps64
  go_upto_region 1 with fail
  have hO := HO.out
  clear HO
  generalize World.alloc _ _ = w3 at *
  obtain ⟨x, hx⟩ : ∃ x, w.heap.size = x := ⟨_, rfl⟩
  rw [hx] at hO ⊢
  clear hx
  obtain ⟨y, hy⟩ : ∃ y, x + 1 = y := ⟨_, rfl⟩
  rw [hy] at hO ⊢
  clear hy
  obtain ⟨z, hz⟩ : ∃ z, y + 1 = z := ⟨_, rfl⟩
  rw [hz] at hO ⊢
  clear hz
  have HO := Lib.hid hO
  obtain ⟨v0, v1, v2, v3, v4, v5⟩ := hO.op
  simp only at v0 v1 v2 v3 v4 v5
  have ma := hO.regs ka hka
  obtain ⟨_, g0, g1, g2, g3⟩ := hO.box.cells
  have mb := HO.out.regs kb hkb
  go_wp2_with fail
  refine (HDV.out _).mono ?_
  rintro e w' ⟨rfl, rfl⟩
  go_wp2_with fail
  refine (HDO.out _).mono ?_
  rintro e w4 ⟨rfl, n, hw4⟩
  have HO4 := Lib.hid (HO.out.keep (show Keeps (fun _ => False) _ w4 by rw [hw4]; exact (Keeps.refl _ _).drewN n))
  clear hw4 hO v0 v1 v2 v3 v4 v5 ma mb g0 g1 g2 g3
  obtain ⟨v0, v1, v2, v3, v4, v5⟩ := HO4.out.op
  simp only at v0 v1 v2 v3 v4 v5
  have md := HO4.out.regs kd hkd.2
  obtain ⟨_, g0, g1, g2, g3⟩ := HO4.out.box.cells
  obtain ⟨hp1, hp2⟩ := HO4.out.box.put (r' := ⟨X kd, 0, false, false⟩)
  have HP := Lib.hid hp1
  have HPK := Lib.hid hp2
  clear hp1 hp2
  go_wp2_with fail
  refine bodyPost_ret (results_cell_row rfl _ _ z 130 (resC ⟨X kd, 0, false, false⟩) (0, 0) _ rfl HP.out.blk Tryz.underlying130 rfl size_res) rfl ?_
  rw [HRES.out]
  exact ResIs.of HO4.out HPK.out
set_option maxHeartbeats 4000000 in
set_option maxRecDepth 100000 in
theorem res_div27_n (X : Nat → Int) (k : ByteArray) (d a b im t : Int) (q wb tb hb : Nat) (m : Nat → Int) (wt ht : Nat → Bool) (W : Int → Bool) (w : World) (R : RefAt w q wb tb hb m wt ht) (hW : ∀ p : Nat, p < 64 → wt p = W p) (hX : ∀ k, k < 64 → 0 ≤ X k ∧ X k < 4294967296)
    (hi : Ir.OpIn ⟨k, d, a, b, im, t⟩) (hk : Ir.kn k = 27) (hz : Ir.rg X b ≠ 0) :
    Calls Tryz.prog 64 #[.agg (regL X).toArray, .pointer (some ⟨q, 0, none⟩), .agg #[.string k, .int .i64 d, .int .i64 a, .int .i64 b, .int .u32 im, .int .i64 t]] w (ResIs w (Ir.resOf X m W ⟨k, d, a, b, im, t⟩)) := by
  have hin := hi
  obtain ⟨_, hid, hia, hib, hil, his, him⟩ := hi
  simp only at hid hia hib hil his him
  obtain ⟨ka, rfl⟩ := Int.eq_ofNat_of_zero_le hia.1
  have hka : ka < 64 := by omega
  have hza : (ka : Int) < 64 := by omega
  have xa := hX ka hka
  obtain ⟨kb, rfl⟩ := Int.eq_ofNat_of_zero_le (hib (by omega)).1
  have hkb : kb < 64 := by have := hib (by omega); omega
  have hzb : (kb : Int) < 64 := by omega
  have xb := hX kb hkb
  obtain ⟨kd, rfl⟩ := Int.eq_ofNat_of_zero_le (show 0 ≤ d by have := hid (by omega); omega)
  have hkd : 1 ≤ kd ∧ kd < 64 := by have := hid (by omega); omega
  have hzd : (kd : Int) < 64 := by omega
  have HK := Ir.kinds k 27 hk
  simp only [Nat.reduceBEq] at HK
  obtain ⟨k1, k2, k3, k4, k5, k6, k7, k8, k9, k10, k11, k12, k13, k14, k15, k16, k17, k18, k19, k20, k21, k22, k23, k24, k25, k26, k27⟩ := HK
  have hz2 : X kb ≠ 0 := hz
  have HRES := Lib.hid (show Ir.resOf X m W ⟨k, (kd : Int), (ka : Int), (kb : Int), im, t⟩ = ⟨Wd.rst (X ka) (X kb) false, 0, false, false⟩ by
    unfold Ir.resOf Ir.value Ir.isDiv
    simp only [hk]
    simp [Ir.rg, hz2])
  have HDV := Lib.hid (fun w => isDiv_any k w)
  rw [show Ir.isDiv (Ir.kn k) = true by rw [hk]; decide] at HDV
  have HDO := Lib.hid (fun w => divOf_any (X ka) (X kb) false w xa xb)
  rw [show (X kb != 0) = true by simp [hz2]] at HDO
  clear hz hz2
  have HO := Lib.hid (res_open w X k (kd : Int) (ka : Int) (kb : Int) im t 132 100)
  have HR := Lib.hid R
  have HW := Lib.hid hW
  have HX := Lib.hid hX
  clear R hW hid hia hib hil his hX
  go_enter Tryz.func64, Tryz.ntmps64
  go_upto_region 1 with fail
  have hO := HO.out
  clear HO
  generalize World.alloc _ _ = w3 at *
  obtain ⟨x, hx⟩ : ∃ x, w.heap.size = x := ⟨_, rfl⟩
  rw [hx] at hO ⊢
  clear hx
  obtain ⟨y, hy⟩ : ∃ y, x + 1 = y := ⟨_, rfl⟩
  rw [hy] at hO ⊢
  clear hy
  obtain ⟨z, hz⟩ : ∃ z, y + 1 = z := ⟨_, rfl⟩
  rw [hz] at hO ⊢
  clear hz
  have HO := Lib.hid hO
  obtain ⟨v0, v1, v2, v3, v4, v5⟩ := hO.op
  simp only at v0 v1 v2 v3 v4 v5
  have ma := hO.regs ka hka
  obtain ⟨_, g0, g1, g2, g3⟩ := hO.box.cells
  have mb := HO.out.regs kb hkb
  go_wp2_with fail
  refine (HDV.out _).mono ?_
  rintro e w' ⟨rfl, rfl⟩
  go_wp2_with fail
  refine (HDO.out _).mono ?_
  rintro e w4 ⟨rfl, n, hw4⟩
  have HO4 := Lib.hid (HO.out.keep (show Keeps (fun _ => False) _ w4 by rw [hw4]; exact (Keeps.refl _ _).drewN n))
  clear hw4 hO v0 v1 v2 v3 v4 v5 ma mb g0 g1 g2 g3
  obtain ⟨v0, v1, v2, v3, v4, v5⟩ := HO4.out.op
  simp only at v0 v1 v2 v3 v4 v5
  have md := HO4.out.regs kd hkd.2
  obtain ⟨_, g0, g1, g2, g3⟩ := HO4.out.box.cells
  obtain ⟨hp1, hp2⟩ := HO4.out.box.put (r' := ⟨Wd.rst (X ka) (X kb) false, 0, false, false⟩)
  have HP := Lib.hid hp1
  have HPK := Lib.hid hp2
  clear hp1 hp2
  go_wp2_with fail
  refine bodyPost_ret (results_cell_row rfl _ _ z 130 (resC ⟨Wd.rst (X ka) (X kb) false, 0, false, false⟩) (0, 0) _ rfl HP.out.blk Tryz.underlying130 rfl size_res) rfl ?_
  rw [HRES.out]
  exact ResIs.of HO4.out HPK.out
end Go.Proofs.YtknhfobcejpmeaaGreatDoor

/- ResOf -/
/- The walk of the reference's ResultOf. Printed by gen/resof.py. -/
namespace Go.Proofs.YtknhfobcejpmeaaGreatDoor
open Go.RowKit Go.Deep
set_option linter.unusedVariables false
set_option linter.unusedSimpArgs false

/-- WHAT ResultOf ANSWERS, OF A RIGHT OP -/
theorem resultOf_any (X : Nat → Int) (o : Ir.Op) (q wb tb hb : Nat) (m : Nat → Int) (wt ht : Nat → Bool) (W : Int → Bool) (w : World) (R : RefAt w q wb tb hb m wt ht) (hW : ∀ p : Nat, p < 64 → wt p = W p) (hX : ∀ k, k < 64 → 0 ≤ X k ∧ X k < 4294967296)
    (hi : Ir.OpIn o) :
    Calls Tryz.prog 64 #[.agg (regL X).toArray, .pointer (some ⟨q, 0, none⟩), .agg (opC o)] w (ResIs w (Ir.resOf X m W o)) := by
  obtain ⟨k, d, a, b, im, t⟩ := o
  have hle := Ir.kn_le k
  have h0 := hi.k
  simp only at h0
  rcases (show Ir.kn k = 1 ∨ Ir.kn k = 2 ∨ Ir.kn k = 3 ∨ Ir.kn k = 4 ∨ Ir.kn k = 5 ∨ Ir.kn k = 6 ∨ Ir.kn k = 7 ∨ Ir.kn k = 8 ∨ Ir.kn k = 9 ∨ (10 ≤ Ir.kn k ∧ Ir.kn k < 24) ∨ Ir.kn k = 24 ∨ Ir.kn k = 25 ∨ Ir.kn k = 26 ∨ Ir.kn k = 27 by omega) with h | h | h | h | h | h | h | h | h | h | h | h | h | h
  · exact res_set X k d a b im t q wb tb hb m wt ht W w R hW hX hi h
  · exact res_copy X k d a b im t q wb tb hb m wt ht W w R hW hX hi h
  · exact res_overp X k d a b im t q wb tb hb m wt ht W w R hW hX hi h
  · exact res_overm X k d a b im t q wb tb hb m wt ht W w R hW hX hi h
  · have hl := hi.ld h
    simp only at hl
    obtain ⟨nb, hnb, hb2⟩ : ∃ nb : Nat, (nb = 1 ∨ nb = 2 ∨ nb = 4) ∧ (b = nb ∨ b = -(nb : Int)) := ⟨b.natAbs, by omega, by omega⟩
    by_cases hr : rightC (Ir.adr (Ir.rg X a) im) nb = 0
    · rcases hb2 with hb2 | hb2
      · exact res_loadu_ok X k d a b im t q wb tb hb m wt ht W w R hW hX hi h nb hnb hb2 hr
      · exact res_loads_ok X k d a b im t q wb tb hb m wt ht W w R hW hX hi h nb hnb hb2 hr
    · rcases hb2 with hb2 | hb2
      · exact res_loadu_bad X k d a b im t q wb tb hb m wt ht W w R hW hX hi h nb hnb hb2 hr
      · exact res_loads_bad X k d a b im t q wb tb hb m wt ht W w R hW hX hi h nb hnb hb2 hr
  · by_cases hr : rightC (Ir.adr (Ir.rg X a) im) d = 0
    · exact res_store_ok X k d a b im t q wb tb hb m wt ht W w R hW hX hi h hr
    · exact res_store_bad X k d a b im t q wb tb hb m wt ht W w R hW hX hi h hr
  · exact res_if X k d a b im t q wb tb hb m wt ht W w R hW hX hi h
  · exact res_out X k d a b im t q wb tb hb m wt ht W w R hW hX hi h
  · exact res_outr X k d a b im t q wb tb hb m wt ht W w R hW hX hi h
  · exact res_sum X k d a b im t q wb tb hb m wt ht W w R hW hX hi h
  · by_cases hz : Ir.rg X b = 0
    · exact res_div24_z X k d a b im t q wb tb hb m wt ht W w R hW hX hi h hz
    · exact res_div24_n X k d a b im t q wb tb hb m wt ht W w R hW hX hi h hz
  · by_cases hz : Ir.rg X b = 0
    · exact res_div25_z X k d a b im t q wb tb hb m wt ht W w R hW hX hi h hz
    · exact res_div25_n X k d a b im t q wb tb hb m wt ht W w R hW hX hi h hz
  · by_cases hz : Ir.rg X b = 0
    · exact res_div26_z X k d a b im t q wb tb hb m wt ht W w R hW hX hi h hz
    · exact res_div26_n X k d a b im t q wb tb hb m wt ht W w R hW hX hi h hz
  · by_cases hz : Ir.rg X b = 0
    · exact res_div27_z X k d a b im t q wb tb hb m wt ht W w R hW hX hi h hz
    · exact res_div27_n X k d a b im t q wb tb hb m wt ht W w R hW hX hi h hz
end Go.Proofs.YtknhfobcejpmeaaGreatDoor

/- OpsOwn -/
/- Rows of ops of the call's own; the walks of slices.Clone, OwnOps. -/
namespace Go.Proofs.YtknhfobcejpmeaaGreatDoor
open Go.RowKit Go.Deep
set_option linter.unusedVariables false
set_option linter.unusedSimpArgs false

def opsL (l : List Ir.Op) : List Value := l.flatMap (fun o => (opC o).toList)
theorem opsL_len (l : List Ir.Op) : (opsL l).length = l.length * 6 := by
  induction l with
  | nil => rfl
  | cons o r ih =>
    have : opsL (o :: r) = (opC o).toList ++ opsL r := rfl
    rw [this, List.length_append, ih, List.length_cons]
    show 6 + _ = _
    omega
theorem opsL_get (l : List Ir.Op) : ∀ i q, i < l.length → q < 6 → (opsL l)[i * 6 + q]? = (opC (l.getD i Ir.nop))[q]? := by
  induction l with
  | nil => intro i q h; simp at h
  | cons o r ih =>
    intro i q h hq
    have e : opsL (o :: r) = (opC o).toList ++ opsL r := rfl
    rw [e]
    cases i with
    | zero =>
      rw [List.getElem?_append_left (by show _ < 6; omega)]
      simp
    | succ i =>
      rw [List.getElem?_append_right (by show 6 ≤ _; omega)]
      show (opsL r)[(i + 1) * 6 + q - 6]? = _
      rw [show (i + 1) * 6 + q - 6 = i * 6 + q by omega, ih i q (by simpa using h) hq]
      rfl
theorem opsL_one (l : List Ir.Op) : ∀ v ∈ opsL l, v.oneCell' = true := by
  intro v hv
  unfold opsL at hv
  obtain ⟨o, _, h⟩ := List.mem_flatMap.1 hv
  simp only [opC, List.mem_cons, List.not_mem_nil, or_false] at h
  rcases h with rfl | rfl | rfl | rfl | rfl | rfl <;> rfl
theorem OpLies.of_cells {w : World} {b o : Nat} {x : Ir.Op} (h : ∀ q, q < 6 → ∀ v, (opC x)[q]? = some v → w.cell? ⟨b, o + q, none⟩ = some v) : OpLies w b o x :=
  ⟨h 0 (by omega) _ rfl, h 1 (by omega) _ rfl, h 2 (by omega) _ rfl, h 3 (by omega) _ rfl, h 4 (by omega) _ rfl, h 5 (by omega) _ rfl⟩
theorem OpLies.cell {w : World} {b o : Nat} {x : Ir.Op} (h : OpLies w b o x) {q : Nat} (hq : q < 6) {v : Value} (hv : (opC x)[q]? = some v) : w.cell? ⟨b, o + q, none⟩ = some v := by
  have hq2 : q = 0 ∨ q = 1 ∨ q = 2 ∨ q = 3 ∨ q = 4 ∨ q = 5 := by omega
  rcases hq2 with rfl | rfl | rfl | rfl | rfl | rfl <;> (injection hv with hv; subst hv)
  · exact h.v0
  · exact h.v1
  · exact h.v2
  · exact h.v3
  · exact h.v4
  · exact h.v5
theorem OpsAt.cells {w : World} {b o n cap : Nat} {l : List Ir.Op} (V : OpsAt w (some ⟨b, o, none⟩) n cap l) : ∀ j u, (opsL l)[j]? = some u → w.cell? ((⟨b, o, none⟩ : Addr).add j) = some u := by
  intro j u hu
  have hj := (List.getElem?_eq_some_iff.1 hu).1
  rw [opsL_len, V.len] at hj
  obtain ⟨b2, o2, hb, h⟩ := V.get (i := j / 6) (by omega)
  obtain ⟨rfl, rfl⟩ : b = b2 ∧ o = o2 := by injection hb with h; injection h with h1 h2; exact ⟨h1, h2⟩
  have e := opsL_get l (j / 6) (j % 6) (by rw [V.len]; omega) (by omega)
  rw [show j / 6 * 6 + j % 6 = j by omega, hu] at e
  have := h.cell (q := j % 6) (by omega) e.symm
  rw [Addr.add_lit]
  rw [show o + j / 6 * 6 + j % 6 = o + j by omega] at this
  exact this
/-- ops of the call's own -/
theorem OpsAt.of_owns {w : World} {base n cap : Nat} {A : Option Addr} {l : List Ir.Op} (h : w.ownsRow base 100 6 (.slice A n cap) n (opsL l)) (hl : l.length = n) : OpsAt w A n cap l := by
  obtain ⟨h1, ⟨h2, h3⟩ | ⟨g, cap', cur, h2, h3, h4, h5, h6, h7, h8⟩⟩ := h
  · injection h2 with e1 e2 e3
    subst e1 e2 e3
    exact ⟨hl, Nat.le_refl _, .inl rfl⟩
  · injection h2 with e1 e2 e3
    subst e1 e3
    refine ⟨hl, h5, .inr ⟨g, 0, rfl, (Array.getElem?_eq_some_iff.1 h4).1, fun i hi => OpLies.of_cells fun q hq v hv => ?_⟩⟩
    have e := opsL_get l i q (by omega) hq
    rw [hv, ← h8, List.getElem?_take_of_lt (by omega)] at e
    unfold World.cell?
    rw [h4]
    simp only [Nat.zero_add]
    simpa using e
theorem Tryz.info_op : (Tryz.prog.info? 100).map (fun i => (i.zero, i.size, i.bytes)) = some (some (.agg #[.string ByteArray.empty, .int .i64 0, .int .i64 0, .int .i64 0, .int .u32 0, .int .i64 0]), 6, 56) := by kernel_rfl
/-- a result that is a row of ops of the call's own -/
def OpsOwn (w : World) (base : Nat) (l : List Ir.Op) (v : Value) : Prop := ∃ A cap, v = .slice A l.length cap ∧ w.ownsRow base 100 6 v l.length (opsL l)
theorem OpsOwn.at_ {w : World} {base : Nat} {l : List Ir.Op} {v : Value} (h : OpsOwn w base l v) : ∃ A cap, v = .slice A l.length cap ∧ OpsAt w A l.length cap l := by
  obtain ⟨A, cap, rfl, ho⟩ := h
  exact ⟨A, cap, rfl, OpsAt.of_owns ho rfl⟩
set_option maxHeartbeats 2000000 in
set_option maxRecDepth 100000 in
theorem clone_any (A : Option Addr) (n cap : Nat) (l : List Ir.Op) (w : World) (V : OpsAt w A n cap l) (hn : n < 1000000) :
    Calls Tryz.prog 113 #[.slice A n cap] w fun e w' => ∃ v', e = .returned v' ∧ OpsOwn w' w.heap.size l v' ∧ Keeps (fun _ => False) w w' := by
  obtain ⟨i0, hi, hz0, hz1, hz2⟩ := info_parts Tryz.info_op
  have hl := V.len
  have hnc := V.le
  have HV := Lib.hid V
  by_cases h0 : A = none
  · subst h0
    have hcap : cap = 0 := by
      obtain ⟨_, _, h | ⟨b, o, h, _⟩⟩ := V
      · exact h
      · cases h
    obtain rfl : n = 0 := by omega
    subst hcap
    have hln : l = [] := List.eq_nil_of_length_eq_zero hl
    subst hln
    clear V hl hnc HV
    have hq := fun w => Lib.run_eql_slice_nil (P := Tryz.prog) w 23 100 none 0 0 0 0 Tryz.underlying23
    go_enter Tryz.func113, Tryz.ntmps113
    go_wp2_with fail
    go_ret
    exact ⟨_, rfl, ⟨none, 0, rfl, World.ownsRow_nil _ _ _ _⟩, Keeps.refl _ _⟩
  · obtain ⟨ad, rfl⟩ : ∃ ad, A = some ad := by cases A with | none => exact absurd rfl h0 | some a => exact ⟨a, rfl⟩
    clear h0
    have HN := Lib.hid (show ∀ j u, (opsL l)[j]? = some u → (w.alloc (.cells #[] 100)).cell? (ad.add j) = some u from fun j u hu => by
      obtain ⟨h1, h2, h3 | ⟨b, o, hb, hbl, hc⟩⟩ := V
      · have : l = [] := List.eq_nil_of_length_eq_zero (by omega)
        subst this
        simp [opsL] at hu
      · injection hb with hb
        subst hb
        have V2 : OpsAt w (some ⟨b, o, none⟩) n cap l := ⟨h1, h2, .inr ⟨b, o, rfl, hbl, hc⟩⟩
        have := V2.cells j u hu
        rw [Addr.add_lit] at this ⊢
        exact cell_alloc this _)
    clear V
    have hq := fun w => Lib.run_eql_slice_nil (P := Tryz.prog) w 23 100 (some ad) n cap 0 0 Tryz.underlying23
    have hmx : 0 + n ≤ maxLen := by unfold maxLen; omega
    have hlen : (opsL l).length = n * 6 := by rw [opsL_len, hl]
    have h1 := opsL_one l
    go_enter Tryz.func113, Tryz.ntmps113
    go_wp2_with (at_builtin; go_loud (refine wpList_append_own _ rfl _ _ 23 rfl w.heap.size 100 i0 _ 6 56 Tryz.underlying23 hi hz0 hz1 hz2 rfl (by decide) (.slice (some ⟨w.heap.size, 0, none⟩) 0 0) 0 [] rfl ?c0 ad n cap (opsL l) rfl hlen HN.out h1 hmx (by omega) ?c5 ?c6))
    case c0 => exact ⟨rfl, .inr ⟨w.heap.size, 0, #[], rfl, Nat.le_refl _, blk_alloc_new _ _, Nat.le_refl _, Nat.zero_le _, rfl, rfl⟩⟩
    case c5 => simp
    case c6 =>
      intro v' w1 hown hgrow hnil
      obtain ⟨A', cap', rfl⟩ := owns_slice hown
      have hK : Keeps (fun _ => False) w w1 := ((Keeps.refl _ w).alloc (.cells #[] 100)).grown hgrow (fun k hk => by simp [Value.ownBlock] at hk; omega)
      have HO := Lib.hid (show OpsOwn w1 w.heap.size l (.slice A' n cap') from by
        subst hl
        exact ⟨A', cap', rfl, hown⟩)
      clear hown
      go_wp2
      go_ret
      exact ⟨_, rfl, HO.out, hK⟩
theorem wpList_append_none {ops : Array Oper} {rest : List Oper} {o : Oper} {a : Act} {w : World} {Q : Exit → Act → World → Prop} (hgd : o.guard = none) (s x : Operand) (t : TypeId) (ho : o.op = .call { callee := .builtin .append, args := #[s, x], argTypes := #[t, t] })
    (hs : a.eval s = .slice none 0 0) (hx : a.eval x = .slice none 0 0) (hr : (Builtin.append_ #[t, t] o.type #[.slice none 0 0, .slice none 0 0]).run Tryz.prog w = .ok (.slice none 0 0) w)
    (h : wpList Tryz.prog ops Q rest (a.put o.dst (.slice none 0 0)) w) : wpList Tryz.prog ops Q (o :: rest) a w := by
  refine wpList_plain hgd fun K' hK' => ?_
  unfold Oper.wp execOp
  simp only [ho, resolve, invoke, builtin, Sem.run_bind, Sem.run_pure, Result.andThen_ok, List.map_toArray, List.map_cons, List.map_nil, hs, hx, hr]
  exact hK' _ _ h
set_option maxHeartbeats 2000000 in
set_option maxRecDepth 100000 in
theorem ownOps_any (A : Option Addr) (n cap : Nat) (l : List Ir.Op) (w : World) (V : OpsAt w A n cap l) (hn : n < 1000000) :
    Calls Tryz.prog 10 #[.slice A n cap] w fun e w' => ∃ v', e = .returned v' ∧ OpsOwn w' w.heap.size l v' ∧ Keeps (fun _ => False) w w' := by
  obtain ⟨i0, hi, hz0, hz1, hz2⟩ := info_parts Tryz.info_op
  have hl := V.len
  have hnc := V.le
  by_cases h0 : A = none
  · subst h0
    have hcap : cap = 0 := by
      obtain ⟨_, _, h | ⟨b, o, h, _⟩⟩ := V
      · exact h
      · cases h
    obtain rfl : n = 0 := by omega
    subst hcap
    have hln : l = [] := List.eq_nil_of_length_eq_zero hl
    subst hln
    clear V hl hnc
    go_enter Tryz.func10, Tryz.ntmps10
    go_wp2
    go_ret
    exact ⟨_, rfl, ⟨none, 0, rfl, World.ownsRow_nil _ _ _ _⟩, Keeps.refl _ _⟩
  · obtain ⟨ad, rfl⟩ : ∃ ad, A = some ad := by cases A with | none => exact absurd rfl h0 | some a => exact ⟨a, rfl⟩
    clear h0
    have HN := Lib.hid (show ∀ j u, (opsL l)[j]? = some u → w.cell? (ad.add j) = some u from fun j u hu => by
      obtain ⟨h1, h2, h3 | ⟨b, o, hb, hbl, hc⟩⟩ := V
      · have : l = [] := List.eq_nil_of_length_eq_zero (by omega)
        subst this
        simp [opsL] at hu
      · injection hb with hb
        subst hb
        have V2 : OpsAt w (some ⟨b, o, none⟩) n cap l := ⟨h1, h2, .inr ⟨b, o, rfl, hbl, hc⟩⟩
        exact V2.cells j u hu)
    clear V
    have hmx : 0 + n ≤ maxLen := by unfold maxLen; omega
    have hlen : (opsL l).length = n * 6 := by rw [opsL_len, hl]
    have h1 := opsL_one l
    go_enter Tryz.func10, Tryz.ntmps10
    go_wp2_with (at_builtin; go_loud (refine wpList_append_own _ rfl _ _ 23 rfl w.heap.size 100 i0 _ 6 56 Tryz.underlying23 hi hz0 hz1 hz2 rfl (by decide) (.slice none 0 0) 0 [] rfl (World.ownsRow_nil _ _ _ _) ad n cap (opsL l) rfl hlen HN.out h1 hmx (by omega) (Nat.le_refl _) ?c6))
    case c6 =>
      intro v' w1 hown hgrow hnil
      obtain ⟨A', cap', rfl⟩ := owns_slice hown
      have hK : Keeps (fun _ => False) w w1 := (Keeps.refl _ w).grown hgrow (fun k hk => by simp [Value.ownBlock] at hk)
      have HO := Lib.hid (show OpsOwn w1 w.heap.size l (.slice A' n cap') from by
        subst hl
        exact ⟨A', cap', rfl, hown⟩)
      clear hown
      go_wp2
      go_ret
      exact ⟨_, rfl, HO.out, hK⟩
end Go.Proofs.YtknhfobcejpmeaaGreatDoor

/- Mach2 -/
/- The walks of Ready, Over, Where, Watched, May. -/
namespace Go.Proofs.YtknhfobcejpmeaaGreatDoor
open Go.RowKit Go.Deep
set_option linter.unusedVariables false
set_option linter.unusedSimpArgs false

/-- is a state one that a code at pc begins with? -/
def Ir.ready (s : Cp.St) (pc : Int) : Bool := !s.slot && (s.pc == pc) && (s.next == (pc + 4) % 4294967296)
set_option maxRecDepth 100000 in
theorem ready_any (sb : Nat) (s : Cp.St) (pc : Int) (w : World) (hS : StAt w sb s) (hpc : 0 ≤ pc ∧ pc < 4294967296) :
    Calls Tryz.prog 57 #[.pointer (some ⟨sb, 0, none⟩), .int .u32 pc] w fun e w' => e = .returned (.bool (Ir.ready s pc)) ∧ w = w' := by
  obtain ⟨_, _, p2, p3, p4, _⟩ := hS.cells
  obtain ⟨r, hr⟩ : ∃ r, Ir.ready s pc = r := ⟨_, rfl⟩
  rw [hr]
  unfold Ir.ready at hr
  obtain ⟨q, hq⟩ : ∃ q, (s.next == (pc + 4) % 4294967296) = q := ⟨_, rfl⟩
  have hq2 := hq
  rw [hq] at hr
  generalize s.slot = sl at *
  generalize s.pc = sp at *
  generalize s.next = sn at *
  have HR := Lib.hid hr
  clear hr hS
  cases sl
  · cases hp : (sp == pc)
    · have HE := Lib.hid (show r = false by rw [← HR.out, hp]; rfl)
      have HR := ()
      go_enter Tryz.func57, Tryz.ntmps57
      go_wp2_with fail
      go_ret
      exact ⟨by rw [HE.out]; rfl, rfl⟩
    · have HE := Lib.hid (show r = q by rw [← HR.out, hp]; rfl)
      have HR := ()
      clear hq2
      cases q
      all_goals
        go_enter Tryz.func57, Tryz.ntmps57
        go_wp2_with fail
        go_ret
        exact ⟨by rw [HE.out]; rfl, rfl⟩
  · have HE := Lib.hid (show r = false by rw [← HR.out]; rfl)
    have HR := ()
    go_enter Tryz.func57, Tryz.ntmps57
    go_wp2_with fail
    go_ret
    exact ⟨by rw [HE.out]; rfl, rfl⟩
theorem is_overm (k : ByteArray) : (k.toList == [111, 118, 101, 114, 45]) = (Ir.kn k == 4) := Ir.eq_lit2 k 4 (by omega)
set_option maxRecDepth 100000 in
theorem over_any (k : ByteArray) (a b : Int) (w : World) (ha : 0 ≤ a ∧ a < 4294967296) (hb : 0 ≤ b ∧ b < 4294967296) :
    Calls Tryz.prog 137 #[.string k, .int .u32 a, .int .u32 b] w fun e w' => e = .returned (.bool (Ir.overV (Ir.kn k) a b)) ∧ w = w' := by
  have h4 := is_overm k
  have HV : Hid (Ir.overV (Ir.kn k) a b = if (Ir.kn k == 4) = true then !Wd.isS (Wd.sg a - Wd.sg b) else !Wd.isS (Wd.sg a + Wd.sg b)) := Lib.hid (by unfold Ir.overV; simp)
  generalize Ir.overV (Ir.kn k) a b = r at *
  have HA := Lib.hid (fun w => add_any a b w ha hb)
  have HS := Lib.hid (fun w => sub_any a b w ha hb)
  cases h : (Ir.kn k == 4)
  · rw [h] at h4 HV
    clear h
    go_enter Tryz.func137, Tryz.ntmps137
    go_wp2_with fail
    refine (HA.out _).mono ?_
    rintro e w' ⟨rfl, rfl⟩
    go_wp2_with fail
    go_ret
    exact ⟨by rw [HV.out]; rfl, rfl⟩
  · rw [h] at h4 HV
    clear h
    go_enter Tryz.func137, Tryz.ntmps137
    go_wp2_with fail
    refine (HA.out _).mono ?_
    rintro e w' ⟨rfl, rfl⟩
    go_wp2_with fail
    refine (HS.out _).mono ?_
    rintro e w' ⟨rfl, rfl⟩
    go_wp2_with fail
    go_ret
    exact ⟨by rw [HV.out]; rfl, rfl⟩
/-- what is watched, as it lies -/
def WatchAt (w : World) (pw : Nat) (W : Int → Bool) : Prop := ∃ es c, w.heap[pw]? = some (.map es c) ∧ ∀ w' : World, w'.heap[pw]? = some (.map es c) → ∀ p : Int, 0 ≤ p → p < 64 →
  (Instr.lookup 139 (.map (some pw)) (.int .i64 p) false).run Tryz.prog w' = .ok (.bool (W p)) w'
theorem WatchAt.keep {S : Nat → Prop} {w w' : World} {pw : Nat} {W : Int → Bool} (h : WatchAt w pw W) (k : Keeps S w w') (hs : ¬ S pw) : WatchAt w' pw W := by
  obtain ⟨es, c, h1, h2⟩ := h
  exact ⟨es, c, k.map h1 hs, h2⟩
theorem WatchAt.look {w : World} {pw : Nat} {W : Int → Bool} (h : WatchAt w pw W) (p : Int) (h0 : 0 ≤ p) (h1 : p < 64) : (Instr.lookup 139 (.map (some pw)) (.int .i64 p) false).run Tryz.prog w = .ok (.bool (W p)) w := by
  obtain ⟨es, c, h2, h3⟩ := h
  exact h3 w h2 p h0 h1
theorem WatchAt.lt {w : World} {pw : Nat} {W : Int → Bool} (h : WatchAt w pw W) : pw < w.heap.size := by
  obtain ⟨es, c, h2, h3⟩ := h
  exact (Array.getElem?_eq_some_iff.1 h2).1
set_option maxRecDepth 100000 in
theorem watched_any (r pb pw ph cp : Nat) (m : Nat → Int) (W : Int → Bool) (a : Int) (w : World) (R : RamAt w r pb pw ph cp m) (hW : WatchAt w pw W) (ha : 0 ≤ a ∧ a < 16384) :
    Calls Tryz.prog 170 #[.pointer (some ⟨r, 0, none⟩), .int .u32 a] w fun e w' => e = .returned (.bool (W (a / 256))) ∧ w = w' := by
  have hb : w.cell? ⟨r, 1, none⟩ = some (.map (some pw)) := by simp [World.cell?, R.box]
  have hl := hW.look (a / 256) (by omega) (by omega)
  clear R hW
  generalize W (a / 256) = q at *
  go_enter Tryz.func170, Tryz.ntmps170
  go_wp2_with fail
  go_ret
  exact ⟨rfl, rfl⟩
end Go.Proofs.YtknhfobcejpmeaaGreatDoor
