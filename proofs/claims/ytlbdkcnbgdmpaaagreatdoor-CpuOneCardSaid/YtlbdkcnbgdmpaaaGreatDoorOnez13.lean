import Derived.Test.YtlbdkcnbgdmpaaaGreatDoorOnez12

/- Rbranch -/
/- The reference's processor: the walks of branch, one an operation. Printed by gen/rbranch.py. -/
namespace Go.Proofs.YtlbdkcnbgdmpaaaGreatDoor
open Go.RowKit Go.Deep
set_option linter.unusedVariables false

/-- what a branch of the reference leaves -/
structure RbOk (w w' : World) (sb : Nat) (t : Int) (r : Int × Cp.St) (e : Ending) : Prop where
  e : e = .returned (.tuple #[.int .i64 t, .int .i64 r.1])
  st : ∃ s', StAt w' sb s' ∧ Cp.Ends r s'
  k : Keeps (· = sb) w w'
set_option maxHeartbeats 1000000 in
theorem rbr_slot (sb : Nat) (i : Cd.Ins) (s : Cp.St) (w : World) (hS : StAt w sb s) (hsl : s.slot = true) :
    Calls Tryz.prog 84 #[.pointer (some ⟨sb, 0, none⟩), .agg (insC i)] w fun e w' => RbOk w w' sb (-1) (10, s) e := by
  have HO := Lib.hid (ref_open hS i)
  have HSL := Lib.hid hsl
  clear hS hsl
  unfold insC
  go_enter Tryz.func84, Tryz.ntmps84
  go_upto_region 1 with fail
  obtain ⟨hS1, hI1, hk1⟩ := HO.out
  generalize w.alloc _ = w1 at *
  have s36 := hS1.cells.2.2.2.2.1
  rw [HSL.out] at s36
  have HS1 := Lib.hid hS1
  have HK1 := Lib.hid hk1
  clear hS1 hI1 hk1
  go_wp2_with fail
  go_ret2
  exact ⟨rfl, ⟨s, HS1.out, Cp.ends_bad 10 (by decide)⟩, HK1.out⟩

set_option maxRecDepth 100000 in
set_option maxHeartbeats 3000000 in
theorem rbr_31y (sb : Nat) (S T D imm : Int) (s : Cp.St) (w : World) (hS : StAt w sb s) (hS5 : 0 ≤ S ∧ S < 32) (hT5 : 0 ≤ T ∧ T < 32) (hD5 : 0 ≤ D ∧ D < 32) (him : 0 ≤ imm ∧ imm < 67108864) (a bb n p4 gn q nr fr v8 : Int)
    (hpc : 0 ≤ s.pc ∧ s.pc < 4294967296) (ha : 0 ≤ a ∧ a < 4294967296) (hb : 0 ≤ bb ∧ bb < 4294967296) (hav : s.R S.toNat = a) (hbv : s.R T.toNat = bb) (h0 : s.R 0 = 0) (hsl : s.slot = false) (hn : 0 ≤ n ∧ n < 4294967296) (hp4 : 0 ≤ p4 ∧ p4 < 4294967296) (hgn : -2147483648 ≤ gn ∧ gn ≤ 2147483647) (hq : 0 ≤ q ∧ q < 4294967296) (hnr : 0 ≤ nr ∧ nr < 4294967296)
    (HNV : Hid (Cp.immS ⟨31, S, T, D, imm⟩ = n)) (HP4 : Hid (∀ w, Calls Tryz.prog 43 #[.int .u32 s.pc, .int .u32 4] w fun e w' => e = .returned (.int .u32 p4) ∧ w = w')) (HGN : Hid (∀ w, Calls Tryz.prog 46 #[.int .u32 n] w fun e w' => e = .returned (.int .i64 gn) ∧ w = w'))
    (HQ : Hid (∀ w, Calls Tryz.prog 42 #[.int .i64 (4 * gn)] w fun e w' => e = .returned (.int .u32 q) ∧ w = w')) (HNR : Hid (∀ w, Calls Tryz.prog 43 #[.int .u32 p4, .int .u32 q] w fun e w' => e = .returned (.int .u32 nr) ∧ w = w'))
    (HFR : Hid (p4 / 268435456 * 268435456 + 4 * imm = fr)) (HV8 : Hid (∀ w, Calls Tryz.prog 43 #[.int .u32 s.pc, .int .u32 8] w fun e w' => e = .returned (.int .u32 v8) ∧ w' = w)) (hc : a = bb) :
    Calls Tryz.prog 84 #[.pointer (some ⟨sb, 0, none⟩), .agg (insC ⟨31, S, T, D, imm⟩)] w fun e w' => RbOk w w' sb nr (-1, s) e := by
  obtain ⟨S, rfl⟩ := Int.eq_ofNat_of_zero_le hS5.1
  obtain ⟨T, rfl⟩ := Int.eq_ofNat_of_zero_le hT5.1
  obtain ⟨D, rfl⟩ := Int.eq_ofNat_of_zero_le hD5.1
  rw [Int.toNat_natCast] at hav hbv
  have HO := Lib.hid (ref_open hS ⟨31, S, T, D, imm⟩)
  have HE := Lib.hid (Cp.ends_same h0)
  have HAV := Lib.hid hav
  have HBV := Lib.hid hbv
  have HSL := Lib.hid hsl
  have HLT := Lib.hid hS.lt
  have hQ := HQ.out
  have hcd : (a == bb) = true := by simpa using hc
  clear hc
  clear hS hav hbv h0 hsl hQ
  unfold insC
  go_enter Tryz.func84, Tryz.ntmps84
  go_upto_region 1 with fail
  obtain ⟨hS1, hI1, hk1⟩ := HO.out
  simp only at hS1 hI1 hk1
  have hxs : ¬ w.heap.size = sb := fun h => by have := HLT.out; omega
  have hsx : ¬ sb = w.heap.size := fun h => by have := HLT.out; omega
  generalize w.alloc _ = w1 at *
  generalize w.heap.size = x at *
  have HS1 := Lib.hid hS1
  have HI1 := Lib.hid hI1
  have HK1 := Lib.hid hk1
  have HW := Lib.hid (fun d => (⟨HS1.out.drewN d, HI1.out.drewN d, HK1.out.drewN d⟩ : StAt (w1.drewN d) sb s ∧ IAt (w1.drewN d) x ⟨31, S, T, D, imm⟩ ∧ Keeps (· = sb) w (w1.drewN d)))
  obtain ⟨i0, i1, i2, i3, i4⟩ := hI1.cells
  simp only at i0 i1 i2 i3 i4
  have rS := hS1.reg S (by omega)
  rw [HAV.out] at rS
  have s36 := hS1.cells.2.2.2.2.1
  rw [HSL.out] at s36
  have hS6 : (S : Int) < 32 := by omega
  have hT6 : (T : Int) < 32 := by omega
  have hD6 : (D : Int) < 32 := by omega
  clear hS1 hI1 hk1
  go_upto_region 3 with fail
  go_quiet (fail)
  obtain ⟨hS1, hI1, hk1⟩ := HW.out nq
  clear i0 i1 i2 i3 i4 rS s36 HS1 HI1 HK1 HO HW
  generalize w1.drewN nq = w2 at *
  have HW := Lib.hid (fun d => (⟨hS1.drewN d, hI1.drewN d, hk1.drewN d⟩ : StAt (w2.drewN d) sb s ∧ IAt (w2.drewN d) x ⟨31, S, T, D, imm⟩ ∧ Keeps (· = sb) w (w2.drewN d)))
  obtain ⟨i0, i1, i2, i3, i4⟩ := hI1.cells
  simp only at i0 i1 i2 i3 i4
  have rT := hS1.reg T (by omega)
  rw [HBV.out] at rT
  clear hS1 hI1 hk1
  go_upto_region 4 with fail
  go_quiet (fail)
  obtain ⟨hS1, hI1, hk1⟩ := HW.out nq
  clear i0 i1 i2 i3 i4 rT HW
  generalize w2.drewN nq = w3 at *
  have HS2 := Lib.hid hS1
  have HK2 := Lib.hid hk1
  have HI2 := Lib.hid hI1
  obtain ⟨i0, i1, i2, i3, i4⟩ := hI1.cells
  simp only at i0 i1 i2 i3 i4
  have s34 := hS1.cells.2.2.1
  clear hS1 hk1 hI1
  have h4 : IntKind.i64.wrap (4 * gn) = 4 * gn := by rw [IntKind.wrap_i64]; omega
  have h6 : IntKind.i64.wrap nr = nr := by rw [IntKind.wrap_i64]; omega
  have h7 : IntKind.i64.wrap a = a := by rw [IntKind.wrap_i64]; omega
  have h5 : wrap64 (4 * gn) = 4 * gn := by unfold wrap64; omega
  have HIM : Hid (∀ w, Calls Tryz.prog 94 #[.agg #[.int .i64 31, .int .i64 (S : Int), .int .i64 (T : Int), .int .i64 (D : Int), .int .u32 imm]] w fun e w' => e = .returned (.int .u32 n) ∧ Keeps (fun _ => False) w w') := Lib.hid (fun w => immOf_k ⟨31, S, T, D, imm⟩ n w ⟨him.1, Int.lt_trans him.2 (by decide)⟩ HNV.out)
  go_upto_region 5 with fail
  go_region_held3 (fun w' => Keeps (fun _ => False) w3 w' ∧ w'.cell? ⟨x, 0, none⟩ = some (.int .i64 31) ∧ w'.cell? ⟨x, 1, none⟩ = some (.int .i64 (S : Int)) ∧ w'.cell? ⟨x, 2, none⟩ = some (.int .i64 (T : Int)) ∧ w'.cell? ⟨x, 3, none⟩ = some (.int .i64 (D : Int)) ∧ w'.cell? ⟨x, 4, none⟩ = some (.int .u32 imm) ∧ w'.cell? ⟨sb, 34, none⟩ = some (.int .u32 s.pc))
    (first | (refine ⟨?_, ?_, ?_, ?_, ?_, ?_, ?_⟩ <;> first | ((repeat (first | exact Keeps.refl _ _ | assumption | apply Keeps.drew | apply Keeps.drewN | apply Keeps.alloc | (refine Keeps.trans ?_ (by assumption) (fun _ _ h => h)))); done) | (refine Keeps.cell' (S := fun _ => False) (w := w3) ?_ (by assumption) (fun f => f); (repeat (first | exact Keeps.refl _ _ | assumption | apply Keeps.drew | apply Keeps.drewN | apply Keeps.alloc | (refine Keeps.trans ?_ (by assumption) (fun _ _ h => h)))); done)) | (trace_state; fail))
    (first
      | (go_at_call 94; with_reducible refine (HIM.out _).mono ?_; rintro e w4 ⟨rfl, hk4⟩)
      | (go_at_call 46; with_reducible refine (HGN.out _).mono ?_; rintro e w' ⟨rfl, rfl⟩)
      | (go_at_call 42; with_reducible refine (HQ.out _).mono ?_; rintro e w' ⟨rfl, rfl⟩)
      | (go_at_call 43; with_reducible refine (HP4.out _).mono ?_; rintro e w' ⟨rfl, rfl⟩)
      | (go_at_call 43; with_reducible refine (HNR.out _).mono ?_; rintro e w' ⟨rfl, rfl⟩))
  rename_i hh
  obtain ⟨hk4, i0', i1', i2', i3', i4', s34'⟩ := hh
  have hS4 := HS2.out.keep hk4 (fun h => h)
  have hI4 := HI2.out.keep hk4 (fun h => h)
  have hK4 := HK2.out.trans hk4 (fun _ _ h => h.elim)
  clear i0 i1 i2 i3 i4 s34 HS2 HI2 HK2 hk4 i0' i1' i2' i3' i4' s34'
  have HW := Lib.hid (fun d => (⟨hS4.drewN d, hI4.drewN d, hK4.drewN d⟩ : StAt (w4.drewN d) sb s ∧ IAt (w4.drewN d) x ⟨31, S, T, D, imm⟩ ∧ Keeps (· = sb) w (w4.drewN d)))
  obtain ⟨i0, i1, i2, i3, i4⟩ := hI4.cells
  simp only at i0 i1 i2 i3 i4
  have s34 := hS4.cells.2.2.1
  clear hS4 hI4 hK4
  go_upto_region 6 with fail
  go_quiet (first | (go_at_call 43; with_reducible exact (quiet_eq (HP4.out _))))
  try rw [HFR.out]
  obtain ⟨hS1, hI1, hk1⟩ := HW.out nq
  clear i0 i1 i2 i3 i4 s34 HW
  generalize w4.drewN nq = w5 at *
  have HS2 := Lib.hid hS1
  have HK2 := Lib.hid hk1
  obtain ⟨i0, i1, i2, i3, i4⟩ := hI1.cells
  simp only at i0 i1 i2 i3 i4
  have s34 := hS1.cells.2.2.1
  have fD := hS1.frozen D
  have rD := hS1.reg D (by omega)
  have f31 := hS1.frozen 31
  have r31 := hS1.reg 31 (by omega)
  clear hS1 hk1 hI1
  go_wp2_with fail
  go_ret2
  exact ⟨rfl, ⟨s, HS2.out, HE.out⟩, HK2.out⟩

set_option maxRecDepth 100000 in
set_option maxHeartbeats 3000000 in
theorem rbr_31n (sb : Nat) (S T D imm : Int) (s : Cp.St) (w : World) (hS : StAt w sb s) (hS5 : 0 ≤ S ∧ S < 32) (hT5 : 0 ≤ T ∧ T < 32) (hD5 : 0 ≤ D ∧ D < 32) (him : 0 ≤ imm ∧ imm < 67108864) (a bb n p4 gn q nr fr v8 : Int)
    (hpc : 0 ≤ s.pc ∧ s.pc < 4294967296) (ha : 0 ≤ a ∧ a < 4294967296) (hb : 0 ≤ bb ∧ bb < 4294967296) (hav : s.R S.toNat = a) (hbv : s.R T.toNat = bb) (h0 : s.R 0 = 0) (hsl : s.slot = false) (hn : 0 ≤ n ∧ n < 4294967296) (hp4 : 0 ≤ p4 ∧ p4 < 4294967296) (hgn : -2147483648 ≤ gn ∧ gn ≤ 2147483647) (hq : 0 ≤ q ∧ q < 4294967296) (hnr : 0 ≤ nr ∧ nr < 4294967296)
    (HNV : Hid (Cp.immS ⟨31, S, T, D, imm⟩ = n)) (HP4 : Hid (∀ w, Calls Tryz.prog 43 #[.int .u32 s.pc, .int .u32 4] w fun e w' => e = .returned (.int .u32 p4) ∧ w = w')) (HGN : Hid (∀ w, Calls Tryz.prog 46 #[.int .u32 n] w fun e w' => e = .returned (.int .i64 gn) ∧ w = w'))
    (HQ : Hid (∀ w, Calls Tryz.prog 42 #[.int .i64 (4 * gn)] w fun e w' => e = .returned (.int .u32 q) ∧ w = w')) (HNR : Hid (∀ w, Calls Tryz.prog 43 #[.int .u32 p4, .int .u32 q] w fun e w' => e = .returned (.int .u32 nr) ∧ w = w'))
    (HFR : Hid (p4 / 268435456 * 268435456 + 4 * imm = fr)) (HV8 : Hid (∀ w, Calls Tryz.prog 43 #[.int .u32 s.pc, .int .u32 8] w fun e w' => e = .returned (.int .u32 v8) ∧ w' = w)) (hc : ¬ a = bb) :
    Calls Tryz.prog 84 #[.pointer (some ⟨sb, 0, none⟩), .agg (insC ⟨31, S, T, D, imm⟩)] w fun e w' => RbOk w w' sb (-1) (-1, s) e := by
  obtain ⟨S, rfl⟩ := Int.eq_ofNat_of_zero_le hS5.1
  obtain ⟨T, rfl⟩ := Int.eq_ofNat_of_zero_le hT5.1
  obtain ⟨D, rfl⟩ := Int.eq_ofNat_of_zero_le hD5.1
  rw [Int.toNat_natCast] at hav hbv
  have HO := Lib.hid (ref_open hS ⟨31, S, T, D, imm⟩)
  have HE := Lib.hid (Cp.ends_same h0)
  have HAV := Lib.hid hav
  have HBV := Lib.hid hbv
  have HSL := Lib.hid hsl
  have HLT := Lib.hid hS.lt
  have hQ := HQ.out
  have hcd : (a == bb) = false := by simpa using hc
  clear hc
  clear hS hav hbv h0 hsl hQ
  unfold insC
  go_enter Tryz.func84, Tryz.ntmps84
  go_upto_region 1 with fail
  obtain ⟨hS1, hI1, hk1⟩ := HO.out
  simp only at hS1 hI1 hk1
  have hxs : ¬ w.heap.size = sb := fun h => by have := HLT.out; omega
  have hsx : ¬ sb = w.heap.size := fun h => by have := HLT.out; omega
  generalize w.alloc _ = w1 at *
  generalize w.heap.size = x at *
  have HS1 := Lib.hid hS1
  have HI1 := Lib.hid hI1
  have HK1 := Lib.hid hk1
  have HW := Lib.hid (fun d => (⟨HS1.out.drewN d, HI1.out.drewN d, HK1.out.drewN d⟩ : StAt (w1.drewN d) sb s ∧ IAt (w1.drewN d) x ⟨31, S, T, D, imm⟩ ∧ Keeps (· = sb) w (w1.drewN d)))
  obtain ⟨i0, i1, i2, i3, i4⟩ := hI1.cells
  simp only at i0 i1 i2 i3 i4
  have rS := hS1.reg S (by omega)
  rw [HAV.out] at rS
  have s36 := hS1.cells.2.2.2.2.1
  rw [HSL.out] at s36
  have hS6 : (S : Int) < 32 := by omega
  have hT6 : (T : Int) < 32 := by omega
  have hD6 : (D : Int) < 32 := by omega
  clear hS1 hI1 hk1
  go_upto_region 3 with fail
  go_quiet (fail)
  obtain ⟨hS1, hI1, hk1⟩ := HW.out nq
  clear i0 i1 i2 i3 i4 rS s36 HS1 HI1 HK1 HO HW
  generalize w1.drewN nq = w2 at *
  have HW := Lib.hid (fun d => (⟨hS1.drewN d, hI1.drewN d, hk1.drewN d⟩ : StAt (w2.drewN d) sb s ∧ IAt (w2.drewN d) x ⟨31, S, T, D, imm⟩ ∧ Keeps (· = sb) w (w2.drewN d)))
  obtain ⟨i0, i1, i2, i3, i4⟩ := hI1.cells
  simp only at i0 i1 i2 i3 i4
  have rT := hS1.reg T (by omega)
  rw [HBV.out] at rT
  clear hS1 hI1 hk1
  go_upto_region 4 with fail
  go_quiet (fail)
  obtain ⟨hS1, hI1, hk1⟩ := HW.out nq
  clear i0 i1 i2 i3 i4 rT HW
  generalize w2.drewN nq = w3 at *
  have HS2 := Lib.hid hS1
  have HK2 := Lib.hid hk1
  have HI2 := Lib.hid hI1
  obtain ⟨i0, i1, i2, i3, i4⟩ := hI1.cells
  simp only at i0 i1 i2 i3 i4
  have s34 := hS1.cells.2.2.1
  clear hS1 hk1 hI1
  have h4 : IntKind.i64.wrap (4 * gn) = 4 * gn := by rw [IntKind.wrap_i64]; omega
  have h6 : IntKind.i64.wrap nr = nr := by rw [IntKind.wrap_i64]; omega
  have h7 : IntKind.i64.wrap a = a := by rw [IntKind.wrap_i64]; omega
  have h5 : wrap64 (4 * gn) = 4 * gn := by unfold wrap64; omega
  have HIM : Hid (∀ w, Calls Tryz.prog 94 #[.agg #[.int .i64 31, .int .i64 (S : Int), .int .i64 (T : Int), .int .i64 (D : Int), .int .u32 imm]] w fun e w' => e = .returned (.int .u32 n) ∧ Keeps (fun _ => False) w w') := Lib.hid (fun w => immOf_k ⟨31, S, T, D, imm⟩ n w ⟨him.1, Int.lt_trans him.2 (by decide)⟩ HNV.out)
  go_upto_region 5 with fail
  go_region_held3 (fun w' => Keeps (fun _ => False) w3 w' ∧ w'.cell? ⟨x, 0, none⟩ = some (.int .i64 31) ∧ w'.cell? ⟨x, 1, none⟩ = some (.int .i64 (S : Int)) ∧ w'.cell? ⟨x, 2, none⟩ = some (.int .i64 (T : Int)) ∧ w'.cell? ⟨x, 3, none⟩ = some (.int .i64 (D : Int)) ∧ w'.cell? ⟨x, 4, none⟩ = some (.int .u32 imm) ∧ w'.cell? ⟨sb, 34, none⟩ = some (.int .u32 s.pc))
    (first | (refine ⟨?_, ?_, ?_, ?_, ?_, ?_, ?_⟩ <;> first | ((repeat (first | exact Keeps.refl _ _ | assumption | apply Keeps.drew | apply Keeps.drewN | apply Keeps.alloc | (refine Keeps.trans ?_ (by assumption) (fun _ _ h => h)))); done) | (refine Keeps.cell' (S := fun _ => False) (w := w3) ?_ (by assumption) (fun f => f); (repeat (first | exact Keeps.refl _ _ | assumption | apply Keeps.drew | apply Keeps.drewN | apply Keeps.alloc | (refine Keeps.trans ?_ (by assumption) (fun _ _ h => h)))); done)) | (trace_state; fail))
    (first
      | (go_at_call 94; with_reducible refine (HIM.out _).mono ?_; rintro e w4 ⟨rfl, hk4⟩)
      | (go_at_call 46; with_reducible refine (HGN.out _).mono ?_; rintro e w' ⟨rfl, rfl⟩)
      | (go_at_call 42; with_reducible refine (HQ.out _).mono ?_; rintro e w' ⟨rfl, rfl⟩)
      | (go_at_call 43; with_reducible refine (HP4.out _).mono ?_; rintro e w' ⟨rfl, rfl⟩)
      | (go_at_call 43; with_reducible refine (HNR.out _).mono ?_; rintro e w' ⟨rfl, rfl⟩))
  rename_i hh
  obtain ⟨hk4, i0', i1', i2', i3', i4', s34'⟩ := hh
  have hS4 := HS2.out.keep hk4 (fun h => h)
  have hI4 := HI2.out.keep hk4 (fun h => h)
  have hK4 := HK2.out.trans hk4 (fun _ _ h => h.elim)
  clear i0 i1 i2 i3 i4 s34 HS2 HI2 HK2 hk4 i0' i1' i2' i3' i4' s34'
  have HW := Lib.hid (fun d => (⟨hS4.drewN d, hI4.drewN d, hK4.drewN d⟩ : StAt (w4.drewN d) sb s ∧ IAt (w4.drewN d) x ⟨31, S, T, D, imm⟩ ∧ Keeps (· = sb) w (w4.drewN d)))
  obtain ⟨i0, i1, i2, i3, i4⟩ := hI4.cells
  simp only at i0 i1 i2 i3 i4
  have s34 := hS4.cells.2.2.1
  clear hS4 hI4 hK4
  go_upto_region 6 with fail
  go_quiet (first | (go_at_call 43; with_reducible exact (quiet_eq (HP4.out _))))
  try rw [HFR.out]
  obtain ⟨hS1, hI1, hk1⟩ := HW.out nq
  clear i0 i1 i2 i3 i4 s34 HW
  generalize w4.drewN nq = w5 at *
  have HS2 := Lib.hid hS1
  have HK2 := Lib.hid hk1
  obtain ⟨i0, i1, i2, i3, i4⟩ := hI1.cells
  simp only at i0 i1 i2 i3 i4
  have s34 := hS1.cells.2.2.1
  have fD := hS1.frozen D
  have rD := hS1.reg D (by omega)
  have f31 := hS1.frozen 31
  have r31 := hS1.reg 31 (by omega)
  clear hS1 hk1 hI1
  go_wp2_with fail
  go_ret2
  exact ⟨rfl, ⟨s, HS2.out, HE.out⟩, HK2.out⟩

set_option maxRecDepth 100000 in
set_option maxHeartbeats 3000000 in
theorem rbr_32y (sb : Nat) (S T D imm : Int) (s : Cp.St) (w : World) (hS : StAt w sb s) (hS5 : 0 ≤ S ∧ S < 32) (hT5 : 0 ≤ T ∧ T < 32) (hD5 : 0 ≤ D ∧ D < 32) (him : 0 ≤ imm ∧ imm < 67108864) (a bb n p4 gn q nr fr v8 : Int)
    (hpc : 0 ≤ s.pc ∧ s.pc < 4294967296) (ha : 0 ≤ a ∧ a < 4294967296) (hb : 0 ≤ bb ∧ bb < 4294967296) (hav : s.R S.toNat = a) (hbv : s.R T.toNat = bb) (h0 : s.R 0 = 0) (hsl : s.slot = false) (hn : 0 ≤ n ∧ n < 4294967296) (hp4 : 0 ≤ p4 ∧ p4 < 4294967296) (hgn : -2147483648 ≤ gn ∧ gn ≤ 2147483647) (hq : 0 ≤ q ∧ q < 4294967296) (hnr : 0 ≤ nr ∧ nr < 4294967296)
    (HNV : Hid (Cp.immS ⟨32, S, T, D, imm⟩ = n)) (HP4 : Hid (∀ w, Calls Tryz.prog 43 #[.int .u32 s.pc, .int .u32 4] w fun e w' => e = .returned (.int .u32 p4) ∧ w = w')) (HGN : Hid (∀ w, Calls Tryz.prog 46 #[.int .u32 n] w fun e w' => e = .returned (.int .i64 gn) ∧ w = w'))
    (HQ : Hid (∀ w, Calls Tryz.prog 42 #[.int .i64 (4 * gn)] w fun e w' => e = .returned (.int .u32 q) ∧ w = w')) (HNR : Hid (∀ w, Calls Tryz.prog 43 #[.int .u32 p4, .int .u32 q] w fun e w' => e = .returned (.int .u32 nr) ∧ w = w'))
    (HFR : Hid (p4 / 268435456 * 268435456 + 4 * imm = fr)) (HV8 : Hid (∀ w, Calls Tryz.prog 43 #[.int .u32 s.pc, .int .u32 8] w fun e w' => e = .returned (.int .u32 v8) ∧ w' = w)) (hc : ¬ a = bb) :
    Calls Tryz.prog 84 #[.pointer (some ⟨sb, 0, none⟩), .agg (insC ⟨32, S, T, D, imm⟩)] w fun e w' => RbOk w w' sb nr (-1, s) e := by
  obtain ⟨S, rfl⟩ := Int.eq_ofNat_of_zero_le hS5.1
  obtain ⟨T, rfl⟩ := Int.eq_ofNat_of_zero_le hT5.1
  obtain ⟨D, rfl⟩ := Int.eq_ofNat_of_zero_le hD5.1
  rw [Int.toNat_natCast] at hav hbv
  have HO := Lib.hid (ref_open hS ⟨32, S, T, D, imm⟩)
  have HE := Lib.hid (Cp.ends_same h0)
  have HAV := Lib.hid hav
  have HBV := Lib.hid hbv
  have HSL := Lib.hid hsl
  have HLT := Lib.hid hS.lt
  have hQ := HQ.out
  have hcd : (a != bb) = true := by simpa using hc
  clear hc
  clear hS hav hbv h0 hsl hQ
  unfold insC
  go_enter Tryz.func84, Tryz.ntmps84
  go_upto_region 1 with fail
  obtain ⟨hS1, hI1, hk1⟩ := HO.out
  simp only at hS1 hI1 hk1
  have hxs : ¬ w.heap.size = sb := fun h => by have := HLT.out; omega
  have hsx : ¬ sb = w.heap.size := fun h => by have := HLT.out; omega
  generalize w.alloc _ = w1 at *
  generalize w.heap.size = x at *
  have HS1 := Lib.hid hS1
  have HI1 := Lib.hid hI1
  have HK1 := Lib.hid hk1
  have HW := Lib.hid (fun d => (⟨HS1.out.drewN d, HI1.out.drewN d, HK1.out.drewN d⟩ : StAt (w1.drewN d) sb s ∧ IAt (w1.drewN d) x ⟨32, S, T, D, imm⟩ ∧ Keeps (· = sb) w (w1.drewN d)))
  obtain ⟨i0, i1, i2, i3, i4⟩ := hI1.cells
  simp only at i0 i1 i2 i3 i4
  have rS := hS1.reg S (by omega)
  rw [HAV.out] at rS
  have s36 := hS1.cells.2.2.2.2.1
  rw [HSL.out] at s36
  have hS6 : (S : Int) < 32 := by omega
  have hT6 : (T : Int) < 32 := by omega
  have hD6 : (D : Int) < 32 := by omega
  clear hS1 hI1 hk1
  go_upto_region 3 with fail
  go_quiet (fail)
  obtain ⟨hS1, hI1, hk1⟩ := HW.out nq
  clear i0 i1 i2 i3 i4 rS s36 HS1 HI1 HK1 HO HW
  generalize w1.drewN nq = w2 at *
  have HW := Lib.hid (fun d => (⟨hS1.drewN d, hI1.drewN d, hk1.drewN d⟩ : StAt (w2.drewN d) sb s ∧ IAt (w2.drewN d) x ⟨32, S, T, D, imm⟩ ∧ Keeps (· = sb) w (w2.drewN d)))
  obtain ⟨i0, i1, i2, i3, i4⟩ := hI1.cells
  simp only at i0 i1 i2 i3 i4
  have rT := hS1.reg T (by omega)
  rw [HBV.out] at rT
  clear hS1 hI1 hk1
  go_upto_region 4 with fail
  go_quiet (fail)
  obtain ⟨hS1, hI1, hk1⟩ := HW.out nq
  clear i0 i1 i2 i3 i4 rT HW
  generalize w2.drewN nq = w3 at *
  have HS2 := Lib.hid hS1
  have HK2 := Lib.hid hk1
  have HI2 := Lib.hid hI1
  obtain ⟨i0, i1, i2, i3, i4⟩ := hI1.cells
  simp only at i0 i1 i2 i3 i4
  have s34 := hS1.cells.2.2.1
  clear hS1 hk1 hI1
  have h4 : IntKind.i64.wrap (4 * gn) = 4 * gn := by rw [IntKind.wrap_i64]; omega
  have h6 : IntKind.i64.wrap nr = nr := by rw [IntKind.wrap_i64]; omega
  have h7 : IntKind.i64.wrap a = a := by rw [IntKind.wrap_i64]; omega
  have h5 : wrap64 (4 * gn) = 4 * gn := by unfold wrap64; omega
  have HIM : Hid (∀ w, Calls Tryz.prog 94 #[.agg #[.int .i64 32, .int .i64 (S : Int), .int .i64 (T : Int), .int .i64 (D : Int), .int .u32 imm]] w fun e w' => e = .returned (.int .u32 n) ∧ Keeps (fun _ => False) w w') := Lib.hid (fun w => immOf_k ⟨32, S, T, D, imm⟩ n w ⟨him.1, Int.lt_trans him.2 (by decide)⟩ HNV.out)
  go_upto_region 5 with fail
  go_region_held3 (fun w' => Keeps (fun _ => False) w3 w' ∧ w'.cell? ⟨x, 0, none⟩ = some (.int .i64 32) ∧ w'.cell? ⟨x, 1, none⟩ = some (.int .i64 (S : Int)) ∧ w'.cell? ⟨x, 2, none⟩ = some (.int .i64 (T : Int)) ∧ w'.cell? ⟨x, 3, none⟩ = some (.int .i64 (D : Int)) ∧ w'.cell? ⟨x, 4, none⟩ = some (.int .u32 imm) ∧ w'.cell? ⟨sb, 34, none⟩ = some (.int .u32 s.pc))
    (first | (refine ⟨?_, ?_, ?_, ?_, ?_, ?_, ?_⟩ <;> first | ((repeat (first | exact Keeps.refl _ _ | assumption | apply Keeps.drew | apply Keeps.drewN | apply Keeps.alloc | (refine Keeps.trans ?_ (by assumption) (fun _ _ h => h)))); done) | (refine Keeps.cell' (S := fun _ => False) (w := w3) ?_ (by assumption) (fun f => f); (repeat (first | exact Keeps.refl _ _ | assumption | apply Keeps.drew | apply Keeps.drewN | apply Keeps.alloc | (refine Keeps.trans ?_ (by assumption) (fun _ _ h => h)))); done)) | (trace_state; fail))
    (first
      | (go_at_call 94; with_reducible refine (HIM.out _).mono ?_; rintro e w4 ⟨rfl, hk4⟩)
      | (go_at_call 46; with_reducible refine (HGN.out _).mono ?_; rintro e w' ⟨rfl, rfl⟩)
      | (go_at_call 42; with_reducible refine (HQ.out _).mono ?_; rintro e w' ⟨rfl, rfl⟩)
      | (go_at_call 43; with_reducible refine (HP4.out _).mono ?_; rintro e w' ⟨rfl, rfl⟩)
      | (go_at_call 43; with_reducible refine (HNR.out _).mono ?_; rintro e w' ⟨rfl, rfl⟩))
  rename_i hh
  obtain ⟨hk4, i0', i1', i2', i3', i4', s34'⟩ := hh
  have hS4 := HS2.out.keep hk4 (fun h => h)
  have hI4 := HI2.out.keep hk4 (fun h => h)
  have hK4 := HK2.out.trans hk4 (fun _ _ h => h.elim)
  clear i0 i1 i2 i3 i4 s34 HS2 HI2 HK2 hk4 i0' i1' i2' i3' i4' s34'
  have HW := Lib.hid (fun d => (⟨hS4.drewN d, hI4.drewN d, hK4.drewN d⟩ : StAt (w4.drewN d) sb s ∧ IAt (w4.drewN d) x ⟨32, S, T, D, imm⟩ ∧ Keeps (· = sb) w (w4.drewN d)))
  obtain ⟨i0, i1, i2, i3, i4⟩ := hI4.cells
  simp only at i0 i1 i2 i3 i4
  have s34 := hS4.cells.2.2.1
  clear hS4 hI4 hK4
  go_upto_region 6 with fail
  go_quiet (first | (go_at_call 43; with_reducible exact (quiet_eq (HP4.out _))))
  try rw [HFR.out]
  obtain ⟨hS1, hI1, hk1⟩ := HW.out nq
  clear i0 i1 i2 i3 i4 s34 HW
  generalize w4.drewN nq = w5 at *
  have HS2 := Lib.hid hS1
  have HK2 := Lib.hid hk1
  obtain ⟨i0, i1, i2, i3, i4⟩ := hI1.cells
  simp only at i0 i1 i2 i3 i4
  have s34 := hS1.cells.2.2.1
  have fD := hS1.frozen D
  have rD := hS1.reg D (by omega)
  have f31 := hS1.frozen 31
  have r31 := hS1.reg 31 (by omega)
  clear hS1 hk1 hI1
  go_wp2_with fail
  go_ret2
  exact ⟨rfl, ⟨s, HS2.out, HE.out⟩, HK2.out⟩

set_option maxRecDepth 100000 in
set_option maxHeartbeats 3000000 in
theorem rbr_32n (sb : Nat) (S T D imm : Int) (s : Cp.St) (w : World) (hS : StAt w sb s) (hS5 : 0 ≤ S ∧ S < 32) (hT5 : 0 ≤ T ∧ T < 32) (hD5 : 0 ≤ D ∧ D < 32) (him : 0 ≤ imm ∧ imm < 67108864) (a bb n p4 gn q nr fr v8 : Int)
    (hpc : 0 ≤ s.pc ∧ s.pc < 4294967296) (ha : 0 ≤ a ∧ a < 4294967296) (hb : 0 ≤ bb ∧ bb < 4294967296) (hav : s.R S.toNat = a) (hbv : s.R T.toNat = bb) (h0 : s.R 0 = 0) (hsl : s.slot = false) (hn : 0 ≤ n ∧ n < 4294967296) (hp4 : 0 ≤ p4 ∧ p4 < 4294967296) (hgn : -2147483648 ≤ gn ∧ gn ≤ 2147483647) (hq : 0 ≤ q ∧ q < 4294967296) (hnr : 0 ≤ nr ∧ nr < 4294967296)
    (HNV : Hid (Cp.immS ⟨32, S, T, D, imm⟩ = n)) (HP4 : Hid (∀ w, Calls Tryz.prog 43 #[.int .u32 s.pc, .int .u32 4] w fun e w' => e = .returned (.int .u32 p4) ∧ w = w')) (HGN : Hid (∀ w, Calls Tryz.prog 46 #[.int .u32 n] w fun e w' => e = .returned (.int .i64 gn) ∧ w = w'))
    (HQ : Hid (∀ w, Calls Tryz.prog 42 #[.int .i64 (4 * gn)] w fun e w' => e = .returned (.int .u32 q) ∧ w = w')) (HNR : Hid (∀ w, Calls Tryz.prog 43 #[.int .u32 p4, .int .u32 q] w fun e w' => e = .returned (.int .u32 nr) ∧ w = w'))
    (HFR : Hid (p4 / 268435456 * 268435456 + 4 * imm = fr)) (HV8 : Hid (∀ w, Calls Tryz.prog 43 #[.int .u32 s.pc, .int .u32 8] w fun e w' => e = .returned (.int .u32 v8) ∧ w' = w)) (hc : a = bb) :
    Calls Tryz.prog 84 #[.pointer (some ⟨sb, 0, none⟩), .agg (insC ⟨32, S, T, D, imm⟩)] w fun e w' => RbOk w w' sb (-1) (-1, s) e := by
  obtain ⟨S, rfl⟩ := Int.eq_ofNat_of_zero_le hS5.1
  obtain ⟨T, rfl⟩ := Int.eq_ofNat_of_zero_le hT5.1
  obtain ⟨D, rfl⟩ := Int.eq_ofNat_of_zero_le hD5.1
  rw [Int.toNat_natCast] at hav hbv
  have HO := Lib.hid (ref_open hS ⟨32, S, T, D, imm⟩)
  have HE := Lib.hid (Cp.ends_same h0)
  have HAV := Lib.hid hav
  have HBV := Lib.hid hbv
  have HSL := Lib.hid hsl
  have HLT := Lib.hid hS.lt
  have hQ := HQ.out
  have hcd : (a != bb) = false := by simpa using hc
  clear hc
  clear hS hav hbv h0 hsl hQ
  unfold insC
  go_enter Tryz.func84, Tryz.ntmps84
  go_upto_region 1 with fail
  obtain ⟨hS1, hI1, hk1⟩ := HO.out
  simp only at hS1 hI1 hk1
  have hxs : ¬ w.heap.size = sb := fun h => by have := HLT.out; omega
  have hsx : ¬ sb = w.heap.size := fun h => by have := HLT.out; omega
  generalize w.alloc _ = w1 at *
  generalize w.heap.size = x at *
  have HS1 := Lib.hid hS1
  have HI1 := Lib.hid hI1
  have HK1 := Lib.hid hk1
  have HW := Lib.hid (fun d => (⟨HS1.out.drewN d, HI1.out.drewN d, HK1.out.drewN d⟩ : StAt (w1.drewN d) sb s ∧ IAt (w1.drewN d) x ⟨32, S, T, D, imm⟩ ∧ Keeps (· = sb) w (w1.drewN d)))
  obtain ⟨i0, i1, i2, i3, i4⟩ := hI1.cells
  simp only at i0 i1 i2 i3 i4
  have rS := hS1.reg S (by omega)
  rw [HAV.out] at rS
  have s36 := hS1.cells.2.2.2.2.1
  rw [HSL.out] at s36
  have hS6 : (S : Int) < 32 := by omega
  have hT6 : (T : Int) < 32 := by omega
  have hD6 : (D : Int) < 32 := by omega
  clear hS1 hI1 hk1
  go_upto_region 3 with fail
  go_quiet (fail)
  obtain ⟨hS1, hI1, hk1⟩ := HW.out nq
  clear i0 i1 i2 i3 i4 rS s36 HS1 HI1 HK1 HO HW
  generalize w1.drewN nq = w2 at *
  have HW := Lib.hid (fun d => (⟨hS1.drewN d, hI1.drewN d, hk1.drewN d⟩ : StAt (w2.drewN d) sb s ∧ IAt (w2.drewN d) x ⟨32, S, T, D, imm⟩ ∧ Keeps (· = sb) w (w2.drewN d)))
  obtain ⟨i0, i1, i2, i3, i4⟩ := hI1.cells
  simp only at i0 i1 i2 i3 i4
  have rT := hS1.reg T (by omega)
  rw [HBV.out] at rT
  clear hS1 hI1 hk1
  go_upto_region 4 with fail
  go_quiet (fail)
  obtain ⟨hS1, hI1, hk1⟩ := HW.out nq
  clear i0 i1 i2 i3 i4 rT HW
  generalize w2.drewN nq = w3 at *
  have HS2 := Lib.hid hS1
  have HK2 := Lib.hid hk1
  have HI2 := Lib.hid hI1
  obtain ⟨i0, i1, i2, i3, i4⟩ := hI1.cells
  simp only at i0 i1 i2 i3 i4
  have s34 := hS1.cells.2.2.1
  clear hS1 hk1 hI1
  have h4 : IntKind.i64.wrap (4 * gn) = 4 * gn := by rw [IntKind.wrap_i64]; omega
  have h6 : IntKind.i64.wrap nr = nr := by rw [IntKind.wrap_i64]; omega
  have h7 : IntKind.i64.wrap a = a := by rw [IntKind.wrap_i64]; omega
  have h5 : wrap64 (4 * gn) = 4 * gn := by unfold wrap64; omega
  have HIM : Hid (∀ w, Calls Tryz.prog 94 #[.agg #[.int .i64 32, .int .i64 (S : Int), .int .i64 (T : Int), .int .i64 (D : Int), .int .u32 imm]] w fun e w' => e = .returned (.int .u32 n) ∧ Keeps (fun _ => False) w w') := Lib.hid (fun w => immOf_k ⟨32, S, T, D, imm⟩ n w ⟨him.1, Int.lt_trans him.2 (by decide)⟩ HNV.out)
  go_upto_region 5 with fail
  go_region_held3 (fun w' => Keeps (fun _ => False) w3 w' ∧ w'.cell? ⟨x, 0, none⟩ = some (.int .i64 32) ∧ w'.cell? ⟨x, 1, none⟩ = some (.int .i64 (S : Int)) ∧ w'.cell? ⟨x, 2, none⟩ = some (.int .i64 (T : Int)) ∧ w'.cell? ⟨x, 3, none⟩ = some (.int .i64 (D : Int)) ∧ w'.cell? ⟨x, 4, none⟩ = some (.int .u32 imm) ∧ w'.cell? ⟨sb, 34, none⟩ = some (.int .u32 s.pc))
    (first | (refine ⟨?_, ?_, ?_, ?_, ?_, ?_, ?_⟩ <;> first | ((repeat (first | exact Keeps.refl _ _ | assumption | apply Keeps.drew | apply Keeps.drewN | apply Keeps.alloc | (refine Keeps.trans ?_ (by assumption) (fun _ _ h => h)))); done) | (refine Keeps.cell' (S := fun _ => False) (w := w3) ?_ (by assumption) (fun f => f); (repeat (first | exact Keeps.refl _ _ | assumption | apply Keeps.drew | apply Keeps.drewN | apply Keeps.alloc | (refine Keeps.trans ?_ (by assumption) (fun _ _ h => h)))); done)) | (trace_state; fail))
    (first
      | (go_at_call 94; with_reducible refine (HIM.out _).mono ?_; rintro e w4 ⟨rfl, hk4⟩)
      | (go_at_call 46; with_reducible refine (HGN.out _).mono ?_; rintro e w' ⟨rfl, rfl⟩)
      | (go_at_call 42; with_reducible refine (HQ.out _).mono ?_; rintro e w' ⟨rfl, rfl⟩)
      | (go_at_call 43; with_reducible refine (HP4.out _).mono ?_; rintro e w' ⟨rfl, rfl⟩)
      | (go_at_call 43; with_reducible refine (HNR.out _).mono ?_; rintro e w' ⟨rfl, rfl⟩))
  rename_i hh
  obtain ⟨hk4, i0', i1', i2', i3', i4', s34'⟩ := hh
  have hS4 := HS2.out.keep hk4 (fun h => h)
  have hI4 := HI2.out.keep hk4 (fun h => h)
  have hK4 := HK2.out.trans hk4 (fun _ _ h => h.elim)
  clear i0 i1 i2 i3 i4 s34 HS2 HI2 HK2 hk4 i0' i1' i2' i3' i4' s34'
  have HW := Lib.hid (fun d => (⟨hS4.drewN d, hI4.drewN d, hK4.drewN d⟩ : StAt (w4.drewN d) sb s ∧ IAt (w4.drewN d) x ⟨32, S, T, D, imm⟩ ∧ Keeps (· = sb) w (w4.drewN d)))
  obtain ⟨i0, i1, i2, i3, i4⟩ := hI4.cells
  simp only at i0 i1 i2 i3 i4
  have s34 := hS4.cells.2.2.1
  clear hS4 hI4 hK4
  go_upto_region 6 with fail
  go_quiet (first | (go_at_call 43; with_reducible exact (quiet_eq (HP4.out _))))
  try rw [HFR.out]
  obtain ⟨hS1, hI1, hk1⟩ := HW.out nq
  clear i0 i1 i2 i3 i4 s34 HW
  generalize w4.drewN nq = w5 at *
  have HS2 := Lib.hid hS1
  have HK2 := Lib.hid hk1
  obtain ⟨i0, i1, i2, i3, i4⟩ := hI1.cells
  simp only at i0 i1 i2 i3 i4
  have s34 := hS1.cells.2.2.1
  have fD := hS1.frozen D
  have rD := hS1.reg D (by omega)
  have f31 := hS1.frozen 31
  have r31 := hS1.reg 31 (by omega)
  clear hS1 hk1 hI1
  go_wp2_with fail
  go_ret2
  exact ⟨rfl, ⟨s, HS2.out, HE.out⟩, HK2.out⟩

set_option maxRecDepth 100000 in
set_option maxHeartbeats 3000000 in
theorem rbr_33y (sb : Nat) (S T D imm : Int) (s : Cp.St) (w : World) (hS : StAt w sb s) (hS5 : 0 ≤ S ∧ S < 32) (hT5 : 0 ≤ T ∧ T < 32) (hD5 : 0 ≤ D ∧ D < 32) (him : 0 ≤ imm ∧ imm < 67108864) (a bb n p4 gn q nr fr v8 : Int)
    (hpc : 0 ≤ s.pc ∧ s.pc < 4294967296) (ha : 0 ≤ a ∧ a < 4294967296) (hb : 0 ≤ bb ∧ bb < 4294967296) (hav : s.R S.toNat = a) (hbv : s.R T.toNat = bb) (h0 : s.R 0 = 0) (hsl : s.slot = false) (hn : 0 ≤ n ∧ n < 4294967296) (hp4 : 0 ≤ p4 ∧ p4 < 4294967296) (hgn : -2147483648 ≤ gn ∧ gn ≤ 2147483647) (hq : 0 ≤ q ∧ q < 4294967296) (hnr : 0 ≤ nr ∧ nr < 4294967296)
    (HNV : Hid (Cp.immS ⟨33, S, T, D, imm⟩ = n)) (HP4 : Hid (∀ w, Calls Tryz.prog 43 #[.int .u32 s.pc, .int .u32 4] w fun e w' => e = .returned (.int .u32 p4) ∧ w = w')) (HGN : Hid (∀ w, Calls Tryz.prog 46 #[.int .u32 n] w fun e w' => e = .returned (.int .i64 gn) ∧ w = w'))
    (HQ : Hid (∀ w, Calls Tryz.prog 42 #[.int .i64 (4 * gn)] w fun e w' => e = .returned (.int .u32 q) ∧ w = w')) (HNR : Hid (∀ w, Calls Tryz.prog 43 #[.int .u32 p4, .int .u32 q] w fun e w' => e = .returned (.int .u32 nr) ∧ w = w'))
    (HFR : Hid (p4 / 268435456 * 268435456 + 4 * imm = fr)) (HV8 : Hid (∀ w, Calls Tryz.prog 43 #[.int .u32 s.pc, .int .u32 8] w fun e w' => e = .returned (.int .u32 v8) ∧ w' = w)) (hc : Wd.sg a ≤ 0) :
    Calls Tryz.prog 84 #[.pointer (some ⟨sb, 0, none⟩), .agg (insC ⟨33, S, T, D, imm⟩)] w fun e w' => RbOk w w' sb nr (-1, s) e := by
  obtain ⟨S, rfl⟩ := Int.eq_ofNat_of_zero_le hS5.1
  obtain ⟨T, rfl⟩ := Int.eq_ofNat_of_zero_le hT5.1
  obtain ⟨D, rfl⟩ := Int.eq_ofNat_of_zero_le hD5.1
  rw [Int.toNat_natCast] at hav hbv
  have HO := Lib.hid (ref_open hS ⟨33, S, T, D, imm⟩)
  have HE := Lib.hid (Cp.ends_same h0)
  have HAV := Lib.hid hav
  have HBV := Lib.hid hbv
  have HSL := Lib.hid hsl
  have HLT := Lib.hid hS.lt
  have hQ := HQ.out
  have HGA := Lib.hid (fun w => signed_any a w ha)
  have hga := Wd.sg_bd a ha.1 ha.2
  generalize Wd.sg a = ga at *
  have hcd : decide (ga ≤ 0) = true := by simpa using hc
  clear hc
  clear hS hav hbv h0 hsl hQ
  unfold insC
  go_enter Tryz.func84, Tryz.ntmps84
  go_upto_region 1 with fail
  obtain ⟨hS1, hI1, hk1⟩ := HO.out
  simp only at hS1 hI1 hk1
  have hxs : ¬ w.heap.size = sb := fun h => by have := HLT.out; omega
  have hsx : ¬ sb = w.heap.size := fun h => by have := HLT.out; omega
  generalize w.alloc _ = w1 at *
  generalize w.heap.size = x at *
  have HS1 := Lib.hid hS1
  have HI1 := Lib.hid hI1
  have HK1 := Lib.hid hk1
  have HW := Lib.hid (fun d => (⟨HS1.out.drewN d, HI1.out.drewN d, HK1.out.drewN d⟩ : StAt (w1.drewN d) sb s ∧ IAt (w1.drewN d) x ⟨33, S, T, D, imm⟩ ∧ Keeps (· = sb) w (w1.drewN d)))
  obtain ⟨i0, i1, i2, i3, i4⟩ := hI1.cells
  simp only at i0 i1 i2 i3 i4
  have rS := hS1.reg S (by omega)
  rw [HAV.out] at rS
  have s36 := hS1.cells.2.2.2.2.1
  rw [HSL.out] at s36
  have hS6 : (S : Int) < 32 := by omega
  have hT6 : (T : Int) < 32 := by omega
  have hD6 : (D : Int) < 32 := by omega
  clear hS1 hI1 hk1
  go_upto_region 3 with fail
  go_quiet (fail)
  obtain ⟨hS1, hI1, hk1⟩ := HW.out nq
  clear i0 i1 i2 i3 i4 rS s36 HS1 HI1 HK1 HO HW
  generalize w1.drewN nq = w2 at *
  have HW := Lib.hid (fun d => (⟨hS1.drewN d, hI1.drewN d, hk1.drewN d⟩ : StAt (w2.drewN d) sb s ∧ IAt (w2.drewN d) x ⟨33, S, T, D, imm⟩ ∧ Keeps (· = sb) w (w2.drewN d)))
  obtain ⟨i0, i1, i2, i3, i4⟩ := hI1.cells
  simp only at i0 i1 i2 i3 i4
  have rT := hS1.reg T (by omega)
  rw [HBV.out] at rT
  clear hS1 hI1 hk1
  go_upto_region 4 with fail
  go_quiet (fail)
  obtain ⟨hS1, hI1, hk1⟩ := HW.out nq
  clear i0 i1 i2 i3 i4 rT HW
  generalize w2.drewN nq = w3 at *
  have HS2 := Lib.hid hS1
  have HK2 := Lib.hid hk1
  have HI2 := Lib.hid hI1
  obtain ⟨i0, i1, i2, i3, i4⟩ := hI1.cells
  simp only at i0 i1 i2 i3 i4
  have s34 := hS1.cells.2.2.1
  clear hS1 hk1 hI1
  have h4 : IntKind.i64.wrap (4 * gn) = 4 * gn := by rw [IntKind.wrap_i64]; omega
  have h6 : IntKind.i64.wrap nr = nr := by rw [IntKind.wrap_i64]; omega
  have h7 : IntKind.i64.wrap a = a := by rw [IntKind.wrap_i64]; omega
  have h5 : wrap64 (4 * gn) = 4 * gn := by unfold wrap64; omega
  have HIM : Hid (∀ w, Calls Tryz.prog 94 #[.agg #[.int .i64 33, .int .i64 (S : Int), .int .i64 (T : Int), .int .i64 (D : Int), .int .u32 imm]] w fun e w' => e = .returned (.int .u32 n) ∧ Keeps (fun _ => False) w w') := Lib.hid (fun w => immOf_k ⟨33, S, T, D, imm⟩ n w ⟨him.1, Int.lt_trans him.2 (by decide)⟩ HNV.out)
  go_upto_region 5 with fail
  go_region_held3 (fun w' => Keeps (fun _ => False) w3 w' ∧ w'.cell? ⟨x, 0, none⟩ = some (.int .i64 33) ∧ w'.cell? ⟨x, 1, none⟩ = some (.int .i64 (S : Int)) ∧ w'.cell? ⟨x, 2, none⟩ = some (.int .i64 (T : Int)) ∧ w'.cell? ⟨x, 3, none⟩ = some (.int .i64 (D : Int)) ∧ w'.cell? ⟨x, 4, none⟩ = some (.int .u32 imm) ∧ w'.cell? ⟨sb, 34, none⟩ = some (.int .u32 s.pc))
    (first | (refine ⟨?_, ?_, ?_, ?_, ?_, ?_, ?_⟩ <;> first | ((repeat (first | exact Keeps.refl _ _ | assumption | apply Keeps.drew | apply Keeps.drewN | apply Keeps.alloc | (refine Keeps.trans ?_ (by assumption) (fun _ _ h => h)))); done) | (refine Keeps.cell' (S := fun _ => False) (w := w3) ?_ (by assumption) (fun f => f); (repeat (first | exact Keeps.refl _ _ | assumption | apply Keeps.drew | apply Keeps.drewN | apply Keeps.alloc | (refine Keeps.trans ?_ (by assumption) (fun _ _ h => h)))); done)) | (trace_state; fail))
    (first
      | (go_at_call 94; with_reducible refine (HIM.out _).mono ?_; rintro e w4 ⟨rfl, hk4⟩)
      | (go_at_call 46; with_reducible refine (HGN.out _).mono ?_; rintro e w' ⟨rfl, rfl⟩)
      | (go_at_call 42; with_reducible refine (HQ.out _).mono ?_; rintro e w' ⟨rfl, rfl⟩)
      | (go_at_call 43; with_reducible refine (HP4.out _).mono ?_; rintro e w' ⟨rfl, rfl⟩)
      | (go_at_call 43; with_reducible refine (HNR.out _).mono ?_; rintro e w' ⟨rfl, rfl⟩))
  rename_i hh
  obtain ⟨hk4, i0', i1', i2', i3', i4', s34'⟩ := hh
  have hS4 := HS2.out.keep hk4 (fun h => h)
  have hI4 := HI2.out.keep hk4 (fun h => h)
  have hK4 := HK2.out.trans hk4 (fun _ _ h => h.elim)
  clear i0 i1 i2 i3 i4 s34 HS2 HI2 HK2 hk4 i0' i1' i2' i3' i4' s34'
  have HW := Lib.hid (fun d => (⟨hS4.drewN d, hI4.drewN d, hK4.drewN d⟩ : StAt (w4.drewN d) sb s ∧ IAt (w4.drewN d) x ⟨33, S, T, D, imm⟩ ∧ Keeps (· = sb) w (w4.drewN d)))
  obtain ⟨i0, i1, i2, i3, i4⟩ := hI4.cells
  simp only at i0 i1 i2 i3 i4
  have s34 := hS4.cells.2.2.1
  clear hS4 hI4 hK4
  go_upto_region 6 with fail
  go_quiet (first | (go_at_call 43; with_reducible exact (quiet_eq (HP4.out _))))
  try rw [HFR.out]
  obtain ⟨hS1, hI1, hk1⟩ := HW.out nq
  clear i0 i1 i2 i3 i4 s34 HW
  generalize w4.drewN nq = w5 at *
  have HS2 := Lib.hid hS1
  have HK2 := Lib.hid hk1
  obtain ⟨i0, i1, i2, i3, i4⟩ := hI1.cells
  simp only at i0 i1 i2 i3 i4
  have s34 := hS1.cells.2.2.1
  have fD := hS1.frozen D
  have rD := hS1.reg D (by omega)
  have f31 := hS1.frozen 31
  have r31 := hS1.reg 31 (by omega)
  clear hS1 hk1 hI1
  go_wp2_with fail
  refine (HGA.out _).mono ?_
  rintro e w' ⟨rfl, rfl⟩
  go_wp2_with fail
  go_ret2
  exact ⟨rfl, ⟨s, HS2.out, HE.out⟩, HK2.out⟩

set_option maxRecDepth 100000 in
set_option maxHeartbeats 3000000 in
theorem rbr_33n (sb : Nat) (S T D imm : Int) (s : Cp.St) (w : World) (hS : StAt w sb s) (hS5 : 0 ≤ S ∧ S < 32) (hT5 : 0 ≤ T ∧ T < 32) (hD5 : 0 ≤ D ∧ D < 32) (him : 0 ≤ imm ∧ imm < 67108864) (a bb n p4 gn q nr fr v8 : Int)
    (hpc : 0 ≤ s.pc ∧ s.pc < 4294967296) (ha : 0 ≤ a ∧ a < 4294967296) (hb : 0 ≤ bb ∧ bb < 4294967296) (hav : s.R S.toNat = a) (hbv : s.R T.toNat = bb) (h0 : s.R 0 = 0) (hsl : s.slot = false) (hn : 0 ≤ n ∧ n < 4294967296) (hp4 : 0 ≤ p4 ∧ p4 < 4294967296) (hgn : -2147483648 ≤ gn ∧ gn ≤ 2147483647) (hq : 0 ≤ q ∧ q < 4294967296) (hnr : 0 ≤ nr ∧ nr < 4294967296)
    (HNV : Hid (Cp.immS ⟨33, S, T, D, imm⟩ = n)) (HP4 : Hid (∀ w, Calls Tryz.prog 43 #[.int .u32 s.pc, .int .u32 4] w fun e w' => e = .returned (.int .u32 p4) ∧ w = w')) (HGN : Hid (∀ w, Calls Tryz.prog 46 #[.int .u32 n] w fun e w' => e = .returned (.int .i64 gn) ∧ w = w'))
    (HQ : Hid (∀ w, Calls Tryz.prog 42 #[.int .i64 (4 * gn)] w fun e w' => e = .returned (.int .u32 q) ∧ w = w')) (HNR : Hid (∀ w, Calls Tryz.prog 43 #[.int .u32 p4, .int .u32 q] w fun e w' => e = .returned (.int .u32 nr) ∧ w = w'))
    (HFR : Hid (p4 / 268435456 * 268435456 + 4 * imm = fr)) (HV8 : Hid (∀ w, Calls Tryz.prog 43 #[.int .u32 s.pc, .int .u32 8] w fun e w' => e = .returned (.int .u32 v8) ∧ w' = w)) (hc : ¬ Wd.sg a ≤ 0) :
    Calls Tryz.prog 84 #[.pointer (some ⟨sb, 0, none⟩), .agg (insC ⟨33, S, T, D, imm⟩)] w fun e w' => RbOk w w' sb (-1) (-1, s) e := by
  obtain ⟨S, rfl⟩ := Int.eq_ofNat_of_zero_le hS5.1
  obtain ⟨T, rfl⟩ := Int.eq_ofNat_of_zero_le hT5.1
  obtain ⟨D, rfl⟩ := Int.eq_ofNat_of_zero_le hD5.1
  rw [Int.toNat_natCast] at hav hbv
  have HO := Lib.hid (ref_open hS ⟨33, S, T, D, imm⟩)
  have HE := Lib.hid (Cp.ends_same h0)
  have HAV := Lib.hid hav
  have HBV := Lib.hid hbv
  have HSL := Lib.hid hsl
  have HLT := Lib.hid hS.lt
  have hQ := HQ.out
  have HGA := Lib.hid (fun w => signed_any a w ha)
  have hga := Wd.sg_bd a ha.1 ha.2
  generalize Wd.sg a = ga at *
  have hcd : decide (ga ≤ 0) = false := decide_eq_false hc
  clear hc
  clear hS hav hbv h0 hsl hQ
  unfold insC
  go_enter Tryz.func84, Tryz.ntmps84
  go_upto_region 1 with fail
  obtain ⟨hS1, hI1, hk1⟩ := HO.out
  simp only at hS1 hI1 hk1
  have hxs : ¬ w.heap.size = sb := fun h => by have := HLT.out; omega
  have hsx : ¬ sb = w.heap.size := fun h => by have := HLT.out; omega
  generalize w.alloc _ = w1 at *
  generalize w.heap.size = x at *
  have HS1 := Lib.hid hS1
  have HI1 := Lib.hid hI1
  have HK1 := Lib.hid hk1
  have HW := Lib.hid (fun d => (⟨HS1.out.drewN d, HI1.out.drewN d, HK1.out.drewN d⟩ : StAt (w1.drewN d) sb s ∧ IAt (w1.drewN d) x ⟨33, S, T, D, imm⟩ ∧ Keeps (· = sb) w (w1.drewN d)))
  obtain ⟨i0, i1, i2, i3, i4⟩ := hI1.cells
  simp only at i0 i1 i2 i3 i4
  have rS := hS1.reg S (by omega)
  rw [HAV.out] at rS
  have s36 := hS1.cells.2.2.2.2.1
  rw [HSL.out] at s36
  have hS6 : (S : Int) < 32 := by omega
  have hT6 : (T : Int) < 32 := by omega
  have hD6 : (D : Int) < 32 := by omega
  clear hS1 hI1 hk1
  go_upto_region 3 with fail
  go_quiet (fail)
  obtain ⟨hS1, hI1, hk1⟩ := HW.out nq
  clear i0 i1 i2 i3 i4 rS s36 HS1 HI1 HK1 HO HW
  generalize w1.drewN nq = w2 at *
  have HW := Lib.hid (fun d => (⟨hS1.drewN d, hI1.drewN d, hk1.drewN d⟩ : StAt (w2.drewN d) sb s ∧ IAt (w2.drewN d) x ⟨33, S, T, D, imm⟩ ∧ Keeps (· = sb) w (w2.drewN d)))
  obtain ⟨i0, i1, i2, i3, i4⟩ := hI1.cells
  simp only at i0 i1 i2 i3 i4
  have rT := hS1.reg T (by omega)
  rw [HBV.out] at rT
  clear hS1 hI1 hk1
  go_upto_region 4 with fail
  go_quiet (fail)
  obtain ⟨hS1, hI1, hk1⟩ := HW.out nq
  clear i0 i1 i2 i3 i4 rT HW
  generalize w2.drewN nq = w3 at *
  have HS2 := Lib.hid hS1
  have HK2 := Lib.hid hk1
  have HI2 := Lib.hid hI1
  obtain ⟨i0, i1, i2, i3, i4⟩ := hI1.cells
  simp only at i0 i1 i2 i3 i4
  have s34 := hS1.cells.2.2.1
  clear hS1 hk1 hI1
  have h4 : IntKind.i64.wrap (4 * gn) = 4 * gn := by rw [IntKind.wrap_i64]; omega
  have h6 : IntKind.i64.wrap nr = nr := by rw [IntKind.wrap_i64]; omega
  have h7 : IntKind.i64.wrap a = a := by rw [IntKind.wrap_i64]; omega
  have h5 : wrap64 (4 * gn) = 4 * gn := by unfold wrap64; omega
  have HIM : Hid (∀ w, Calls Tryz.prog 94 #[.agg #[.int .i64 33, .int .i64 (S : Int), .int .i64 (T : Int), .int .i64 (D : Int), .int .u32 imm]] w fun e w' => e = .returned (.int .u32 n) ∧ Keeps (fun _ => False) w w') := Lib.hid (fun w => immOf_k ⟨33, S, T, D, imm⟩ n w ⟨him.1, Int.lt_trans him.2 (by decide)⟩ HNV.out)
  go_upto_region 5 with fail
  go_region_held3 (fun w' => Keeps (fun _ => False) w3 w' ∧ w'.cell? ⟨x, 0, none⟩ = some (.int .i64 33) ∧ w'.cell? ⟨x, 1, none⟩ = some (.int .i64 (S : Int)) ∧ w'.cell? ⟨x, 2, none⟩ = some (.int .i64 (T : Int)) ∧ w'.cell? ⟨x, 3, none⟩ = some (.int .i64 (D : Int)) ∧ w'.cell? ⟨x, 4, none⟩ = some (.int .u32 imm) ∧ w'.cell? ⟨sb, 34, none⟩ = some (.int .u32 s.pc))
    (first | (refine ⟨?_, ?_, ?_, ?_, ?_, ?_, ?_⟩ <;> first | ((repeat (first | exact Keeps.refl _ _ | assumption | apply Keeps.drew | apply Keeps.drewN | apply Keeps.alloc | (refine Keeps.trans ?_ (by assumption) (fun _ _ h => h)))); done) | (refine Keeps.cell' (S := fun _ => False) (w := w3) ?_ (by assumption) (fun f => f); (repeat (first | exact Keeps.refl _ _ | assumption | apply Keeps.drew | apply Keeps.drewN | apply Keeps.alloc | (refine Keeps.trans ?_ (by assumption) (fun _ _ h => h)))); done)) | (trace_state; fail))
    (first
      | (go_at_call 94; with_reducible refine (HIM.out _).mono ?_; rintro e w4 ⟨rfl, hk4⟩)
      | (go_at_call 46; with_reducible refine (HGN.out _).mono ?_; rintro e w' ⟨rfl, rfl⟩)
      | (go_at_call 42; with_reducible refine (HQ.out _).mono ?_; rintro e w' ⟨rfl, rfl⟩)
      | (go_at_call 43; with_reducible refine (HP4.out _).mono ?_; rintro e w' ⟨rfl, rfl⟩)
      | (go_at_call 43; with_reducible refine (HNR.out _).mono ?_; rintro e w' ⟨rfl, rfl⟩))
  rename_i hh
  obtain ⟨hk4, i0', i1', i2', i3', i4', s34'⟩ := hh
  have hS4 := HS2.out.keep hk4 (fun h => h)
  have hI4 := HI2.out.keep hk4 (fun h => h)
  have hK4 := HK2.out.trans hk4 (fun _ _ h => h.elim)
  clear i0 i1 i2 i3 i4 s34 HS2 HI2 HK2 hk4 i0' i1' i2' i3' i4' s34'
  have HW := Lib.hid (fun d => (⟨hS4.drewN d, hI4.drewN d, hK4.drewN d⟩ : StAt (w4.drewN d) sb s ∧ IAt (w4.drewN d) x ⟨33, S, T, D, imm⟩ ∧ Keeps (· = sb) w (w4.drewN d)))
  obtain ⟨i0, i1, i2, i3, i4⟩ := hI4.cells
  simp only at i0 i1 i2 i3 i4
  have s34 := hS4.cells.2.2.1
  clear hS4 hI4 hK4
  go_upto_region 6 with fail
  go_quiet (first | (go_at_call 43; with_reducible exact (quiet_eq (HP4.out _))))
  try rw [HFR.out]
  obtain ⟨hS1, hI1, hk1⟩ := HW.out nq
  clear i0 i1 i2 i3 i4 s34 HW
  generalize w4.drewN nq = w5 at *
  have HS2 := Lib.hid hS1
  have HK2 := Lib.hid hk1
  obtain ⟨i0, i1, i2, i3, i4⟩ := hI1.cells
  simp only at i0 i1 i2 i3 i4
  have s34 := hS1.cells.2.2.1
  have fD := hS1.frozen D
  have rD := hS1.reg D (by omega)
  have f31 := hS1.frozen 31
  have r31 := hS1.reg 31 (by omega)
  clear hS1 hk1 hI1
  go_wp2_with fail
  refine (HGA.out _).mono ?_
  rintro e w' ⟨rfl, rfl⟩
  go_wp2_with fail
  go_ret2
  exact ⟨rfl, ⟨s, HS2.out, HE.out⟩, HK2.out⟩

set_option maxRecDepth 100000 in
set_option maxHeartbeats 3000000 in
theorem rbr_34y (sb : Nat) (S T D imm : Int) (s : Cp.St) (w : World) (hS : StAt w sb s) (hS5 : 0 ≤ S ∧ S < 32) (hT5 : 0 ≤ T ∧ T < 32) (hD5 : 0 ≤ D ∧ D < 32) (him : 0 ≤ imm ∧ imm < 67108864) (a bb n p4 gn q nr fr v8 : Int)
    (hpc : 0 ≤ s.pc ∧ s.pc < 4294967296) (ha : 0 ≤ a ∧ a < 4294967296) (hb : 0 ≤ bb ∧ bb < 4294967296) (hav : s.R S.toNat = a) (hbv : s.R T.toNat = bb) (h0 : s.R 0 = 0) (hsl : s.slot = false) (hn : 0 ≤ n ∧ n < 4294967296) (hp4 : 0 ≤ p4 ∧ p4 < 4294967296) (hgn : -2147483648 ≤ gn ∧ gn ≤ 2147483647) (hq : 0 ≤ q ∧ q < 4294967296) (hnr : 0 ≤ nr ∧ nr < 4294967296)
    (HNV : Hid (Cp.immS ⟨34, S, T, D, imm⟩ = n)) (HP4 : Hid (∀ w, Calls Tryz.prog 43 #[.int .u32 s.pc, .int .u32 4] w fun e w' => e = .returned (.int .u32 p4) ∧ w = w')) (HGN : Hid (∀ w, Calls Tryz.prog 46 #[.int .u32 n] w fun e w' => e = .returned (.int .i64 gn) ∧ w = w'))
    (HQ : Hid (∀ w, Calls Tryz.prog 42 #[.int .i64 (4 * gn)] w fun e w' => e = .returned (.int .u32 q) ∧ w = w')) (HNR : Hid (∀ w, Calls Tryz.prog 43 #[.int .u32 p4, .int .u32 q] w fun e w' => e = .returned (.int .u32 nr) ∧ w = w'))
    (HFR : Hid (p4 / 268435456 * 268435456 + 4 * imm = fr)) (HV8 : Hid (∀ w, Calls Tryz.prog 43 #[.int .u32 s.pc, .int .u32 8] w fun e w' => e = .returned (.int .u32 v8) ∧ w' = w)) (hc : ¬ Wd.sg a ≤ 0) :
    Calls Tryz.prog 84 #[.pointer (some ⟨sb, 0, none⟩), .agg (insC ⟨34, S, T, D, imm⟩)] w fun e w' => RbOk w w' sb nr (-1, s) e := by
  obtain ⟨S, rfl⟩ := Int.eq_ofNat_of_zero_le hS5.1
  obtain ⟨T, rfl⟩ := Int.eq_ofNat_of_zero_le hT5.1
  obtain ⟨D, rfl⟩ := Int.eq_ofNat_of_zero_le hD5.1
  rw [Int.toNat_natCast] at hav hbv
  have HO := Lib.hid (ref_open hS ⟨34, S, T, D, imm⟩)
  have HE := Lib.hid (Cp.ends_same h0)
  have HAV := Lib.hid hav
  have HBV := Lib.hid hbv
  have HSL := Lib.hid hsl
  have HLT := Lib.hid hS.lt
  have hQ := HQ.out
  have HGA := Lib.hid (fun w => signed_any a w ha)
  have hga := Wd.sg_bd a ha.1 ha.2
  generalize Wd.sg a = ga at *
  have hcd : decide (0 < ga) = true := decide_eq_true (by omega)
  clear hc
  clear hS hav hbv h0 hsl hQ
  unfold insC
  go_enter Tryz.func84, Tryz.ntmps84
  go_upto_region 1 with fail
  obtain ⟨hS1, hI1, hk1⟩ := HO.out
  simp only at hS1 hI1 hk1
  have hxs : ¬ w.heap.size = sb := fun h => by have := HLT.out; omega
  have hsx : ¬ sb = w.heap.size := fun h => by have := HLT.out; omega
  generalize w.alloc _ = w1 at *
  generalize w.heap.size = x at *
  have HS1 := Lib.hid hS1
  have HI1 := Lib.hid hI1
  have HK1 := Lib.hid hk1
  have HW := Lib.hid (fun d => (⟨HS1.out.drewN d, HI1.out.drewN d, HK1.out.drewN d⟩ : StAt (w1.drewN d) sb s ∧ IAt (w1.drewN d) x ⟨34, S, T, D, imm⟩ ∧ Keeps (· = sb) w (w1.drewN d)))
  obtain ⟨i0, i1, i2, i3, i4⟩ := hI1.cells
  simp only at i0 i1 i2 i3 i4
  have rS := hS1.reg S (by omega)
  rw [HAV.out] at rS
  have s36 := hS1.cells.2.2.2.2.1
  rw [HSL.out] at s36
  have hS6 : (S : Int) < 32 := by omega
  have hT6 : (T : Int) < 32 := by omega
  have hD6 : (D : Int) < 32 := by omega
  clear hS1 hI1 hk1
  go_upto_region 3 with fail
  go_quiet (fail)
  obtain ⟨hS1, hI1, hk1⟩ := HW.out nq
  clear i0 i1 i2 i3 i4 rS s36 HS1 HI1 HK1 HO HW
  generalize w1.drewN nq = w2 at *
  have HW := Lib.hid (fun d => (⟨hS1.drewN d, hI1.drewN d, hk1.drewN d⟩ : StAt (w2.drewN d) sb s ∧ IAt (w2.drewN d) x ⟨34, S, T, D, imm⟩ ∧ Keeps (· = sb) w (w2.drewN d)))
  obtain ⟨i0, i1, i2, i3, i4⟩ := hI1.cells
  simp only at i0 i1 i2 i3 i4
  have rT := hS1.reg T (by omega)
  rw [HBV.out] at rT
  clear hS1 hI1 hk1
  go_upto_region 4 with fail
  go_quiet (fail)
  obtain ⟨hS1, hI1, hk1⟩ := HW.out nq
  clear i0 i1 i2 i3 i4 rT HW
  generalize w2.drewN nq = w3 at *
  have HS2 := Lib.hid hS1
  have HK2 := Lib.hid hk1
  have HI2 := Lib.hid hI1
  obtain ⟨i0, i1, i2, i3, i4⟩ := hI1.cells
  simp only at i0 i1 i2 i3 i4
  have s34 := hS1.cells.2.2.1
  clear hS1 hk1 hI1
  have h4 : IntKind.i64.wrap (4 * gn) = 4 * gn := by rw [IntKind.wrap_i64]; omega
  have h6 : IntKind.i64.wrap nr = nr := by rw [IntKind.wrap_i64]; omega
  have h7 : IntKind.i64.wrap a = a := by rw [IntKind.wrap_i64]; omega
  have h5 : wrap64 (4 * gn) = 4 * gn := by unfold wrap64; omega
  have HIM : Hid (∀ w, Calls Tryz.prog 94 #[.agg #[.int .i64 34, .int .i64 (S : Int), .int .i64 (T : Int), .int .i64 (D : Int), .int .u32 imm]] w fun e w' => e = .returned (.int .u32 n) ∧ Keeps (fun _ => False) w w') := Lib.hid (fun w => immOf_k ⟨34, S, T, D, imm⟩ n w ⟨him.1, Int.lt_trans him.2 (by decide)⟩ HNV.out)
  go_upto_region 5 with fail
  go_region_held3 (fun w' => Keeps (fun _ => False) w3 w' ∧ w'.cell? ⟨x, 0, none⟩ = some (.int .i64 34) ∧ w'.cell? ⟨x, 1, none⟩ = some (.int .i64 (S : Int)) ∧ w'.cell? ⟨x, 2, none⟩ = some (.int .i64 (T : Int)) ∧ w'.cell? ⟨x, 3, none⟩ = some (.int .i64 (D : Int)) ∧ w'.cell? ⟨x, 4, none⟩ = some (.int .u32 imm) ∧ w'.cell? ⟨sb, 34, none⟩ = some (.int .u32 s.pc))
    (first | (refine ⟨?_, ?_, ?_, ?_, ?_, ?_, ?_⟩ <;> first | ((repeat (first | exact Keeps.refl _ _ | assumption | apply Keeps.drew | apply Keeps.drewN | apply Keeps.alloc | (refine Keeps.trans ?_ (by assumption) (fun _ _ h => h)))); done) | (refine Keeps.cell' (S := fun _ => False) (w := w3) ?_ (by assumption) (fun f => f); (repeat (first | exact Keeps.refl _ _ | assumption | apply Keeps.drew | apply Keeps.drewN | apply Keeps.alloc | (refine Keeps.trans ?_ (by assumption) (fun _ _ h => h)))); done)) | (trace_state; fail))
    (first
      | (go_at_call 94; with_reducible refine (HIM.out _).mono ?_; rintro e w4 ⟨rfl, hk4⟩)
      | (go_at_call 46; with_reducible refine (HGN.out _).mono ?_; rintro e w' ⟨rfl, rfl⟩)
      | (go_at_call 42; with_reducible refine (HQ.out _).mono ?_; rintro e w' ⟨rfl, rfl⟩)
      | (go_at_call 43; with_reducible refine (HP4.out _).mono ?_; rintro e w' ⟨rfl, rfl⟩)
      | (go_at_call 43; with_reducible refine (HNR.out _).mono ?_; rintro e w' ⟨rfl, rfl⟩))
  rename_i hh
  obtain ⟨hk4, i0', i1', i2', i3', i4', s34'⟩ := hh
  have hS4 := HS2.out.keep hk4 (fun h => h)
  have hI4 := HI2.out.keep hk4 (fun h => h)
  have hK4 := HK2.out.trans hk4 (fun _ _ h => h.elim)
  clear i0 i1 i2 i3 i4 s34 HS2 HI2 HK2 hk4 i0' i1' i2' i3' i4' s34'
  have HW := Lib.hid (fun d => (⟨hS4.drewN d, hI4.drewN d, hK4.drewN d⟩ : StAt (w4.drewN d) sb s ∧ IAt (w4.drewN d) x ⟨34, S, T, D, imm⟩ ∧ Keeps (· = sb) w (w4.drewN d)))
  obtain ⟨i0, i1, i2, i3, i4⟩ := hI4.cells
  simp only at i0 i1 i2 i3 i4
  have s34 := hS4.cells.2.2.1
  clear hS4 hI4 hK4
  go_upto_region 6 with fail
  go_quiet (first | (go_at_call 43; with_reducible exact (quiet_eq (HP4.out _))))
  try rw [HFR.out]
  obtain ⟨hS1, hI1, hk1⟩ := HW.out nq
  clear i0 i1 i2 i3 i4 s34 HW
  generalize w4.drewN nq = w5 at *
  have HS2 := Lib.hid hS1
  have HK2 := Lib.hid hk1
  obtain ⟨i0, i1, i2, i3, i4⟩ := hI1.cells
  simp only at i0 i1 i2 i3 i4
  have s34 := hS1.cells.2.2.1
  have fD := hS1.frozen D
  have rD := hS1.reg D (by omega)
  have f31 := hS1.frozen 31
  have r31 := hS1.reg 31 (by omega)
  clear hS1 hk1 hI1
  go_wp2_with fail
  refine (HGA.out _).mono ?_
  rintro e w' ⟨rfl, rfl⟩
  go_wp2_with fail
  go_ret2
  exact ⟨rfl, ⟨s, HS2.out, HE.out⟩, HK2.out⟩

set_option maxRecDepth 100000 in
set_option maxHeartbeats 3000000 in
theorem rbr_34n (sb : Nat) (S T D imm : Int) (s : Cp.St) (w : World) (hS : StAt w sb s) (hS5 : 0 ≤ S ∧ S < 32) (hT5 : 0 ≤ T ∧ T < 32) (hD5 : 0 ≤ D ∧ D < 32) (him : 0 ≤ imm ∧ imm < 67108864) (a bb n p4 gn q nr fr v8 : Int)
    (hpc : 0 ≤ s.pc ∧ s.pc < 4294967296) (ha : 0 ≤ a ∧ a < 4294967296) (hb : 0 ≤ bb ∧ bb < 4294967296) (hav : s.R S.toNat = a) (hbv : s.R T.toNat = bb) (h0 : s.R 0 = 0) (hsl : s.slot = false) (hn : 0 ≤ n ∧ n < 4294967296) (hp4 : 0 ≤ p4 ∧ p4 < 4294967296) (hgn : -2147483648 ≤ gn ∧ gn ≤ 2147483647) (hq : 0 ≤ q ∧ q < 4294967296) (hnr : 0 ≤ nr ∧ nr < 4294967296)
    (HNV : Hid (Cp.immS ⟨34, S, T, D, imm⟩ = n)) (HP4 : Hid (∀ w, Calls Tryz.prog 43 #[.int .u32 s.pc, .int .u32 4] w fun e w' => e = .returned (.int .u32 p4) ∧ w = w')) (HGN : Hid (∀ w, Calls Tryz.prog 46 #[.int .u32 n] w fun e w' => e = .returned (.int .i64 gn) ∧ w = w'))
    (HQ : Hid (∀ w, Calls Tryz.prog 42 #[.int .i64 (4 * gn)] w fun e w' => e = .returned (.int .u32 q) ∧ w = w')) (HNR : Hid (∀ w, Calls Tryz.prog 43 #[.int .u32 p4, .int .u32 q] w fun e w' => e = .returned (.int .u32 nr) ∧ w = w'))
    (HFR : Hid (p4 / 268435456 * 268435456 + 4 * imm = fr)) (HV8 : Hid (∀ w, Calls Tryz.prog 43 #[.int .u32 s.pc, .int .u32 8] w fun e w' => e = .returned (.int .u32 v8) ∧ w' = w)) (hc : Wd.sg a ≤ 0) :
    Calls Tryz.prog 84 #[.pointer (some ⟨sb, 0, none⟩), .agg (insC ⟨34, S, T, D, imm⟩)] w fun e w' => RbOk w w' sb (-1) (-1, s) e := by
  obtain ⟨S, rfl⟩ := Int.eq_ofNat_of_zero_le hS5.1
  obtain ⟨T, rfl⟩ := Int.eq_ofNat_of_zero_le hT5.1
  obtain ⟨D, rfl⟩ := Int.eq_ofNat_of_zero_le hD5.1
  rw [Int.toNat_natCast] at hav hbv
  have HO := Lib.hid (ref_open hS ⟨34, S, T, D, imm⟩)
  have HE := Lib.hid (Cp.ends_same h0)
  have HAV := Lib.hid hav
  have HBV := Lib.hid hbv
  have HSL := Lib.hid hsl
  have HLT := Lib.hid hS.lt
  have hQ := HQ.out
  have HGA := Lib.hid (fun w => signed_any a w ha)
  have hga := Wd.sg_bd a ha.1 ha.2
  generalize Wd.sg a = ga at *
  have hcd : decide (0 < ga) = false := decide_eq_false (by omega)
  clear hc
  clear hS hav hbv h0 hsl hQ
  unfold insC
  go_enter Tryz.func84, Tryz.ntmps84
  go_upto_region 1 with fail
  obtain ⟨hS1, hI1, hk1⟩ := HO.out
  simp only at hS1 hI1 hk1
  have hxs : ¬ w.heap.size = sb := fun h => by have := HLT.out; omega
  have hsx : ¬ sb = w.heap.size := fun h => by have := HLT.out; omega
  generalize w.alloc _ = w1 at *
  generalize w.heap.size = x at *
  have HS1 := Lib.hid hS1
  have HI1 := Lib.hid hI1
  have HK1 := Lib.hid hk1
  have HW := Lib.hid (fun d => (⟨HS1.out.drewN d, HI1.out.drewN d, HK1.out.drewN d⟩ : StAt (w1.drewN d) sb s ∧ IAt (w1.drewN d) x ⟨34, S, T, D, imm⟩ ∧ Keeps (· = sb) w (w1.drewN d)))
  obtain ⟨i0, i1, i2, i3, i4⟩ := hI1.cells
  simp only at i0 i1 i2 i3 i4
  have rS := hS1.reg S (by omega)
  rw [HAV.out] at rS
  have s36 := hS1.cells.2.2.2.2.1
  rw [HSL.out] at s36
  have hS6 : (S : Int) < 32 := by omega
  have hT6 : (T : Int) < 32 := by omega
  have hD6 : (D : Int) < 32 := by omega
  clear hS1 hI1 hk1
  go_upto_region 3 with fail
  go_quiet (fail)
  obtain ⟨hS1, hI1, hk1⟩ := HW.out nq
  clear i0 i1 i2 i3 i4 rS s36 HS1 HI1 HK1 HO HW
  generalize w1.drewN nq = w2 at *
  have HW := Lib.hid (fun d => (⟨hS1.drewN d, hI1.drewN d, hk1.drewN d⟩ : StAt (w2.drewN d) sb s ∧ IAt (w2.drewN d) x ⟨34, S, T, D, imm⟩ ∧ Keeps (· = sb) w (w2.drewN d)))
  obtain ⟨i0, i1, i2, i3, i4⟩ := hI1.cells
  simp only at i0 i1 i2 i3 i4
  have rT := hS1.reg T (by omega)
  rw [HBV.out] at rT
  clear hS1 hI1 hk1
  go_upto_region 4 with fail
  go_quiet (fail)
  obtain ⟨hS1, hI1, hk1⟩ := HW.out nq
  clear i0 i1 i2 i3 i4 rT HW
  generalize w2.drewN nq = w3 at *
  have HS2 := Lib.hid hS1
  have HK2 := Lib.hid hk1
  have HI2 := Lib.hid hI1
  obtain ⟨i0, i1, i2, i3, i4⟩ := hI1.cells
  simp only at i0 i1 i2 i3 i4
  have s34 := hS1.cells.2.2.1
  clear hS1 hk1 hI1
  have h4 : IntKind.i64.wrap (4 * gn) = 4 * gn := by rw [IntKind.wrap_i64]; omega
  have h6 : IntKind.i64.wrap nr = nr := by rw [IntKind.wrap_i64]; omega
  have h7 : IntKind.i64.wrap a = a := by rw [IntKind.wrap_i64]; omega
  have h5 : wrap64 (4 * gn) = 4 * gn := by unfold wrap64; omega
  have HIM : Hid (∀ w, Calls Tryz.prog 94 #[.agg #[.int .i64 34, .int .i64 (S : Int), .int .i64 (T : Int), .int .i64 (D : Int), .int .u32 imm]] w fun e w' => e = .returned (.int .u32 n) ∧ Keeps (fun _ => False) w w') := Lib.hid (fun w => immOf_k ⟨34, S, T, D, imm⟩ n w ⟨him.1, Int.lt_trans him.2 (by decide)⟩ HNV.out)
  go_upto_region 5 with fail
  go_region_held3 (fun w' => Keeps (fun _ => False) w3 w' ∧ w'.cell? ⟨x, 0, none⟩ = some (.int .i64 34) ∧ w'.cell? ⟨x, 1, none⟩ = some (.int .i64 (S : Int)) ∧ w'.cell? ⟨x, 2, none⟩ = some (.int .i64 (T : Int)) ∧ w'.cell? ⟨x, 3, none⟩ = some (.int .i64 (D : Int)) ∧ w'.cell? ⟨x, 4, none⟩ = some (.int .u32 imm) ∧ w'.cell? ⟨sb, 34, none⟩ = some (.int .u32 s.pc))
    (first | (refine ⟨?_, ?_, ?_, ?_, ?_, ?_, ?_⟩ <;> first | ((repeat (first | exact Keeps.refl _ _ | assumption | apply Keeps.drew | apply Keeps.drewN | apply Keeps.alloc | (refine Keeps.trans ?_ (by assumption) (fun _ _ h => h)))); done) | (refine Keeps.cell' (S := fun _ => False) (w := w3) ?_ (by assumption) (fun f => f); (repeat (first | exact Keeps.refl _ _ | assumption | apply Keeps.drew | apply Keeps.drewN | apply Keeps.alloc | (refine Keeps.trans ?_ (by assumption) (fun _ _ h => h)))); done)) | (trace_state; fail))
    (first
      | (go_at_call 94; with_reducible refine (HIM.out _).mono ?_; rintro e w4 ⟨rfl, hk4⟩)
      | (go_at_call 46; with_reducible refine (HGN.out _).mono ?_; rintro e w' ⟨rfl, rfl⟩)
      | (go_at_call 42; with_reducible refine (HQ.out _).mono ?_; rintro e w' ⟨rfl, rfl⟩)
      | (go_at_call 43; with_reducible refine (HP4.out _).mono ?_; rintro e w' ⟨rfl, rfl⟩)
      | (go_at_call 43; with_reducible refine (HNR.out _).mono ?_; rintro e w' ⟨rfl, rfl⟩))
  rename_i hh
  obtain ⟨hk4, i0', i1', i2', i3', i4', s34'⟩ := hh
  have hS4 := HS2.out.keep hk4 (fun h => h)
  have hI4 := HI2.out.keep hk4 (fun h => h)
  have hK4 := HK2.out.trans hk4 (fun _ _ h => h.elim)
  clear i0 i1 i2 i3 i4 s34 HS2 HI2 HK2 hk4 i0' i1' i2' i3' i4' s34'
  have HW := Lib.hid (fun d => (⟨hS4.drewN d, hI4.drewN d, hK4.drewN d⟩ : StAt (w4.drewN d) sb s ∧ IAt (w4.drewN d) x ⟨34, S, T, D, imm⟩ ∧ Keeps (· = sb) w (w4.drewN d)))
  obtain ⟨i0, i1, i2, i3, i4⟩ := hI4.cells
  simp only at i0 i1 i2 i3 i4
  have s34 := hS4.cells.2.2.1
  clear hS4 hI4 hK4
  go_upto_region 6 with fail
  go_quiet (first | (go_at_call 43; with_reducible exact (quiet_eq (HP4.out _))))
  try rw [HFR.out]
  obtain ⟨hS1, hI1, hk1⟩ := HW.out nq
  clear i0 i1 i2 i3 i4 s34 HW
  generalize w4.drewN nq = w5 at *
  have HS2 := Lib.hid hS1
  have HK2 := Lib.hid hk1
  obtain ⟨i0, i1, i2, i3, i4⟩ := hI1.cells
  simp only at i0 i1 i2 i3 i4
  have s34 := hS1.cells.2.2.1
  have fD := hS1.frozen D
  have rD := hS1.reg D (by omega)
  have f31 := hS1.frozen 31
  have r31 := hS1.reg 31 (by omega)
  clear hS1 hk1 hI1
  go_wp2_with fail
  refine (HGA.out _).mono ?_
  rintro e w' ⟨rfl, rfl⟩
  go_wp2_with fail
  go_ret2
  exact ⟨rfl, ⟨s, HS2.out, HE.out⟩, HK2.out⟩

set_option maxRecDepth 100000 in
set_option maxHeartbeats 3000000 in
theorem rbr_29 (sb : Nat) (S T D imm : Int) (s : Cp.St) (w : World) (hS : StAt w sb s) (hS5 : 0 ≤ S ∧ S < 32) (hT5 : 0 ≤ T ∧ T < 32) (hD5 : 0 ≤ D ∧ D < 32) (him : 0 ≤ imm ∧ imm < 67108864) (a bb n p4 gn q nr fr v8 : Int)
    (hpc : 0 ≤ s.pc ∧ s.pc < 4294967296) (ha : 0 ≤ a ∧ a < 4294967296) (hb : 0 ≤ bb ∧ bb < 4294967296) (hav : s.R S.toNat = a) (hbv : s.R T.toNat = bb) (h0 : s.R 0 = 0) (hsl : s.slot = false) (hn : 0 ≤ n ∧ n < 4294967296) (hp4 : 0 ≤ p4 ∧ p4 < 4294967296) (hgn : -2147483648 ≤ gn ∧ gn ≤ 2147483647) (hq : 0 ≤ q ∧ q < 4294967296) (hnr : 0 ≤ nr ∧ nr < 4294967296)
    (HNV : Hid (Cp.immS ⟨29, S, T, D, imm⟩ = n)) (HP4 : Hid (∀ w, Calls Tryz.prog 43 #[.int .u32 s.pc, .int .u32 4] w fun e w' => e = .returned (.int .u32 p4) ∧ w = w')) (HGN : Hid (∀ w, Calls Tryz.prog 46 #[.int .u32 n] w fun e w' => e = .returned (.int .i64 gn) ∧ w = w'))
    (HQ : Hid (∀ w, Calls Tryz.prog 42 #[.int .i64 (4 * gn)] w fun e w' => e = .returned (.int .u32 q) ∧ w = w')) (HNR : Hid (∀ w, Calls Tryz.prog 43 #[.int .u32 p4, .int .u32 q] w fun e w' => e = .returned (.int .u32 nr) ∧ w = w'))
    (HFR : Hid (p4 / 268435456 * 268435456 + 4 * imm = fr)) (HV8 : Hid (∀ w, Calls Tryz.prog 43 #[.int .u32 s.pc, .int .u32 8] w fun e w' => e = .returned (.int .u32 v8) ∧ w' = w)) :
    Calls Tryz.prog 84 #[.pointer (some ⟨sb, 0, none⟩), .agg (insC ⟨29, S, T, D, imm⟩)] w fun e w' => RbOk w w' sb fr (-1, s) e := by
  obtain ⟨S, rfl⟩ := Int.eq_ofNat_of_zero_le hS5.1
  obtain ⟨T, rfl⟩ := Int.eq_ofNat_of_zero_le hT5.1
  obtain ⟨D, rfl⟩ := Int.eq_ofNat_of_zero_le hD5.1
  rw [Int.toNat_natCast] at hav hbv
  have HO := Lib.hid (ref_open hS ⟨29, S, T, D, imm⟩)
  have HE := Lib.hid (Cp.ends_same h0)
  have HAV := Lib.hid hav
  have HBV := Lib.hid hbv
  have HSL := Lib.hid hsl
  have HLT := Lib.hid hS.lt
  have hQ := HQ.out
  clear hS hav hbv h0 hsl hQ
  unfold insC
  go_enter Tryz.func84, Tryz.ntmps84
  go_upto_region 1 with fail
  obtain ⟨hS1, hI1, hk1⟩ := HO.out
  simp only at hS1 hI1 hk1
  have hxs : ¬ w.heap.size = sb := fun h => by have := HLT.out; omega
  have hsx : ¬ sb = w.heap.size := fun h => by have := HLT.out; omega
  generalize w.alloc _ = w1 at *
  generalize w.heap.size = x at *
  have HS1 := Lib.hid hS1
  have HI1 := Lib.hid hI1
  have HK1 := Lib.hid hk1
  have HW := Lib.hid (fun d => (⟨HS1.out.drewN d, HI1.out.drewN d, HK1.out.drewN d⟩ : StAt (w1.drewN d) sb s ∧ IAt (w1.drewN d) x ⟨29, S, T, D, imm⟩ ∧ Keeps (· = sb) w (w1.drewN d)))
  obtain ⟨i0, i1, i2, i3, i4⟩ := hI1.cells
  simp only at i0 i1 i2 i3 i4
  have rS := hS1.reg S (by omega)
  rw [HAV.out] at rS
  have s36 := hS1.cells.2.2.2.2.1
  rw [HSL.out] at s36
  have hS6 : (S : Int) < 32 := by omega
  have hT6 : (T : Int) < 32 := by omega
  have hD6 : (D : Int) < 32 := by omega
  clear hS1 hI1 hk1
  go_upto_region 3 with fail
  go_quiet (fail)
  obtain ⟨hS1, hI1, hk1⟩ := HW.out nq
  clear i0 i1 i2 i3 i4 rS s36 HS1 HI1 HK1 HO HW
  generalize w1.drewN nq = w2 at *
  have HW := Lib.hid (fun d => (⟨hS1.drewN d, hI1.drewN d, hk1.drewN d⟩ : StAt (w2.drewN d) sb s ∧ IAt (w2.drewN d) x ⟨29, S, T, D, imm⟩ ∧ Keeps (· = sb) w (w2.drewN d)))
  obtain ⟨i0, i1, i2, i3, i4⟩ := hI1.cells
  simp only at i0 i1 i2 i3 i4
  have rT := hS1.reg T (by omega)
  rw [HBV.out] at rT
  clear hS1 hI1 hk1
  go_upto_region 4 with fail
  go_quiet (fail)
  obtain ⟨hS1, hI1, hk1⟩ := HW.out nq
  clear i0 i1 i2 i3 i4 rT HW
  generalize w2.drewN nq = w3 at *
  have HS2 := Lib.hid hS1
  have HK2 := Lib.hid hk1
  have HI2 := Lib.hid hI1
  obtain ⟨i0, i1, i2, i3, i4⟩ := hI1.cells
  simp only at i0 i1 i2 i3 i4
  have s34 := hS1.cells.2.2.1
  clear hS1 hk1 hI1
  have h4 : IntKind.i64.wrap (4 * gn) = 4 * gn := by rw [IntKind.wrap_i64]; omega
  have h6 : IntKind.i64.wrap nr = nr := by rw [IntKind.wrap_i64]; omega
  have h7 : IntKind.i64.wrap a = a := by rw [IntKind.wrap_i64]; omega
  have h5 : wrap64 (4 * gn) = 4 * gn := by unfold wrap64; omega
  have HIM : Hid (∀ w, Calls Tryz.prog 94 #[.agg #[.int .i64 29, .int .i64 (S : Int), .int .i64 (T : Int), .int .i64 (D : Int), .int .u32 imm]] w fun e w' => e = .returned (.int .u32 n) ∧ Keeps (fun _ => False) w w') := Lib.hid (fun w => immOf_k ⟨29, S, T, D, imm⟩ n w ⟨him.1, Int.lt_trans him.2 (by decide)⟩ HNV.out)
  go_upto_region 5 with fail
  go_region_held3 (fun w' => Keeps (fun _ => False) w3 w' ∧ w'.cell? ⟨x, 0, none⟩ = some (.int .i64 29) ∧ w'.cell? ⟨x, 1, none⟩ = some (.int .i64 (S : Int)) ∧ w'.cell? ⟨x, 2, none⟩ = some (.int .i64 (T : Int)) ∧ w'.cell? ⟨x, 3, none⟩ = some (.int .i64 (D : Int)) ∧ w'.cell? ⟨x, 4, none⟩ = some (.int .u32 imm) ∧ w'.cell? ⟨sb, 34, none⟩ = some (.int .u32 s.pc))
    (first | (refine ⟨?_, ?_, ?_, ?_, ?_, ?_, ?_⟩ <;> first | ((repeat (first | exact Keeps.refl _ _ | assumption | apply Keeps.drew | apply Keeps.drewN | apply Keeps.alloc | (refine Keeps.trans ?_ (by assumption) (fun _ _ h => h)))); done) | (refine Keeps.cell' (S := fun _ => False) (w := w3) ?_ (by assumption) (fun f => f); (repeat (first | exact Keeps.refl _ _ | assumption | apply Keeps.drew | apply Keeps.drewN | apply Keeps.alloc | (refine Keeps.trans ?_ (by assumption) (fun _ _ h => h)))); done)) | (trace_state; fail))
    (first
      | (go_at_call 94; with_reducible refine (HIM.out _).mono ?_; rintro e w4 ⟨rfl, hk4⟩)
      | (go_at_call 46; with_reducible refine (HGN.out _).mono ?_; rintro e w' ⟨rfl, rfl⟩)
      | (go_at_call 42; with_reducible refine (HQ.out _).mono ?_; rintro e w' ⟨rfl, rfl⟩)
      | (go_at_call 43; with_reducible refine (HP4.out _).mono ?_; rintro e w' ⟨rfl, rfl⟩)
      | (go_at_call 43; with_reducible refine (HNR.out _).mono ?_; rintro e w' ⟨rfl, rfl⟩))
  rename_i hh
  obtain ⟨hk4, i0', i1', i2', i3', i4', s34'⟩ := hh
  have hS4 := HS2.out.keep hk4 (fun h => h)
  have hI4 := HI2.out.keep hk4 (fun h => h)
  have hK4 := HK2.out.trans hk4 (fun _ _ h => h.elim)
  clear i0 i1 i2 i3 i4 s34 HS2 HI2 HK2 hk4 i0' i1' i2' i3' i4' s34'
  have HW := Lib.hid (fun d => (⟨hS4.drewN d, hI4.drewN d, hK4.drewN d⟩ : StAt (w4.drewN d) sb s ∧ IAt (w4.drewN d) x ⟨29, S, T, D, imm⟩ ∧ Keeps (· = sb) w (w4.drewN d)))
  obtain ⟨i0, i1, i2, i3, i4⟩ := hI4.cells
  simp only at i0 i1 i2 i3 i4
  have s34 := hS4.cells.2.2.1
  clear hS4 hI4 hK4
  go_upto_region 6 with fail
  go_quiet (first | (go_at_call 43; with_reducible exact (quiet_eq (HP4.out _))))
  try rw [HFR.out]
  obtain ⟨hS1, hI1, hk1⟩ := HW.out nq
  clear i0 i1 i2 i3 i4 s34 HW
  generalize w4.drewN nq = w5 at *
  have HS2 := Lib.hid hS1
  have HK2 := Lib.hid hk1
  obtain ⟨i0, i1, i2, i3, i4⟩ := hI1.cells
  simp only at i0 i1 i2 i3 i4
  have s34 := hS1.cells.2.2.1
  have fD := hS1.frozen D
  have rD := hS1.reg D (by omega)
  have f31 := hS1.frozen 31
  have r31 := hS1.reg 31 (by omega)
  clear hS1 hk1 hI1
  go_wp2_with fail
  go_ret2
  exact ⟨rfl, ⟨s, HS2.out, HE.out⟩, HK2.out⟩

set_option maxRecDepth 100000 in
set_option maxHeartbeats 3000000 in
theorem rbr_30 (sb : Nat) (S T D imm : Int) (s : Cp.St) (w : World) (hS : StAt w sb s) (hS5 : 0 ≤ S ∧ S < 32) (hT5 : 0 ≤ T ∧ T < 32) (hD5 : 0 ≤ D ∧ D < 32) (him : 0 ≤ imm ∧ imm < 67108864) (a bb n p4 gn q nr fr v8 : Int)
    (hpc : 0 ≤ s.pc ∧ s.pc < 4294967296) (ha : 0 ≤ a ∧ a < 4294967296) (hb : 0 ≤ bb ∧ bb < 4294967296) (hav : s.R S.toNat = a) (hbv : s.R T.toNat = bb) (h0 : s.R 0 = 0) (hsl : s.slot = false) (hn : 0 ≤ n ∧ n < 4294967296) (hp4 : 0 ≤ p4 ∧ p4 < 4294967296) (hgn : -2147483648 ≤ gn ∧ gn ≤ 2147483647) (hq : 0 ≤ q ∧ q < 4294967296) (hnr : 0 ≤ nr ∧ nr < 4294967296)
    (HNV : Hid (Cp.immS ⟨30, S, T, D, imm⟩ = n)) (HP4 : Hid (∀ w, Calls Tryz.prog 43 #[.int .u32 s.pc, .int .u32 4] w fun e w' => e = .returned (.int .u32 p4) ∧ w = w')) (HGN : Hid (∀ w, Calls Tryz.prog 46 #[.int .u32 n] w fun e w' => e = .returned (.int .i64 gn) ∧ w = w'))
    (HQ : Hid (∀ w, Calls Tryz.prog 42 #[.int .i64 (4 * gn)] w fun e w' => e = .returned (.int .u32 q) ∧ w = w')) (HNR : Hid (∀ w, Calls Tryz.prog 43 #[.int .u32 p4, .int .u32 q] w fun e w' => e = .returned (.int .u32 nr) ∧ w = w'))
    (HFR : Hid (p4 / 268435456 * 268435456 + 4 * imm = fr)) (HV8 : Hid (∀ w, Calls Tryz.prog 43 #[.int .u32 s.pc, .int .u32 8] w fun e w' => e = .returned (.int .u32 v8) ∧ w' = w)) :
    Calls Tryz.prog 84 #[.pointer (some ⟨sb, 0, none⟩), .agg (insC ⟨30, S, T, D, imm⟩)] w fun e w' => RbOk w w' sb fr (-1, (Cp.setR s 31 v8)) e := by
  obtain ⟨S, rfl⟩ := Int.eq_ofNat_of_zero_le hS5.1
  obtain ⟨T, rfl⟩ := Int.eq_ofNat_of_zero_le hT5.1
  obtain ⟨D, rfl⟩ := Int.eq_ofNat_of_zero_le hD5.1
  rw [Int.toNat_natCast] at hav hbv
  have HO := Lib.hid (ref_open hS ⟨30, S, T, D, imm⟩)
  have HE := Lib.hid (Cp.ends_put 31 v8 h0 (by omega))
  have HAV := Lib.hid hav
  have HBV := Lib.hid hbv
  have HSL := Lib.hid hsl
  have HLT := Lib.hid hS.lt
  have hQ := HQ.out
  clear hS hav hbv h0 hsl hQ
  unfold insC
  go_enter Tryz.func84, Tryz.ntmps84
  go_upto_region 1 with fail
  obtain ⟨hS1, hI1, hk1⟩ := HO.out
  simp only at hS1 hI1 hk1
  have hxs : ¬ w.heap.size = sb := fun h => by have := HLT.out; omega
  have hsx : ¬ sb = w.heap.size := fun h => by have := HLT.out; omega
  generalize w.alloc _ = w1 at *
  generalize w.heap.size = x at *
  have HS1 := Lib.hid hS1
  have HI1 := Lib.hid hI1
  have HK1 := Lib.hid hk1
  have HW := Lib.hid (fun d => (⟨HS1.out.drewN d, HI1.out.drewN d, HK1.out.drewN d⟩ : StAt (w1.drewN d) sb s ∧ IAt (w1.drewN d) x ⟨30, S, T, D, imm⟩ ∧ Keeps (· = sb) w (w1.drewN d)))
  obtain ⟨i0, i1, i2, i3, i4⟩ := hI1.cells
  simp only at i0 i1 i2 i3 i4
  have rS := hS1.reg S (by omega)
  rw [HAV.out] at rS
  have s36 := hS1.cells.2.2.2.2.1
  rw [HSL.out] at s36
  have hS6 : (S : Int) < 32 := by omega
  have hT6 : (T : Int) < 32 := by omega
  have hD6 : (D : Int) < 32 := by omega
  clear hS1 hI1 hk1
  go_upto_region 3 with fail
  go_quiet (fail)
  obtain ⟨hS1, hI1, hk1⟩ := HW.out nq
  clear i0 i1 i2 i3 i4 rS s36 HS1 HI1 HK1 HO HW
  generalize w1.drewN nq = w2 at *
  have HW := Lib.hid (fun d => (⟨hS1.drewN d, hI1.drewN d, hk1.drewN d⟩ : StAt (w2.drewN d) sb s ∧ IAt (w2.drewN d) x ⟨30, S, T, D, imm⟩ ∧ Keeps (· = sb) w (w2.drewN d)))
  obtain ⟨i0, i1, i2, i3, i4⟩ := hI1.cells
  simp only at i0 i1 i2 i3 i4
  have rT := hS1.reg T (by omega)
  rw [HBV.out] at rT
  clear hS1 hI1 hk1
  go_upto_region 4 with fail
  go_quiet (fail)
  obtain ⟨hS1, hI1, hk1⟩ := HW.out nq
  clear i0 i1 i2 i3 i4 rT HW
  generalize w2.drewN nq = w3 at *
  have HS2 := Lib.hid hS1
  have HK2 := Lib.hid hk1
  have HI2 := Lib.hid hI1
  obtain ⟨i0, i1, i2, i3, i4⟩ := hI1.cells
  simp only at i0 i1 i2 i3 i4
  have s34 := hS1.cells.2.2.1
  clear hS1 hk1 hI1
  have h4 : IntKind.i64.wrap (4 * gn) = 4 * gn := by rw [IntKind.wrap_i64]; omega
  have h6 : IntKind.i64.wrap nr = nr := by rw [IntKind.wrap_i64]; omega
  have h7 : IntKind.i64.wrap a = a := by rw [IntKind.wrap_i64]; omega
  have h5 : wrap64 (4 * gn) = 4 * gn := by unfold wrap64; omega
  have HIM : Hid (∀ w, Calls Tryz.prog 94 #[.agg #[.int .i64 30, .int .i64 (S : Int), .int .i64 (T : Int), .int .i64 (D : Int), .int .u32 imm]] w fun e w' => e = .returned (.int .u32 n) ∧ Keeps (fun _ => False) w w') := Lib.hid (fun w => immOf_k ⟨30, S, T, D, imm⟩ n w ⟨him.1, Int.lt_trans him.2 (by decide)⟩ HNV.out)
  go_upto_region 5 with fail
  go_region_held3 (fun w' => Keeps (fun _ => False) w3 w' ∧ w'.cell? ⟨x, 0, none⟩ = some (.int .i64 30) ∧ w'.cell? ⟨x, 1, none⟩ = some (.int .i64 (S : Int)) ∧ w'.cell? ⟨x, 2, none⟩ = some (.int .i64 (T : Int)) ∧ w'.cell? ⟨x, 3, none⟩ = some (.int .i64 (D : Int)) ∧ w'.cell? ⟨x, 4, none⟩ = some (.int .u32 imm) ∧ w'.cell? ⟨sb, 34, none⟩ = some (.int .u32 s.pc))
    (first | (refine ⟨?_, ?_, ?_, ?_, ?_, ?_, ?_⟩ <;> first | ((repeat (first | exact Keeps.refl _ _ | assumption | apply Keeps.drew | apply Keeps.drewN | apply Keeps.alloc | (refine Keeps.trans ?_ (by assumption) (fun _ _ h => h)))); done) | (refine Keeps.cell' (S := fun _ => False) (w := w3) ?_ (by assumption) (fun f => f); (repeat (first | exact Keeps.refl _ _ | assumption | apply Keeps.drew | apply Keeps.drewN | apply Keeps.alloc | (refine Keeps.trans ?_ (by assumption) (fun _ _ h => h)))); done)) | (trace_state; fail))
    (first
      | (go_at_call 94; with_reducible refine (HIM.out _).mono ?_; rintro e w4 ⟨rfl, hk4⟩)
      | (go_at_call 46; with_reducible refine (HGN.out _).mono ?_; rintro e w' ⟨rfl, rfl⟩)
      | (go_at_call 42; with_reducible refine (HQ.out _).mono ?_; rintro e w' ⟨rfl, rfl⟩)
      | (go_at_call 43; with_reducible refine (HP4.out _).mono ?_; rintro e w' ⟨rfl, rfl⟩)
      | (go_at_call 43; with_reducible refine (HNR.out _).mono ?_; rintro e w' ⟨rfl, rfl⟩))
  rename_i hh
  obtain ⟨hk4, i0', i1', i2', i3', i4', s34'⟩ := hh
  have hS4 := HS2.out.keep hk4 (fun h => h)
  have hI4 := HI2.out.keep hk4 (fun h => h)
  have hK4 := HK2.out.trans hk4 (fun _ _ h => h.elim)
  clear i0 i1 i2 i3 i4 s34 HS2 HI2 HK2 hk4 i0' i1' i2' i3' i4' s34'
  have HW := Lib.hid (fun d => (⟨hS4.drewN d, hI4.drewN d, hK4.drewN d⟩ : StAt (w4.drewN d) sb s ∧ IAt (w4.drewN d) x ⟨30, S, T, D, imm⟩ ∧ Keeps (· = sb) w (w4.drewN d)))
  obtain ⟨i0, i1, i2, i3, i4⟩ := hI4.cells
  simp only at i0 i1 i2 i3 i4
  have s34 := hS4.cells.2.2.1
  clear hS4 hI4 hK4
  go_upto_region 6 with fail
  go_quiet (first | (go_at_call 43; with_reducible exact (quiet_eq (HP4.out _))))
  try rw [HFR.out]
  obtain ⟨hS1, hI1, hk1⟩ := HW.out nq
  clear i0 i1 i2 i3 i4 s34 HW
  generalize w4.drewN nq = w5 at *
  have HS2 := Lib.hid hS1
  have HK2 := Lib.hid hk1
  obtain ⟨i0, i1, i2, i3, i4⟩ := hI1.cells
  simp only at i0 i1 i2 i3 i4
  have s34 := hS1.cells.2.2.1
  have fD := hS1.frozen D
  have rD := hS1.reg D (by omega)
  have f31 := hS1.frozen 31
  have r31 := hS1.reg 31 (by omega)
  clear hS1 hk1 hI1
  go_upto_region 25 with fail
  refine wp_region_still_tail 9 (by kernel_rfl) (by kernel_rfl) ?_
  simp only [List.take_succ_cons, List.take_zero, List.drop_succ_cons, List.drop_zero]
  repeat still_step
  still_call (HV8.out _)
  repeat still_step
  refine wpStill_nil ?_
  change wpList _ _ _ _ _ (World.drew _)
  go_wp2_with fail
  go_ret2
  exact ⟨rfl, ⟨_, StAt.put (s := s) (show StAt _ sb s from HS2.out) 31 ⟨by decide, by decide⟩ v8, HE.out⟩, (HK2.out.drew).trans (Keeps.one _ _ _ _) (fun _ _ h => h)⟩

set_option maxRecDepth 100000 in
set_option maxHeartbeats 3000000 in
theorem rbr_7 (sb : Nat) (S T D imm : Int) (s : Cp.St) (w : World) (hS : StAt w sb s) (hS5 : 0 ≤ S ∧ S < 32) (hT5 : 0 ≤ T ∧ T < 32) (hD5 : 0 ≤ D ∧ D < 32) (him : 0 ≤ imm ∧ imm < 67108864) (a bb n p4 gn q nr fr v8 : Int)
    (hpc : 0 ≤ s.pc ∧ s.pc < 4294967296) (ha : 0 ≤ a ∧ a < 4294967296) (hb : 0 ≤ bb ∧ bb < 4294967296) (hav : s.R S.toNat = a) (hbv : s.R T.toNat = bb) (h0 : s.R 0 = 0) (hsl : s.slot = false) (hn : 0 ≤ n ∧ n < 4294967296) (hp4 : 0 ≤ p4 ∧ p4 < 4294967296) (hgn : -2147483648 ≤ gn ∧ gn ≤ 2147483647) (hq : 0 ≤ q ∧ q < 4294967296) (hnr : 0 ≤ nr ∧ nr < 4294967296)
    (HNV : Hid (Cp.immS ⟨7, S, T, D, imm⟩ = n)) (HP4 : Hid (∀ w, Calls Tryz.prog 43 #[.int .u32 s.pc, .int .u32 4] w fun e w' => e = .returned (.int .u32 p4) ∧ w = w')) (HGN : Hid (∀ w, Calls Tryz.prog 46 #[.int .u32 n] w fun e w' => e = .returned (.int .i64 gn) ∧ w = w'))
    (HQ : Hid (∀ w, Calls Tryz.prog 42 #[.int .i64 (4 * gn)] w fun e w' => e = .returned (.int .u32 q) ∧ w = w')) (HNR : Hid (∀ w, Calls Tryz.prog 43 #[.int .u32 p4, .int .u32 q] w fun e w' => e = .returned (.int .u32 nr) ∧ w = w'))
    (HFR : Hid (p4 / 268435456 * 268435456 + 4 * imm = fr)) (HV8 : Hid (∀ w, Calls Tryz.prog 43 #[.int .u32 s.pc, .int .u32 8] w fun e w' => e = .returned (.int .u32 v8) ∧ w' = w)) :
    Calls Tryz.prog 84 #[.pointer (some ⟨sb, 0, none⟩), .agg (insC ⟨7, S, T, D, imm⟩)] w fun e w' => RbOk w w' sb a (-1, s) e := by
  obtain ⟨S, rfl⟩ := Int.eq_ofNat_of_zero_le hS5.1
  obtain ⟨T, rfl⟩ := Int.eq_ofNat_of_zero_le hT5.1
  obtain ⟨D, rfl⟩ := Int.eq_ofNat_of_zero_le hD5.1
  rw [Int.toNat_natCast] at hav hbv
  have HO := Lib.hid (ref_open hS ⟨7, S, T, D, imm⟩)
  have HE := Lib.hid (Cp.ends_same h0)
  have HAV := Lib.hid hav
  have HBV := Lib.hid hbv
  have HSL := Lib.hid hsl
  have HLT := Lib.hid hS.lt
  have hQ := HQ.out
  clear hS hav hbv h0 hsl hQ
  unfold insC
  go_enter Tryz.func84, Tryz.ntmps84
  go_upto_region 1 with fail
  obtain ⟨hS1, hI1, hk1⟩ := HO.out
  simp only at hS1 hI1 hk1
  have hxs : ¬ w.heap.size = sb := fun h => by have := HLT.out; omega
  have hsx : ¬ sb = w.heap.size := fun h => by have := HLT.out; omega
  generalize w.alloc _ = w1 at *
  generalize w.heap.size = x at *
  have HS1 := Lib.hid hS1
  have HI1 := Lib.hid hI1
  have HK1 := Lib.hid hk1
  have HW := Lib.hid (fun d => (⟨HS1.out.drewN d, HI1.out.drewN d, HK1.out.drewN d⟩ : StAt (w1.drewN d) sb s ∧ IAt (w1.drewN d) x ⟨7, S, T, D, imm⟩ ∧ Keeps (· = sb) w (w1.drewN d)))
  obtain ⟨i0, i1, i2, i3, i4⟩ := hI1.cells
  simp only at i0 i1 i2 i3 i4
  have rS := hS1.reg S (by omega)
  rw [HAV.out] at rS
  have s36 := hS1.cells.2.2.2.2.1
  rw [HSL.out] at s36
  have hS6 : (S : Int) < 32 := by omega
  have hT6 : (T : Int) < 32 := by omega
  have hD6 : (D : Int) < 32 := by omega
  clear hS1 hI1 hk1
  go_upto_region 3 with fail
  go_quiet (fail)
  obtain ⟨hS1, hI1, hk1⟩ := HW.out nq
  clear i0 i1 i2 i3 i4 rS s36 HS1 HI1 HK1 HO HW
  generalize w1.drewN nq = w2 at *
  have HW := Lib.hid (fun d => (⟨hS1.drewN d, hI1.drewN d, hk1.drewN d⟩ : StAt (w2.drewN d) sb s ∧ IAt (w2.drewN d) x ⟨7, S, T, D, imm⟩ ∧ Keeps (· = sb) w (w2.drewN d)))
  obtain ⟨i0, i1, i2, i3, i4⟩ := hI1.cells
  simp only at i0 i1 i2 i3 i4
  have rT := hS1.reg T (by omega)
  rw [HBV.out] at rT
  clear hS1 hI1 hk1
  go_upto_region 4 with fail
  go_quiet (fail)
  obtain ⟨hS1, hI1, hk1⟩ := HW.out nq
  clear i0 i1 i2 i3 i4 rT HW
  generalize w2.drewN nq = w3 at *
  have HS2 := Lib.hid hS1
  have HK2 := Lib.hid hk1
  have HI2 := Lib.hid hI1
  obtain ⟨i0, i1, i2, i3, i4⟩ := hI1.cells
  simp only at i0 i1 i2 i3 i4
  have s34 := hS1.cells.2.2.1
  clear hS1 hk1 hI1
  have h4 : IntKind.i64.wrap (4 * gn) = 4 * gn := by rw [IntKind.wrap_i64]; omega
  have h6 : IntKind.i64.wrap nr = nr := by rw [IntKind.wrap_i64]; omega
  have h7 : IntKind.i64.wrap a = a := by rw [IntKind.wrap_i64]; omega
  have h5 : wrap64 (4 * gn) = 4 * gn := by unfold wrap64; omega
  have HIM : Hid (∀ w, Calls Tryz.prog 94 #[.agg #[.int .i64 7, .int .i64 (S : Int), .int .i64 (T : Int), .int .i64 (D : Int), .int .u32 imm]] w fun e w' => e = .returned (.int .u32 n) ∧ Keeps (fun _ => False) w w') := Lib.hid (fun w => immOf_k ⟨7, S, T, D, imm⟩ n w ⟨him.1, Int.lt_trans him.2 (by decide)⟩ HNV.out)
  go_upto_region 5 with fail
  go_region_held3 (fun w' => Keeps (fun _ => False) w3 w' ∧ w'.cell? ⟨x, 0, none⟩ = some (.int .i64 7) ∧ w'.cell? ⟨x, 1, none⟩ = some (.int .i64 (S : Int)) ∧ w'.cell? ⟨x, 2, none⟩ = some (.int .i64 (T : Int)) ∧ w'.cell? ⟨x, 3, none⟩ = some (.int .i64 (D : Int)) ∧ w'.cell? ⟨x, 4, none⟩ = some (.int .u32 imm) ∧ w'.cell? ⟨sb, 34, none⟩ = some (.int .u32 s.pc))
    (first | (refine ⟨?_, ?_, ?_, ?_, ?_, ?_, ?_⟩ <;> first | ((repeat (first | exact Keeps.refl _ _ | assumption | apply Keeps.drew | apply Keeps.drewN | apply Keeps.alloc | (refine Keeps.trans ?_ (by assumption) (fun _ _ h => h)))); done) | (refine Keeps.cell' (S := fun _ => False) (w := w3) ?_ (by assumption) (fun f => f); (repeat (first | exact Keeps.refl _ _ | assumption | apply Keeps.drew | apply Keeps.drewN | apply Keeps.alloc | (refine Keeps.trans ?_ (by assumption) (fun _ _ h => h)))); done)) | (trace_state; fail))
    (first
      | (go_at_call 94; with_reducible refine (HIM.out _).mono ?_; rintro e w4 ⟨rfl, hk4⟩)
      | (go_at_call 46; with_reducible refine (HGN.out _).mono ?_; rintro e w' ⟨rfl, rfl⟩)
      | (go_at_call 42; with_reducible refine (HQ.out _).mono ?_; rintro e w' ⟨rfl, rfl⟩)
      | (go_at_call 43; with_reducible refine (HP4.out _).mono ?_; rintro e w' ⟨rfl, rfl⟩)
      | (go_at_call 43; with_reducible refine (HNR.out _).mono ?_; rintro e w' ⟨rfl, rfl⟩))
  rename_i hh
  obtain ⟨hk4, i0', i1', i2', i3', i4', s34'⟩ := hh
  have hS4 := HS2.out.keep hk4 (fun h => h)
  have hI4 := HI2.out.keep hk4 (fun h => h)
  have hK4 := HK2.out.trans hk4 (fun _ _ h => h.elim)
  clear i0 i1 i2 i3 i4 s34 HS2 HI2 HK2 hk4 i0' i1' i2' i3' i4' s34'
  have HW := Lib.hid (fun d => (⟨hS4.drewN d, hI4.drewN d, hK4.drewN d⟩ : StAt (w4.drewN d) sb s ∧ IAt (w4.drewN d) x ⟨7, S, T, D, imm⟩ ∧ Keeps (· = sb) w (w4.drewN d)))
  obtain ⟨i0, i1, i2, i3, i4⟩ := hI4.cells
  simp only at i0 i1 i2 i3 i4
  have s34 := hS4.cells.2.2.1
  clear hS4 hI4 hK4
  go_upto_region 6 with fail
  go_quiet (first | (go_at_call 43; with_reducible exact (quiet_eq (HP4.out _))))
  try rw [HFR.out]
  obtain ⟨hS1, hI1, hk1⟩ := HW.out nq
  clear i0 i1 i2 i3 i4 s34 HW
  generalize w4.drewN nq = w5 at *
  have HS2 := Lib.hid hS1
  have HK2 := Lib.hid hk1
  obtain ⟨i0, i1, i2, i3, i4⟩ := hI1.cells
  simp only at i0 i1 i2 i3 i4
  have s34 := hS1.cells.2.2.1
  have fD := hS1.frozen D
  have rD := hS1.reg D (by omega)
  have f31 := hS1.frozen 31
  have r31 := hS1.reg 31 (by omega)
  clear hS1 hk1 hI1
  go_wp2_with fail
  go_ret2
  exact ⟨rfl, ⟨s, HS2.out, HE.out⟩, HK2.out⟩

set_option maxRecDepth 100000 in
set_option maxHeartbeats 3000000 in
theorem rbr_8 (sb : Nat) (S T D imm : Int) (s : Cp.St) (w : World) (hS : StAt w sb s) (hS5 : 0 ≤ S ∧ S < 32) (hT5 : 0 ≤ T ∧ T < 32) (hD5 : 0 ≤ D ∧ D < 32) (him : 0 ≤ imm ∧ imm < 67108864) (a bb n p4 gn q nr fr v8 : Int)
    (hpc : 0 ≤ s.pc ∧ s.pc < 4294967296) (ha : 0 ≤ a ∧ a < 4294967296) (hb : 0 ≤ bb ∧ bb < 4294967296) (hav : s.R S.toNat = a) (hbv : s.R T.toNat = bb) (h0 : s.R 0 = 0) (hsl : s.slot = false) (hn : 0 ≤ n ∧ n < 4294967296) (hp4 : 0 ≤ p4 ∧ p4 < 4294967296) (hgn : -2147483648 ≤ gn ∧ gn ≤ 2147483647) (hq : 0 ≤ q ∧ q < 4294967296) (hnr : 0 ≤ nr ∧ nr < 4294967296)
    (HNV : Hid (Cp.immS ⟨8, S, T, D, imm⟩ = n)) (HP4 : Hid (∀ w, Calls Tryz.prog 43 #[.int .u32 s.pc, .int .u32 4] w fun e w' => e = .returned (.int .u32 p4) ∧ w = w')) (HGN : Hid (∀ w, Calls Tryz.prog 46 #[.int .u32 n] w fun e w' => e = .returned (.int .i64 gn) ∧ w = w'))
    (HQ : Hid (∀ w, Calls Tryz.prog 42 #[.int .i64 (4 * gn)] w fun e w' => e = .returned (.int .u32 q) ∧ w = w')) (HNR : Hid (∀ w, Calls Tryz.prog 43 #[.int .u32 p4, .int .u32 q] w fun e w' => e = .returned (.int .u32 nr) ∧ w = w'))
    (HFR : Hid (p4 / 268435456 * 268435456 + 4 * imm = fr)) (HV8 : Hid (∀ w, Calls Tryz.prog 43 #[.int .u32 s.pc, .int .u32 8] w fun e w' => e = .returned (.int .u32 v8) ∧ w' = w)) :
    Calls Tryz.prog 84 #[.pointer (some ⟨sb, 0, none⟩), .agg (insC ⟨8, S, T, D, imm⟩)] w fun e w' => RbOk w w' sb a (-1, (Cp.setR s D v8)) e := by
  obtain ⟨S, rfl⟩ := Int.eq_ofNat_of_zero_le hS5.1
  obtain ⟨T, rfl⟩ := Int.eq_ofNat_of_zero_le hT5.1
  obtain ⟨D, rfl⟩ := Int.eq_ofNat_of_zero_le hD5.1
  rw [Int.toNat_natCast] at hav hbv
  have HO := Lib.hid (ref_open hS ⟨8, S, T, D, imm⟩)
  have HE := Lib.hid (Cp.ends_put (D : Int) v8 h0 (by omega))
  have HAV := Lib.hid hav
  have HBV := Lib.hid hbv
  have HSL := Lib.hid hsl
  have HLT := Lib.hid hS.lt
  have hQ := HQ.out
  clear hS hav hbv h0 hsl hQ
  unfold insC
  go_enter Tryz.func84, Tryz.ntmps84
  go_upto_region 1 with fail
  obtain ⟨hS1, hI1, hk1⟩ := HO.out
  simp only at hS1 hI1 hk1
  have hxs : ¬ w.heap.size = sb := fun h => by have := HLT.out; omega
  have hsx : ¬ sb = w.heap.size := fun h => by have := HLT.out; omega
  generalize w.alloc _ = w1 at *
  generalize w.heap.size = x at *
  have HS1 := Lib.hid hS1
  have HI1 := Lib.hid hI1
  have HK1 := Lib.hid hk1
  have HW := Lib.hid (fun d => (⟨HS1.out.drewN d, HI1.out.drewN d, HK1.out.drewN d⟩ : StAt (w1.drewN d) sb s ∧ IAt (w1.drewN d) x ⟨8, S, T, D, imm⟩ ∧ Keeps (· = sb) w (w1.drewN d)))
  obtain ⟨i0, i1, i2, i3, i4⟩ := hI1.cells
  simp only at i0 i1 i2 i3 i4
  have rS := hS1.reg S (by omega)
  rw [HAV.out] at rS
  have s36 := hS1.cells.2.2.2.2.1
  rw [HSL.out] at s36
  have hS6 : (S : Int) < 32 := by omega
  have hT6 : (T : Int) < 32 := by omega
  have hD6 : (D : Int) < 32 := by omega
  clear hS1 hI1 hk1
  go_upto_region 3 with fail
  go_quiet (fail)
  obtain ⟨hS1, hI1, hk1⟩ := HW.out nq
  clear i0 i1 i2 i3 i4 rS s36 HS1 HI1 HK1 HO HW
  generalize w1.drewN nq = w2 at *
  have HW := Lib.hid (fun d => (⟨hS1.drewN d, hI1.drewN d, hk1.drewN d⟩ : StAt (w2.drewN d) sb s ∧ IAt (w2.drewN d) x ⟨8, S, T, D, imm⟩ ∧ Keeps (· = sb) w (w2.drewN d)))
  obtain ⟨i0, i1, i2, i3, i4⟩ := hI1.cells
  simp only at i0 i1 i2 i3 i4
  have rT := hS1.reg T (by omega)
  rw [HBV.out] at rT
  clear hS1 hI1 hk1
  go_upto_region 4 with fail
  go_quiet (fail)
  obtain ⟨hS1, hI1, hk1⟩ := HW.out nq
  clear i0 i1 i2 i3 i4 rT HW
  generalize w2.drewN nq = w3 at *
  have HS2 := Lib.hid hS1
  have HK2 := Lib.hid hk1
  have HI2 := Lib.hid hI1
  obtain ⟨i0, i1, i2, i3, i4⟩ := hI1.cells
  simp only at i0 i1 i2 i3 i4
  have s34 := hS1.cells.2.2.1
  clear hS1 hk1 hI1
  have h4 : IntKind.i64.wrap (4 * gn) = 4 * gn := by rw [IntKind.wrap_i64]; omega
  have h6 : IntKind.i64.wrap nr = nr := by rw [IntKind.wrap_i64]; omega
  have h7 : IntKind.i64.wrap a = a := by rw [IntKind.wrap_i64]; omega
  have h5 : wrap64 (4 * gn) = 4 * gn := by unfold wrap64; omega
  have HIM : Hid (∀ w, Calls Tryz.prog 94 #[.agg #[.int .i64 8, .int .i64 (S : Int), .int .i64 (T : Int), .int .i64 (D : Int), .int .u32 imm]] w fun e w' => e = .returned (.int .u32 n) ∧ Keeps (fun _ => False) w w') := Lib.hid (fun w => immOf_k ⟨8, S, T, D, imm⟩ n w ⟨him.1, Int.lt_trans him.2 (by decide)⟩ HNV.out)
  go_upto_region 5 with fail
  go_region_held3 (fun w' => Keeps (fun _ => False) w3 w' ∧ w'.cell? ⟨x, 0, none⟩ = some (.int .i64 8) ∧ w'.cell? ⟨x, 1, none⟩ = some (.int .i64 (S : Int)) ∧ w'.cell? ⟨x, 2, none⟩ = some (.int .i64 (T : Int)) ∧ w'.cell? ⟨x, 3, none⟩ = some (.int .i64 (D : Int)) ∧ w'.cell? ⟨x, 4, none⟩ = some (.int .u32 imm) ∧ w'.cell? ⟨sb, 34, none⟩ = some (.int .u32 s.pc))
    (first | (refine ⟨?_, ?_, ?_, ?_, ?_, ?_, ?_⟩ <;> first | ((repeat (first | exact Keeps.refl _ _ | assumption | apply Keeps.drew | apply Keeps.drewN | apply Keeps.alloc | (refine Keeps.trans ?_ (by assumption) (fun _ _ h => h)))); done) | (refine Keeps.cell' (S := fun _ => False) (w := w3) ?_ (by assumption) (fun f => f); (repeat (first | exact Keeps.refl _ _ | assumption | apply Keeps.drew | apply Keeps.drewN | apply Keeps.alloc | (refine Keeps.trans ?_ (by assumption) (fun _ _ h => h)))); done)) | (trace_state; fail))
    (first
      | (go_at_call 94; with_reducible refine (HIM.out _).mono ?_; rintro e w4 ⟨rfl, hk4⟩)
      | (go_at_call 46; with_reducible refine (HGN.out _).mono ?_; rintro e w' ⟨rfl, rfl⟩)
      | (go_at_call 42; with_reducible refine (HQ.out _).mono ?_; rintro e w' ⟨rfl, rfl⟩)
      | (go_at_call 43; with_reducible refine (HP4.out _).mono ?_; rintro e w' ⟨rfl, rfl⟩)
      | (go_at_call 43; with_reducible refine (HNR.out _).mono ?_; rintro e w' ⟨rfl, rfl⟩))
  rename_i hh
  obtain ⟨hk4, i0', i1', i2', i3', i4', s34'⟩ := hh
  have hS4 := HS2.out.keep hk4 (fun h => h)
  have hI4 := HI2.out.keep hk4 (fun h => h)
  have hK4 := HK2.out.trans hk4 (fun _ _ h => h.elim)
  clear i0 i1 i2 i3 i4 s34 HS2 HI2 HK2 hk4 i0' i1' i2' i3' i4' s34'
  have HW := Lib.hid (fun d => (⟨hS4.drewN d, hI4.drewN d, hK4.drewN d⟩ : StAt (w4.drewN d) sb s ∧ IAt (w4.drewN d) x ⟨8, S, T, D, imm⟩ ∧ Keeps (· = sb) w (w4.drewN d)))
  obtain ⟨i0, i1, i2, i3, i4⟩ := hI4.cells
  simp only at i0 i1 i2 i3 i4
  have s34 := hS4.cells.2.2.1
  clear hS4 hI4 hK4
  go_upto_region 6 with fail
  go_quiet (first | (go_at_call 43; with_reducible exact (quiet_eq (HP4.out _))))
  try rw [HFR.out]
  obtain ⟨hS1, hI1, hk1⟩ := HW.out nq
  clear i0 i1 i2 i3 i4 s34 HW
  generalize w4.drewN nq = w5 at *
  have HS2 := Lib.hid hS1
  have HK2 := Lib.hid hk1
  obtain ⟨i0, i1, i2, i3, i4⟩ := hI1.cells
  simp only at i0 i1 i2 i3 i4
  have s34 := hS1.cells.2.2.1
  have fD := hS1.frozen D
  have rD := hS1.reg D (by omega)
  have f31 := hS1.frozen 31
  have r31 := hS1.reg 31 (by omega)
  clear hS1 hk1 hI1
  go_upto_region 27 with fail
  refine wp_region_still_tail 11 (by kernel_rfl) (by kernel_rfl) ?_
  simp only [List.take_succ_cons, List.take_zero, List.drop_succ_cons, List.drop_zero]
  repeat still_step
  still_call (HV8.out _)
  repeat still_step
  refine wpStill_nil ?_
  change wpList _ _ _ _ _ (World.drew _)
  go_wp2_with fail
  go_ret2
  exact ⟨rfl, ⟨_, StAt.put (s := s) (show StAt _ sb s from HS2.out) (D : Int) hD5 v8, HE.out⟩, (HK2.out.drew).trans (Keeps.one _ _ _ _) (fun _ _ h => h)⟩

end Go.Proofs.YtlbdkcnbgdmpaaaGreatDoor
