import Derived.Test.YtlbdkcnbgdmpaaaGreatDoorOnez9
import Derived.Test.YtlbdkcnbgdmpaaaGreatDoorOnez10
import Derived.Test.YtlbdkcnbgdmpaaaGreatDoorOnez11
import Derived.Deep.RegionHeld3

/- RsumAny -/
/- The reference's processor: sum, whatever the operation. -/
namespace Go.Proofs.YtlbdkcnbgdmpaaaGreatDoor
open Go.RowKit Go.Deep
set_option linter.unusedVariables false

theorem lui_eq (imm : Int) : Wd.shift 60 imm 16 = Cp.u (imm * 65536) := by
  rw [Wd.shift_60 imm 16 65536 rfl]
  rfl
theorem rsum_reg (sb : Nat) (i : Cd.Ins) (s : Cp.St) (w : World) (hS : StAt w sb s) (hs : Cp.Rng s) (hi : Cd.Ok i) (h0 : s.R 0 = 0) (hop : (1 ≤ i.op ∧ i.op ≤ 6) ∨ (11 ≤ i.op ∧ i.op ≤ 28)) :
    Calls Tryz.prog 88 #[.pointer (some ⟨sb, 0, none⟩), .agg (insC i)] w fun e w' => RfOk w w' sb (Cp.sum i s) e := by
  obtain ⟨op, S, T, D, imm⟩ := i
  have hS5 : 0 ≤ S ∧ S < 32 := hi.S
  have hT5 : 0 ≤ T ∧ T < 32 := hi.T
  have hD5 : 0 ≤ D ∧ D < 32 := hi.D
  have him : 0 ≤ imm ∧ imm < 4294967296 := by have := hi.imm; simp only at this; omega
  have ha : 0 ≤ s.R S.toNat ∧ s.R S.toNat < 4294967296 := hs.R _ (by omega)
  have hb : 0 ≤ s.R T.toNat ∧ s.R T.toNat < 4294967296 := hs.R _ (by omega)
  have h : op = 1 ∨ op = 2 ∨ op = 3 ∨ op = 4 ∨ op = 5 ∨ op = 6 ∨ op = 11 ∨ op = 12 ∨ op = 13 ∨ op = 14 ∨ op = 15 ∨ op = 16 ∨ op = 17 ∨ op = 18 ∨ op = 19 ∨ op = 20 ∨ op = 21 ∨ op = 22 ∨ op = 23 ∨ op = 24 ∨ op = 25 ∨ op = 26 ∨ op = 27 ∨ op = 28 := by simp only at hop; omega
  rcases h with rfl | rfl | rfl | rfl | rfl | rfl | rfl | rfl | rfl | rfl | rfl | rfl | rfl | rfl | rfl | rfl | rfl | rfl | rfl | rfl | rfl | rfl | rfl | rfl
  · exact rsum_1 sb S T D imm s w hS hS5 hT5 hD5 him _ _ ha hb rfl rfl h0 _ (Lib.hid rfl)
  · exact rsum_2 sb S T D imm s w hS hS5 hT5 hD5 him _ _ ha hb rfl rfl h0 _ (Lib.hid rfl)
  · exact rsum_3 sb S T D imm s w hS hS5 hT5 hD5 him _ _ ha hb rfl rfl h0 _ (Lib.hid rfl)
  · exact rsum_4 sb S T D imm s w hS hS5 hT5 hD5 him _ _ ha hb rfl rfl h0 _ (Lib.hid rfl)
  · exact rsum_5 sb S T D imm s w hS hS5 hT5 hD5 him _ _ ha hb rfl rfl h0 _ (Lib.hid rfl)
  · exact rsum_6 sb S T D imm s w hS hS5 hT5 hD5 him _ _ ha hb rfl rfl h0 _ (Lib.hid rfl)
  · exact rsum_11 sb S T D imm s w hS hS5 hT5 hD5 him _ _ ha hb rfl rfl h0 _ (Lib.hid rfl)
  · exact rsum_12 sb S T D imm s w hS hS5 hT5 hD5 him _ _ ha hb rfl rfl h0
  · exact rsum_13 sb S T D imm s w hS hS5 hT5 hD5 him _ _ ha hb rfl rfl h0 _ (Lib.hid rfl)
  · exact rsum_14 sb S T D imm s w hS hS5 hT5 hD5 him _ _ ha hb rfl rfl h0
  · exact rsum_15 sb S T D imm s w hS hS5 hT5 hD5 him _ _ ha hb rfl rfl h0
  · exact rsum_16 sb S T D imm s w hS hS5 hT5 hD5 him _ _ ha hb rfl rfl h0
  · by_cases hz : s.R T.toNat = 0
    · rw [show Cp.sum ⟨17, S, T, D, imm⟩ s = (-1, s) by unfold Cp.sum Cp.sumAt; simp [hz]]
      exact rsum_17b sb S T D imm s w hS hS5 hT5 hD5 him _ _ ha hb rfl rfl h0 hz
    · rw [show Cp.sum ⟨17, S, T, D, imm⟩ s = (-1, { s with lo := Wd.quo (s.R S.toNat) (s.R T.toNat) true, hi := Wd.rst (s.R S.toNat) (s.R T.toNat) true }) by unfold Cp.sum Cp.sumAt; simp [hz]]
      exact rsum_17 sb S T D imm s w hS hS5 hT5 hD5 him _ _ ha hb rfl rfl h0 hz
  · by_cases hz : s.R T.toNat = 0
    · rw [show Cp.sum ⟨18, S, T, D, imm⟩ s = (-1, s) by unfold Cp.sum Cp.sumAt; simp [hz]]
      exact rsum_18b sb S T D imm s w hS hS5 hT5 hD5 him _ _ ha hb rfl rfl h0 hz
    · rw [show Cp.sum ⟨18, S, T, D, imm⟩ s = (-1, { s with lo := Wd.quo (s.R S.toNat) (s.R T.toNat) false, hi := Wd.rst (s.R S.toNat) (s.R T.toNat) false }) by unfold Cp.sum Cp.sumAt; simp [hz]]
      exact rsum_18 sb S T D imm s w hS hS5 hT5 hD5 him _ _ ha hb rfl rfl h0 hz
  · cases hov : Wd.isS (Wd.sg (s.R S.toNat) + Wd.sg (s.R T.toNat))
    · rw [show Cp.sum ⟨19, S, T, D, imm⟩ s = (12, s) by unfold Cp.sum Cp.sumAt Cp.over; simp [hov]]
      exact rsum_19b sb S T D imm s w hS hS5 hT5 hD5 him _ _ ha hb rfl rfl h0 hov
    · rw [show Cp.sum ⟨19, S, T, D, imm⟩ s = (-1, Cp.setR s D (Cp.sumV 19 (s.R S.toNat) (s.R T.toNat) imm)) by unfold Cp.sum Cp.sumAt Cp.over; simp [hov]]
      exact rsum_19 sb S T D imm s w hS hS5 hT5 hD5 him _ _ ha hb rfl rfl h0 _ (Lib.hid rfl) hov
  · exact rsum_20 sb S T D imm s w hS hS5 hT5 hD5 him _ _ ha hb rfl rfl h0 _ (Lib.hid rfl)
  · cases hov : Wd.isS (Wd.sg (s.R S.toNat) - Wd.sg (s.R T.toNat))
    · rw [show Cp.sum ⟨21, S, T, D, imm⟩ s = (12, s) by unfold Cp.sum Cp.sumAt Cp.over; simp [hov]]
      exact rsum_21b sb S T D imm s w hS hS5 hT5 hD5 him _ _ ha hb rfl rfl h0 hov
    · rw [show Cp.sum ⟨21, S, T, D, imm⟩ s = (-1, Cp.setR s D (Cp.sumV 21 (s.R S.toNat) (s.R T.toNat) imm)) by unfold Cp.sum Cp.sumAt Cp.over; simp [hov]]
      exact rsum_21 sb S T D imm s w hS hS5 hT5 hD5 him _ _ ha hb rfl rfl h0 _ (Lib.hid rfl) hov
  · exact rsum_22 sb S T D imm s w hS hS5 hT5 hD5 him _ _ ha hb rfl rfl h0 _ (Lib.hid rfl)
  · exact rsum_23 sb S T D imm s w hS hS5 hT5 hD5 him _ _ ha hb rfl rfl h0 _ (Lib.hid rfl)
  · exact rsum_24 sb S T D imm s w hS hS5 hT5 hD5 him _ _ ha hb rfl rfl h0 _ (Lib.hid rfl)
  · exact rsum_25 sb S T D imm s w hS hS5 hT5 hD5 him _ _ ha hb rfl rfl h0 _ (Lib.hid rfl)
  · exact rsum_26 sb S T D imm s w hS hS5 hT5 hD5 him _ _ ha hb rfl rfl h0 _ (Lib.hid rfl)
  · exact rsum_27 sb S T D imm s w hS hS5 hT5 hD5 him _ _ ha hb rfl rfl h0 _ (Lib.hid rfl)
  · exact rsum_28 sb S T D imm s w hS hS5 hT5 hD5 him _ _ ha hb rfl rfl h0 _ (Lib.hid rfl)
theorem rsum_imm (sb : Nat) (i : Cd.Ins) (s : Cp.St) (w : World) (hS : StAt w sb s) (hs : Cp.Rng s) (hi : Cd.Ok i) (h0 : s.R 0 = 0) (hop : 35 ≤ i.op ∧ i.op ≤ 42) :
    Calls Tryz.prog 88 #[.pointer (some ⟨sb, 0, none⟩), .agg (insC i)] w fun e w' => RfOk w w' sb (Cp.atOnce i s) e := by
  obtain ⟨op, S, T, D, imm⟩ := i
  have hS5 : 0 ≤ S ∧ S < 32 := hi.S
  have hT5 : 0 ≤ T ∧ T < 32 := hi.T
  have hD5 : 0 ≤ D ∧ D < 32 := hi.D
  have him : 0 ≤ imm ∧ imm < 4294967296 := by have := hi.imm; simp only at this; omega
  have ha : 0 ≤ s.R S.toNat ∧ s.R S.toNat < 4294967296 := hs.R _ (by omega)
  have hb : 0 ≤ s.R T.toNat ∧ s.R T.toNat < 4294967296 := hs.R _ (by omega)
  have h : op = 35 ∨ op = 36 ∨ op = 37 ∨ op = 38 ∨ op = 39 ∨ op = 40 ∨ op = 41 ∨ op = 42 := by simp only at hop; omega
  rcases h with rfl | rfl | rfl | rfl | rfl | rfl | rfl | rfl
  · cases hov : Wd.isS (Wd.sg (s.R S.toNat) + Wd.sg (Cp.immS ⟨35, S, T, D, imm⟩))
    · rw [show Cp.atOnce ⟨35, S, T, D, imm⟩ s = (12, s) from if_pos ⟨rfl, hov⟩]
      exact rsum_35b sb S T D imm s w hS hS5 hT5 hD5 him _ _ ha hb rfl rfl h0 hov
    · rw [show Cp.atOnce ⟨35, S, T, D, imm⟩ s = (-1, Cp.setR s T (Cp.atV 35 (s.R S.toNat) (Cp.immS ⟨35, S, T, D, imm⟩) imm)) from if_neg (by rw [hov]; simp)]
      exact rsum_35 sb S T D imm s w hS hS5 hT5 hD5 him _ _ ha hb rfl rfl h0 _ (Lib.hid rfl) hov
  · rw [show Cp.atOnce ⟨36, S, T, D, imm⟩ s = (-1, Cp.setR s T (Cp.atV 36 (s.R S.toNat) (Cp.immS ⟨36, S, T, D, imm⟩) imm)) from if_neg (by simp)]
    exact rsum_36 sb S T D imm s w hS hS5 hT5 hD5 him _ _ ha hb rfl rfl h0 _ (Lib.hid rfl)
  · rw [show Cp.atOnce ⟨37, S, T, D, imm⟩ s = (-1, Cp.setR s T (Cp.atV 37 (s.R S.toNat) (Cp.immS ⟨37, S, T, D, imm⟩) imm)) from if_neg (by simp)]
    exact rsum_37 sb S T D imm s w hS hS5 hT5 hD5 him _ _ ha hb rfl rfl h0 _ (Lib.hid rfl)
  · rw [show Cp.atOnce ⟨38, S, T, D, imm⟩ s = (-1, Cp.setR s T (Cp.atV 38 (s.R S.toNat) (Cp.immS ⟨38, S, T, D, imm⟩) imm)) from if_neg (by simp)]
    exact rsum_38 sb S T D imm s w hS hS5 hT5 hD5 him _ _ ha hb rfl rfl h0 _ (Lib.hid rfl)
  · rw [show Cp.atOnce ⟨39, S, T, D, imm⟩ s = (-1, Cp.setR s T (Cp.atV 39 (s.R S.toNat) (Cp.immS ⟨39, S, T, D, imm⟩) imm)) from if_neg (by simp)]
    exact rsum_39 sb S T D imm s w hS hS5 hT5 hD5 him _ _ ha hb rfl rfl h0 _ (Lib.hid rfl)
  · rw [show Cp.atOnce ⟨40, S, T, D, imm⟩ s = (-1, Cp.setR s T (Cp.atV 40 (s.R S.toNat) (Cp.immS ⟨40, S, T, D, imm⟩) imm)) from if_neg (by simp)]
    exact rsum_40 sb S T D imm s w hS hS5 hT5 hD5 him _ _ ha hb rfl rfl h0 _ (Lib.hid rfl)
  · rw [show Cp.atOnce ⟨41, S, T, D, imm⟩ s = (-1, Cp.setR s T (Cp.atV 41 (s.R S.toNat) (Cp.immS ⟨41, S, T, D, imm⟩) imm)) from if_neg (by simp)]
    exact rsum_41 sb S T D imm s w hS hS5 hT5 hD5 him _ _ ha hb rfl rfl h0 _ (Lib.hid rfl)
  · rw [show Cp.atOnce ⟨42, S, T, D, imm⟩ s = (-1, Cp.setR s T (Cp.atV 42 (s.R S.toNat) (Cp.immS ⟨42, S, T, D, imm⟩) imm)) from if_neg (by simp)]
    exact rsum_42 sb S T D imm s w hS hS5 hT5 hD5 him _ _ ha hb rfl rfl h0 _ (Lib.hid (lui_eq imm))
end Go.Proofs.YtlbdkcnbgdmpaaaGreatDoor

/- Rload -/
/- The reference's processor: the walk of load. -/
namespace Go.Proofs.YtlbdkcnbgdmpaaaGreatDoor
open Go.RowKit Go.Deep
set_option linter.unusedVariables false

/-- what a load or a store of the reference leaves -/
structure RmOk (w w' : World) (sb b : Nat) (O : Nat → Prop) (r : Int × Cp.St × Sb) (e : Ending) : Prop where
  e : e = .returned (.int .i64 r.1)
  st : ∃ s', StAt w' sb s' ∧ Cp.Ends (r.1, r.2.1) s'
  k : ∃ O', RInv b O' w' r.2.2 ∧ Grew O O' w ∧ Keeps (fun k => k = sb ∨ O k) w w'
theorem Grew.low {O O' : Nat → Prop} {w wc : World} (h : Grew O O' wc) (hs : w.heap.size ≤ wc.heap.size) : Grew O O' w := fun k hk => by
  rcases h k hk with h | h
  · exact .inl h
  · exact .inr (Nat.le_trans hs h)
theorem immOf_k (i : Cd.Ins) (n : Int) (w : World) (hi : 0 ≤ i.imm ∧ i.imm < 4294967296) (hn : Cp.immS i = n) :
    Calls Tryz.prog 94 #[.agg #[.int .i64 i.op, .int .i64 i.S, .int .i64 i.T, .int .i64 i.D, .int .u32 i.imm]] w fun e w' => e = .returned (.int .u32 n) ∧ Keeps (fun _ => False) w w' := by
  subst hn
  exact immOf_any i w hi
theorem size_wf2 (op : Nat) : (Lit.int .i64 (Cp.size op)).wf = true := by
  unfold Cp.size
  split <;> decide
theorem size_rng (op : Nat) : 1 ≤ Cp.size op ∧ Cp.size op ≤ 4 := by
  unfold Cp.size
  split <;> decide
set_option maxRecDepth 100000 in
set_option maxHeartbeats 3000000 in
theorem rload_any (sb b : Nat) (O : Nat → Prop) (i : Cd.Ins) (s : Cp.St) (B : Sb) (w : World) (hS : StAt w sb s) (hB : RInv b O w B) (hs : Cp.Rng s) (hi : Cd.Ok i) (hop : 46 ≤ i.op ∧ i.op ≤ 50) (hn : B.tn < 1000000)
    (hOs : ¬ O sb) (h0 : s.R 0 = 0) (r : Int × Cp.St × Sb) (hr : Hid (r = Cp.load i s B)) :
    Calls Tryz.prog 85 #[.pointer (some ⟨sb, 0, none⟩), .pointer (some ⟨b, 0, none⟩), .agg (insC i)] w fun e w' => RmOk w w' sb b O r e := by
  obtain ⟨op, S, T, D, imm⟩ := i
  have hS5 : 0 ≤ S ∧ S < 32 := hi.S
  have hT5 : 0 ≤ T ∧ T < 32 := hi.T
  obtain ⟨S, rfl⟩ := Int.eq_ofNat_of_zero_le hS5.1
  obtain ⟨T, rfl⟩ := Int.eq_ofNat_of_zero_le hT5.1
  have him : 0 ≤ imm ∧ imm < 4294967296 := by have := hi.imm; simp only at this; omega
  have ha : 0 ≤ s.R S ∧ s.R S < 4294967296 := hs.R _ (by omega)
  have hop2 : 46 ≤ op ∧ op ≤ 53 := by simp only at hop; omega
  have hW := wide_rng imm
  have HW : Hid (Cp.immS ⟨op, S, T, D, imm⟩ = Wd.wide imm 16 true) := Lib.hid rfl
  have HR : Hid (r = Cp.load ⟨op, S, T, D, imm⟩ s B) := hr
  have HADR : Hid (Cp.addr ⟨op, S, T, D, imm⟩ s = Cp.u (s.R S + Wd.wide imm 16 true)) := Lib.hid rfl
  have HO := Lib.hid (ref_open hS ⟨op, S, T, D, imm⟩)
  have HB := Lib.hid hB
  have hOx : ¬ O w.heap.size := fun h => Nat.lt_irrefl _ (hB.lt _ h)
  have HG := Lib.hid hs
  have HZ := Lib.hid h0
  have hcw : (Lit.int .i64 s.count).wf = true := WalkArith.wf_i64 (by have := hs.count; omega)
  have HCW := Lib.hid hcw
  clear hi hs hr hS hB hop h0 hcw
  generalize hav : s.R S = a at *
  generalize hnv : Wd.wide imm 16 true = n at *
  have HAV := Lib.hid hav
  have HNV := Lib.hid (HW.out.trans (by rfl : n = n))
  clear hav hnv HW
  unfold insC
  go_enter Tryz.func85, Tryz.ntmps85
  go_upto_region 1 with fail
  obtain ⟨hS1, hI1, hk1⟩ := HO.out
  simp only at hS1 hI1 hk1
  generalize w.alloc _ = w1 at *
  generalize w.heap.size = x at *
  have HS1 := Lib.hid hS1
  have HI1 := Lib.hid hI1
  have HK1 := Lib.hid hk1
  obtain ⟨i0, i1, i2, i3, i4⟩ := hI1.cells
  simp only at i0 i1 i2 i3 i4
  have rS := hS1.reg S (by omega)
  rw [HAV.out] at rS
  have hS6 : (S : Int) < 32 := by omega
  have hT6 : (T : Int) < 32 := by omega
  clear hS1 hI1 hk1 HO
  go_region_held3 (fun w' => Keeps (fun _ => False) w1 w' ∧ w'.cell? ⟨x, 0, none⟩ = some (.int .i64 op) ∧ w'.cell? ⟨x, 1, none⟩ = some (.int .i64 (S : Int)) ∧ w'.cell? ⟨x, 2, none⟩ = some (.int .i64 (T : Int)) ∧ w'.cell? ⟨x, 3, none⟩ = some (.int .i64 D) ∧ w'.cell? ⟨x, 4, none⟩ = some (.int .u32 imm) ∧ w'.cell? ⟨sb, S, none⟩ = some (.int .u32 a))
    (first | (refine ⟨?_, ?_, ?_, ?_, ?_, ?_, ?_⟩ <;> first | ((repeat (first | exact Keeps.refl _ _ | assumption | apply Keeps.drew | apply Keeps.drewN | apply Keeps.alloc | (refine Keeps.trans ?_ (by assumption) (fun _ _ h => h)))); done) | (refine Keeps.cell' (S := fun _ => False) (w := w1) ?_ (by assumption) (fun f => f); (repeat (first | exact Keeps.refl _ _ | assumption | apply Keeps.drew | apply Keeps.drewN | apply Keeps.alloc | (refine Keeps.trans ?_ (by assumption) (fun _ _ h => h)))); done)) | (trace_state; fail))
    (first
      | (go_at_call 94; refine (immOf_k ⟨op, S, T, D, imm⟩ n _ him HNV.out).mono ?_; rintro e w4 ⟨rfl, hk4⟩)
      | (go_at_call 43; refine (plus_any a n _ ha hW).mono ?_; rintro e w' ⟨rfl, rfl⟩))
  rename_i hh
  obtain ⟨hk4, i0', i1', i2', i3', i4', rS'⟩ := hh
  have hS4 := HS1.out.keep hk4 (fun h => h)
  have hK4 := HK1.out.trans hk4 (fun _ _ h => h.elim)
  have HB4 := Lib.hid (HB.out.keep hK4 (fun k hk e => hOs (e ▸ hk)))
  clear i0 i1 i2 i3 i4 rS HS1 HI1 HK1 hk4 i1' i3' i4' rS'
  have HS4 := Lib.hid hS4
  have HK4 := Lib.hid (hK4.mono (T := fun k => k = sb ∨ O k) (fun _ _ h => .inl h))
  have s42 := hS4.cells.2.2.2.2.2.2.2.2.2.2
  clear hS4 hK4
  have hu : Cp.W (Cp.u (a + n)) := Cp.W_u _
  have hsw := size_wf2 op
  have HSZ := Lib.hid (fun w => sizeOf_any op hop2 w)
  have HLD0 := Lib.hid (show r = if stC (Cp.u (a + n)) (Cp.size op) ≠ 0 then (4, { s with bad := Cp.u (a + n) }, B) else (-1, Cp.setR s T (ldV (Cp.u (a + n)) (Cp.size op) s.count (Cp.isSg op) B), stepL (Cp.u (a + n)) (Cp.size op) s.count B) by
    rw [HR.out, Cp.load, HADR.out])
  have hsr := size_rng op
  generalize Cp.u (a + n) = ad at *
  generalize Cp.size op = sz at *
  generalize Cp.isSg op = sgn at *
  have HWF := Lib.hid hsw
  clear hsw HR HADR HNV
  have hld := fun w4' (h : RInv b O w4' B) => ref_load b O B ad sz s.count sgn w4' h hn hu HWF.out HCW.out
  generalize ldV ad sz s.count sgn B = y at *
  generalize hec : stC ad sz = ec at *
  have HLDC := Lib.hid (hld w4 HB4.out)
  have HEC := Lib.hid hec
  have HLIVE := Lib.hid HS4.out.lt
  clear hld hec
  cases sgn
  all_goals
    simp only [if_true, if_false, Bool.false_eq_true] at HSZ
    go_wp2_with fail
    refine (HSZ.out _).mono ?_
    rintro e w' ⟨rfl, rfl⟩
    go_upto_region 6 with fail
    first | rw [show decide (sz < 0) = false from decide_eq_false (by omega)] | rw [show decide (0 < sz) = true from decide_eq_true (by omega)]
    go_wp2_with fail
    refine HLDC.out.mono ?_
    rintro e w5 ⟨rfl, O', hB5, hk5, hg5⟩
    have hS5' := HS4.out.keep hk5 hOs
    have i2 := hk5.cell' i2' hOx
    have s40 := hS5'.cells.2.2.2.2.2.2.2.2.1
    have f40 := hS5'.frozen 40
    have fT := hS5'.frozen T
    have rT := hS5'.reg T (by omega)
    have HSET := Lib.hid (hS5'.set 8 (.int .u32 ad) (s' := { s with bad := ad }) rfl rfl)
    have hO' : ¬ O' sb := fun h => by
      rcases hg5 sb h with h | h
      · exact hOs h
      · have := HS4.out.lt; omega
    have HO' := Lib.hid hO'
    have HB5 := Lib.hid hB5
    have HK5 := Lib.hid (HK4.out.trans hk5 (fun k _ h => .inr h))
    have HG5 := Lib.hid (hg5.low (w := w) HK4.out.size)
    have HS5 := Lib.hid hS5'
    clear hB5 hk5 hg5 hS5' hO' HLDC i2' i0' s42
    by_cases hc : ec = 0
    · subst hc
      have HL := Lib.hid (show r = (-1, Cp.setR s T y, stepL ad sz s.count B) by rw [HLD0.out]; exact if_neg (by decide))
      have HE := Lib.hid (Cp.ends_put (T : Int) y HZ.out (by omega))
      clear HLD0
      go_upto_region 10 with fail
      refine wp_region_still_tail 7 (by kernel_rfl) (by kernel_rfl) ?_
      simp only [List.take_succ_cons, List.take_zero, List.drop_succ_cons, List.drop_zero]
      repeat still_step
      refine wpStill_nil ?_
      change wpList _ _ _ _ _ (World.drew _)
      go_wp2_with fail
      go_ret
      refine ⟨by rw [HL.out]; rfl, ⟨_, StAt.put (s := s) (show StAt _ sb s from HS5.out) T hT5 y, by rw [HL.out]; exact HE.out⟩, O', ?_, HG5.out, (HK5.out.drew).trans (Keeps.one _ _ _ _) (fun _ _ h => .inl h)⟩
      rw [HL.out]
      exact (HB5.out.keep ((Keeps.refl (fun _ => False) w5).drew) (fun _ _ h => h)).keep (Keeps.one _ _ _ _) (fun k hk e => HO'.out (e ▸ hk))
    · have HL := Lib.hid (show r = (4, { s with bad := ad }, B) by rw [HLD0.out]; exact if_pos hc)
      have HST := Lib.hid (show stepL ad sz s.count B = B from if_pos (by rw [HEC.out]; exact hc))
      have hc2 : decide ((0 : Int) < (ec : Int)) = true := decide_eq_true (by omega)
      clear HLD0
      go_wp2_with fail
      go_ret
      refine ⟨by rw [HL.out]; rfl, ⟨_, HSET.out, by rw [HL.out]; exact Cp.ends_bad 4 (by decide)⟩, O', ?_, HG5.out, HK5.out.trans (Keeps.one _ _ _ _) (fun _ _ h => .inl h)⟩
      rw [HL.out, ← HST.out]
      exact HB5.out.keep (Keeps.one _ _ _ _) (fun k hk e => HO'.out (e ▸ hk))
end Go.Proofs.YtlbdkcnbgdmpaaaGreatDoor
