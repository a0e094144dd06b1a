import Derived.Test.YtlbdkcnbgdmpaaaGreatDoorOnez8
import Derived.Test.YtlbdkcnbgdmpaaaGreatDoorOnez23
import Derived.Test.YtlbdkcnbgdmpaaaGreatDoorCards
import Derived.Test.YtlbdkcnbgdmpaaaGreatDoorTie
import Derived.Test.YtlbdkcnbgdmpaaaGreatDoorOnez
import Derived.Stop.Joined
import Derived.LaidSub

/- CpuGoDefs -/
/- So many steps, said plainly. No program in sight. -/
namespace Go.Proofs.YtlbdkcnbgdmpaaaGreatDoor
open Go.RowKit
set_option linter.unusedVariables false
namespace Cp
def go : Nat → St → Sb → St × Sb
  | 0, s, B => (s, B)
  | k + 1, s, B => ((step (go k s B).1 (go k s B).2).2.1, (step (go k s B).1 (go k s B).2).2.2)
theorem go_add (a : Nat) (s : St) (B : Sb) : ∀ c, go (a + c) s B = go c (go a s B).1 (go a s B).2
  | 0 => rfl
  | c + 1 => by
    show ((step (go (a + c) s B).1 (go (a + c) s B).2).2.1, (step (go (a + c) s B).1 (go (a + c) s B).2).2.2) = _
    rw [go_add a s B c]
    rfl
/-- what so many steps keep -/
structure Goes (s : St) (B : Sb) (k : Nat) : Prop where
  rng : Rng (go k s B).1
  count : (go k s B).1.count = s.count + k
  r0 : (go k s B).1.R 0 = s.R 0
  len : (go k s B).2.l.length ≤ B.l.length + k
  tn : (go k s B).2.tn ≤ B.tn + k
theorem goes_0 {s : St} {B : Sb} (h : Rng s) : Goes s B 0 := ⟨h, by show s.count = s.count + ((0 : Nat) : Int); omega, rfl, Nat.le_refl _, Nat.le_refl _⟩
theorem goes_step {s : St} {B : Sb} {k : Nat} (h : Goes s B k) (hB : BRng (go k s B).2) (hc : s.count + k < 4611686018427387903) : Goes s B (k + 1) := by
  obtain ⟨h1, h2, h3, h4, h5⟩ := h
  obtain ⟨g1, g2, g3, g4, g5, g6⟩ := nxt_step (go k s B).1 (go k s B).2 h1 hB (by omega)
  refine ⟨g1, ?_, g3.trans h3, ?_, ?_⟩
  · show (step (go k s B).1 (go k s B).2).2.1.count = _
    rw [g2, h2]
    push_cast
    omega
  · show (step (go k s B).1 (go k s B).2).2.2.l.length ≤ _
    omega
  · show (step (go k s B).1 (go k s B).2).2.2.tn ≤ _
    omega
end Cp
end Go.Proofs.YtlbdkcnbgdmpaaaGreatDoor

/- CpuStepsW -/
/- The walk of the law CpuSteps. -/
namespace Go.Proofs.YtlbdkcnbgdmpaaaGreatDoor
open Go.RowKit Go.Deep
set_option linter.unusedVariables false

set_option maxRecDepth 100000 in
set_option maxHeartbeats 4000000 in
theorem cpuSteps_any (s : Cp.St) (len cap : Nat) (A : Option Addr) (n : Int) (w : World) (ws : Nat → Int) (ea : Nat → Addr) (E : Errs3 w ea) (hs : 0 ≤ s.count → s.count < 4611686018427387904 → Cp.Rng s) (hR : Reads w A len cap (fun i => .int .u32 (ws i))) (hc : cap ≤ 9223372036854775807) (hr : ∀ i, i < len → 0 ≤ ws i ∧ ws i < 4294967296) :
    Calls Tryz.prog 4 #[.agg (stL s).toArray, .slice A len cap, .int .i64 n] w fun e w' => e = .returned (.bool true) ∧ Keeps (fun _ => False) w w' := by
  have HS0 := Lib.hid (show StAt (w.alloc (.cells (stL s).toArray 25 (0, 0))) w.heap.size s from blk_alloc_new w _)
  have HK0 := Lib.hid ((Keeps.refl (fun _ => False) w).alloc (.cells (stL s).toArray 25 (0, 0)))
  have HE := Lib.hid (E.keep HK0.out ⟨fun h => h, fun h => h, fun h => h⟩)
  have HE0 := Lib.hid E
  have HR := Lib.hid hR
  have HX := Lib.hid hr
  have hlen : len ≤ cap := hR.1
  clear E hR hr
  by_cases g1 : (300 : Int) < len
  · go_enter Tryz.func4, Tryz.ntmps4
    go_wp2_with fail
    refine (stepped_any _ ea HE.out).mono ?_
    rintro e w1 ⟨rfl, hk1⟩
    go_wp2_with fail
    go_ret
    exact ⟨rfl, HK0.out.trans hk1 (fun _ _ h => h)⟩
  by_cases g2 : n < 0
  · go_enter Tryz.func4, Tryz.ntmps4
    go_wp2_with fail
    refine (stepped_any _ ea HE.out).mono ?_
    rintro e w1 ⟨rfl, hk1⟩
    go_wp2_with fail
    go_ret
    exact ⟨rfl, HK0.out.trans hk1 (fun _ _ h => h)⟩
  by_cases g3 : 60 < n
  · go_enter Tryz.func4, Tryz.ntmps4
    go_wp2_with fail
    refine (stepped_any _ ea HE.out).mono ?_
    rintro e w1 ⟨rfl, hk1⟩
    go_wp2_with fail
    go_ret
    exact ⟨rfl, HK0.out.trans hk1 (fun _ _ h => h)⟩
  by_cases h1 : s.count < 0
  · go_enter Tryz.func4, Tryz.ntmps4
    go_wp2_with fail
    refine (stepped_any _ ea HE.out).mono ?_
    rintro e w1 ⟨rfl, hk1⟩
    have c42 := (HS0.out.keep hk1 (fun h => h)).cells.2.2.2.2.2.2.2.2.2.2
    go_wp2_with fail
    go_ret
    exact ⟨rfl, HK0.out.trans hk1 (fun _ _ h => h)⟩
  by_cases h2 : 1099511627776 < s.count
  · go_enter Tryz.func4, Tryz.ntmps4
    go_wp2_with fail
    refine (stepped_any _ ea HE.out).mono ?_
    rintro e w1 ⟨rfl, hk1⟩
    have c42 := (HS0.out.keep hk1 (fun h => h)).cells.2.2.2.2.2.2.2.2.2.2
    go_wp2_with fail
    go_ret
    exact ⟨rfl, HK0.out.trans hk1 (fun _ _ h => h)⟩
  obtain ⟨n, rfl⟩ := Int.eq_ofNat_of_zero_le (show 0 ≤ n by omega)
  have HN := Lib.hid (show n ≤ 60 by omega)
  have HG := Lib.hid (rngR s (hs (by omega) (by omega)))
  have HC := Lib.hid (show 0 ≤ s.count ∧ s.count ≤ 1099511627776 by omega)
  have t1 : decide (s.count < 0) = false := decide_eq_false h1
  have t2 : decide (1099511627776 < s.count) = false := decide_eq_false h2
  have u1 : decide ((300 : Int) < (len : Int)) = false := decide_eq_false g1
  have u2 : decide ((n : Int) < 0) = false := decide_eq_false g2
  have u3 : decide (60 < (n : Int)) = false := decide_eq_false g3
  clear h1 h2 g1 g2 g3
  clear hs
  obtain ⟨sb, hsb⟩ : ∃ sb, w.heap.size = sb := ⟨_, rfl⟩
  have HSB := Lib.hid hsb
  rw [hsb] at HS0
  go_enter Tryz.func4, Tryz.ntmps4
  go_wp2_with fail
  refine (stepped_any _ ea HE.out).mono ?_
  rintro e w1 ⟨rfl, hk1⟩
  have HS1 := Lib.hid (HS0.out.keep hk1 (fun h => h))
  have HK1 := Lib.hid (HK0.out.trans hk1 (fun _ _ h => h))
  clear HS0 HK0 HE hk1 hsb
  have c0 := HS1.out.reg 0 (by omega)
  obtain ⟨left, left_1, left_6, left_7, left_8, left_9, left_2, left_3, left_4, left_5, c42⟩ := HS1.out.cells
  have f0 := HS1.out.frozen 0
  clear left left_1 left_2 left_3 left_4 left_5 left_6 left_7 left_8 left_9
  have HS4 := Lib.hid (show StAt (w1.setCell ⟨sb, 0, none⟩ (.int .u32 0)) sb (stR s) from HS1.out.setReg 0 (by omega) 0)
  have HK4 := Lib.hid (Keeps.one w1 sb 0 (.int .u32 0))
  have HE4 := Lib.hid (fun (w' : World) (k : Keeps (fun _ => False) w w') => HE0.out.keep k ⟨fun h => h, fun h => h, fun h => h⟩)
  have HKW4 := Lib.hid (show Keeps (fun _ => False) w (w1.setCell ⟨sb, 0, none⟩ (.int .u32 0)) from HK1.out.trans HK4.out (fun j hj e => by have := HSB.out; omega))
  clear HE0 HK1 HK4 HS1
  have HR0 := Lib.hid (show (stR s).R 0 = 0 ∧ (stR s).count = s.count from ⟨rfl, rfl⟩)
  go_upto_region 5 with fail
  clear t1 t2 u1 u2 u3 c0 c42 f0
  generalize (w1.setCell ⟨sb, 0, none⟩ (.int .u32 0)) = w4 at *
  go_wp2_with (first
    | (with_reducible refine wpList_load_st rfl _ rfl sb (stR s) HS4.out rfl ?_)
    | (with_reducible refine wpList_store_st rfl _ _ rfl _ _ (stR s) (blk_alloc_new _ _) (by simp) rfl rfl ?_))
  intro w5 hS5 hk5
  have hk5' := ((Keeps.refl (fun _ => False) w4).alloc _).trans hk5 (fun j hj e => absurd (show j = w4.heap.size from e) (Nat.ne_of_lt hj))
  have HX5 := Lib.hid hS5
  have HS5 := Lib.hid (HS4.out.keep hk5' (fun h => h))
  have HK5 := Lib.hid (HKW4.out.trans hk5' (fun _ _ h => h))
  have HXS := Lib.hid (show w.heap.size ≤ w4.heap.size ∧ w4.heap.size ≠ sb from ⟨HKW4.out.size, fun h => by have := HS4.out.lt; omega⟩)
  clear hS5 hk5 hk5' HS4 HKW4
  generalize w4.heap.size = x at *
  go_wp2_with (first
    | (with_reducible refine wpList_load_st rfl _ rfl sb (stR s) HS5.out rfl ?_)
    | (with_reducible refine wpList_store_st rfl _ _ rfl _ _ (stR s) (blk_alloc_new _ _) (by simp) rfl rfl ?_))
  intro w6 hS6 hk6
  have hk6' := ((Keeps.refl (fun _ => False) w5).alloc _).trans hk6 (fun j hj e => absurd (show j = w5.heap.size from e) (Nat.ne_of_lt hj))
  have HY6 := Lib.hid hS6
  have HX6 := Lib.hid (HX5.out.keep hk6' (fun h => h))
  have HS6 := Lib.hid (HS5.out.keep hk6' (fun h => h))
  have HK6 := Lib.hid (HK5.out.trans hk6' (fun _ _ h => h))
  have HYS := Lib.hid (show w.heap.size ≤ w5.heap.size ∧ w5.heap.size ≠ sb ∧ w5.heap.size ≠ x from ⟨HK5.out.size, fun h => by have := HS5.out.lt; omega, fun h => by have := HX5.out.lt; omega⟩)
  clear hS6 hk6 hk6' HS5 HX5 HK5
  generalize w5.heap.size = y at *
  generalize stR s = S at *
  go_wp2_with fail
  refine (bus_new len cap A _ ws (HR.out.keep HK6.out (fun _ _ _ h => h)) hc HX.out).mono ?_
  rintro e w7 ⟨b, O, rfl, hB, hk7, hO⟩
  have HB7 := Lib.hid hB
  have HO := Lib.hid (show ∀ j, O j → w.heap.size ≤ j ∧ j ≠ sb ∧ j ≠ x ∧ j ≠ y from fun j h => by
    have h1 := hO j h
    have h2 := HK6.out.size
    have h3 := HS6.out.lt
    have h4 := HX6.out.lt
    have h5 := HY6.out.lt
    exact ⟨by omega, by omega, by omega, by omega⟩)
  have HS7 := Lib.hid (HS6.out.keep hk7 (fun h => h))
  have HX7 := Lib.hid (HX6.out.keep hk7 (fun h => h))
  have HY7 := Lib.hid (HY6.out.keep hk7 (fun h => h))
  have HK7 := Lib.hid (HK6.out.trans hk7 (fun _ _ h => h))
  clear hB hk7 hO HS6 HX6 HY6 HK6
  go_wp2_with fail
  refine (ref_new len cap A _ ws (HR.out.keep HK7.out (fun _ _ _ h => h)) hc HX.out).mono ?_
  rintro e w8 ⟨rb, O2, rfl, hRf, hk8, hO2⟩
  have HS8 := Lib.hid (HS7.out.keep hk8 (fun h => h))
  have HJ := Lib.hid (show Duo w w8 x y b rb O O2 S (s0 (min len 4096) ws) from ⟨HX7.out.keep hk8 (fun h => h), HY7.out.keep hk8 (fun h => h), HB7.out.keep hk8 (fun _ _ h => h), hRf,
    fun k hk h2 => by
      have h6 : ∀ k, O2 k → w7.heap.size ≤ k := hO2
      rcases hk with rfl | hk
      · rcases h2 with h2 | h2
        · exact HYS.out.2.2 h2.symm
        · have := h6 _ h2; have := HX7.out.lt; omega
      · rcases h2 with rfl | h2
        · exact (HO.out _ hk).2.2.2 rfl
        · have := h6 _ h2; have := HB7.out.lt _ hk; omega,
    fun h => (HO.out _ h).2.2.1 rfl, fun h => by have := hO2 _ h; have := HY7.out.lt; omega,
    fun k hk => by
      rcases hk with (rfl | hk) | (rfl | hk)
      · exact HXS.out.1
      · exact (HO.out k hk).1
      · exact HYS.out.1
      · have := hO2 k hk; have := HK7.out.size; omega,
    HK7.out.trans hk8 (fun _ _ h => h)⟩)
  clear hRf hk8 hO2 HB7 HS7 HX7 HY7 HK7 HO HXS HYS
  have HB0 := Lib.hid (show (s0 (min len 4096) ws).l.length = 0 ∧ (s0 (min len 4096) ws).tn = 0 from ⟨rfl, rfl⟩)
  generalize s0 (min len 4096) ws = B at *
  go_wp2_with fail
  refine (step_nil0 _ _).mono ?_
  rintro e w' ⟨rfl, rfl⟩
  go_wp2_with fail
  refine (step_nil1 _ _).mono ?_
  rintro e w' ⟨rfl, rfl⟩
  go_wp2_with (first
    | (with_reducible refine wpList_load_stG _ rfl (by go_simp) x S HJ.out.sx rfl ?_)
    | (with_reducible refine wpList_load_stG _ rfl (by go_simp) sb S HS8.out rfl ?_)
    | (with_reducible refine wpList_neq_stG _ _ _ rfl (by go_simp) S HG.out rfl rfl ?_))
  clear HS8
  have HST := Lib.hid (show ∃ O O2, Duo w w8 x y b rb O O2 (Cp.go 0 S B).1 (Cp.go 0 S B).2 ∧ Cp.Goes S B 0 from ⟨O, O2, HJ.out, Cp.goes_0 HG.out⟩)
  clear HJ
  have hn60 : n ≤ 60 := HN.out
  go_loopw [12] (fun s12 wr => ∃ (k : Nat), k ≤ n ∧ s12 = .int .i64 k ∧ ∃ O O2, Duo w wr x y b rb O O2 (Cp.go k S B).1 (Cp.go k S B).2 ∧ Cp.Goes S B k) (fun s12 _ => n - (intOf s12).toNat)
  case atStart => exact ⟨0, by omega, rfl, HST.out⟩
  case round =>
    clear HST
    obtain ⟨k, hk, rfl, O1, O2, hJ, hGo⟩ := hrel
    have HJ := Lib.hid hJ
    have HGo := Lib.hid hGo
    clear hJ hGo
    by_cases hlt : k < n
    · have g0 := HGo.out
      have hB0 := HB0.out
      have hN := HN.out
      have hC := HC.out
      have hr := HR0.out
      have HST := Lib.hid (step_all x b O1 _ _ wr ea (HE4.out wr HJ.out.keeps) HJ.out.sx HJ.out.bus g0.rng (by have := g0.len; omega) (by have := g0.tn; omega) HJ.out.nx HJ.out.sx.lt)
      have HRS := Lib.hid (fun (w' : World) (hy : StAt w' y (Cp.go k S B).1) (hb : RInv rb O2 w' (Cp.go k S B).2) => rstep_all y rb O2 _ _ w' hy hb g0.rng (by have := g0.len; omega) (by have := g0.tn; omega) HJ.out.ny (by rw [g0.r0]; exact hr.1))
      have HG2 := Lib.hid (Cp.goes_step g0 HJ.out.bus.brng (by have := hr.2; omega))
      clear g0 hB0 hN hC hr
      go_wp2_with fail
      refine HST.out.mono ?_
      intro e w13 h13
      obtain ⟨O1', hJ1⟩ := HJ.out.one h13
      have he := h13.e
      subst he
      clear h13 HST
      have HJ1 := Lib.hid hJ1
      clear hJ1
      go_wp2_with fail
      refine (HRS.out w13 HJ1.out.sy HJ1.out.ref).mono ?_
      intro e w14 h14
      obtain ⟨O2', hJ2⟩ := HJ1.out.two h14
      have he := h14.e
      subst he
      clear h14 HRS HJ1 HJ
      have HJ2 := Lib.hid (show Duo w w14 x y b rb O1' O2' (Cp.go (k + 1) S B).1 (Cp.go (k + 1) S B).2 from hJ2)
      clear hJ2
      generalize (Cp.step (Cp.go k S B).1 (Cp.go k S B).2).1 = e0 at *
      have HS2 := Lib.hid HG2.out.rng
      have HD2 := Lib.hid (show StAt w14 x (Cp.go (k + 1) S B).1 ∧ StAt w14 y (Cp.go (k + 1) S B).1 from ⟨HJ2.out.sx, HJ2.out.sy⟩)
      have HEND := Lib.hid (show ∃ O O2, Duo w w14 x y b rb O O2 (Cp.go (k + 1) S B).1 (Cp.go (k + 1) S B).2 ∧ Cp.Goes S B (k + 1) from ⟨O1', O2', HJ2.out, HG2.out⟩)
      clear HJ2 HG2 HGo
      generalize (Cp.go (k + 1) S B).1 = S2 at HS2 HD2
      go_wp2_with (first
        | (with_reducible refine wpList_load_stG _ rfl (by go_simp) x S2 HD2.out.1 rfl ?_)
        | (with_reducible refine wpList_load_stG _ rfl (by go_simp) y S2 HD2.out.2 rfl ?_)
        | (with_reducible refine wpList_neq_stG _ _ _ rfl (by go_simp) S2 HS2.out rfl rfl ?_))
      go_roundw
      case rel => exact ⟨k + 1, by omega, by go_num, HEND.out⟩
      case measure => simp [intOf]; omega
    · obtain rfl : k = n := by omega
      have HTN := Lib.hid (show (Cp.go k S B).2.tn < 1000000 by have := HGo.out.tn; have := HB0.out; have := HN.out; omega)
      go_wp2_with fail
      refine (asBus_any b rb O1 O2 _ _ HJ.out.bus HJ.out.ref HTN.out).mono ?_
      rintro e w15 ⟨rfl, hk15⟩
      go_wp2_with fail
      go_ret
      exact ⟨rfl, HJ.out.keeps.trans hk15 (fun _ _ h => h)⟩
end Go.Proofs.YtlbdkcnbgdmpaaaGreatDoor

/- CpuStepsLaw -/
/-
  CpuSteps: for every input the law returns true, and each argument reads behind the call as it read before. Condition: the listed variables hold what the program's text lays in them (the card ties that to the text).
-/
namespace Go.Proofs.YtlbdkcnbgdmpaaaGreatDoor.cpuSteps
open Go.ChangeShapes Go.WideShapes Go.ChangeAt Go.RowKit
set_option linter.unusedVariables false

theorem door_met (os : Os) (args : Array Value) : laidMetH Tryz.prog Rows.cpuStepsRow.laid ((World.doorLaid Tryz.prog 400 os).forCall (fun _ _ => 0) ⟨#[], args, []⟩).memory :=
  laidMetH_of_parts3 (fuel := 8) (laidMet_of_run' 8 (by kernel_rfl) (by kernel_rfl)) (by kernel_rfl) (by kernel_rfl)

set_option maxRecDepth 100000 in
theorem lifted (os : Os) (started : os.Started) (H : Type) (enc : TypeId × Value → H) :
    ReturnsInHanded {} Tryz.checked os 4 .any (fun w args => (Rows.cpuStepsSpec.pre enc Tryz.prog Tryz.f4 [] false w args ∧ laidMetH Tryz.prog Rows.cpuStepsRow.laid w) ∧ sizedMet enc Tryz.prog Tryz.f4 (OpenSpec.ofChange Rows.cpuStepsSpec) false w args)
      (Rows.cpuStepsSpec.post enc Tryz.prog Tryz.f4 false true false false) := by
  refine returnsInHanded_of_change_and (C := Tryz.checked) (X := fun w _ => laidMetH Tryz.prog Rows.cpuStepsRow.laid w) (fun _ _ _ hh h => h.of_heap hh) Tryz.own started (by kernel_rfl) Tryz.func4
    (ChangeSpec.witness_shaped (enc := enc) (C := Tryz.checked) (os := os) (X := fun w _ => laidMetH Tryz.prog Rows.cpuStepsRow.laid w) false (World.doorLaid Tryz.prog 400 os) #[.agg (stL ⟨fun _ => 0, 0, 0, 0, 0, false, 0, 0, 0, 0, 0, 0⟩).toArray, .slice none 0 0, .int .i64 0] 8 rfl (World.shaped_of_RefB (by kernel_rfl) (by kernel_rfl)) (by kernel_rfl) (by kernel_rfl) (by kernel_rfl) (door_met os _)) ?_
  intro W base args ds gs before hval0 hW _ _ hL _
  have hval : ∀ (j : Nat) t v, Tryz.f4.params[j]? = some t → args[j]? = some v → Value.okWide Tryz.prog W .any base t v := hval0
  have hW' := hW
  obtain ⟨p, q, hA0, hV, rfl, hfz, hnd⟩ := hW
  have hA : DataW.TrodAll enc Tryz.prog W 0 (fun _ => true) true Tryz.f4.params.toList args.toList ds p := hA0
  rw [Tryz.params4] at hA hval
  obtain ⟨v0, vs0, d0, ds0, p0, q0, hargs, rfl, rfl, h0, r0⟩ := trodAll_cons hA
  obtain ⟨v1, vs1, d1, ds1, p1, q1, rfl, rfl, rfl, h1, r1⟩ := trodAll_cons r0
  obtain ⟨v2, vs2, d2, ds2, p2, q2, rfl, rfl, rfl, h2, r2⟩ := trodAll_cons r1
  obtain ⟨rfl, rfl, rfl⟩ := trodAll_nil r2
  obtain rfl : args = #[v0, v1, v2] := by cases args; simp_all
  obtain ⟨rfl, rfl⟩ := trodVars_none hV
  obtain ⟨s0, rfl, hs0⟩ := open_state (hval 0 25 v0 rfl rfl)
  have hlt1 : ∀ x ∈ p1, x.block < W.heap.size := fun x hx => hW'.lt x (by simp [hx])
  obtain ⟨A1, len1, cap1, ws1, rfl, hR1, hcm1, hr1⟩ := open_words Tryz.underlying46 Tryz.underlying22 Tryz.cells_u32 (hval 1 46 v1 rfl rfl) h1 hlt1
  have hc1 : cap1 ≤ 9223372036854775807 := by unfold maxLen at hcm1; omega
  obtain ⟨a2, rfl, rfl, rfl, w2⟩ := open_int Tryz.underlying3 (hval 2 3 v2 rfl rfl) h2
  obtain ⟨ea, E⟩ := errs3 hL
  refine (cpuSteps_any s0 len1 cap1 A1 a2 W ws1 ea E hs0 hR1 hc1 hr1).mono fun e W' ⟨he, hk⟩ => ?_
  subst he
  exact ⟨_, rfl, law_post Tryz.laidOut (fun t ht => by
      rw [Tryz.params4] at ht
      simp at ht
      rcases ht with rfl | rfl | rfl <;> exact ⟨by kernel_rfl, of_decide_eq_true (by kernel_rfl)⟩) (by kernel_rfl) Tryz.underlying4 rfl hW' rfl (hk.below (Nat.le_refl _) (fun _ _ h => h.elim))⟩

theorem said : Rows.CpuStepsSaid :=
  OpenClaim.holds_of_wide 4 Tryz.f4 rfl rfl rfl rfl rfl rfl rfl ⟨rfl, rfl, rfl, rfl, rfl⟩ rfl rfl rfl rfl rfl (by kernel_rfl) Tryz.func4 (by kernel_rfl)
    (of_decide_eq_true (by kernel_rfl)) (by unfold Func.isWrapper; rw [if_neg (of_decide_eq_false (by kernel_rfl))]; exact ⟨rfl, rfl⟩)
    (fun os started H enc _ => lifted os started H enc)

theorem plain (f : FuncId) (fn : Func) (hf : Tryz.pinned.checked.prog.funcNamed "changeling/changelinglaw2.CpuSteps" = some f) (hfn : Tryz.pinned.checked.prog.funcs[f]? = some fn) :
    Rows.cpuStepsCard.stood.looks = Tryz.pinned.checked.prog.looks [] ∧ ∀ (j : Nat) t, fn.params[j]? = some t → Tryz.pinned.checked.prog.wantsStandIn t = false := by
  obtain rfl : f = 4 := Option.some.inj ((show Tryz.prog.funcNamed "changeling/changelinglaw2.CpuSteps" = some 4 by kernel_rfl).symm.trans hf) |>.symm
  obtain rfl : fn = Tryz.f4 := (Option.some.inj (Tryz.func4.symm.trans hfn)).symm
  refine ⟨by kernel_rfl, fun j t ht => ?_⟩
  rw [Tryz.params4] at ht
  have hm := Array.mem_of_getElem? ht
  simp at hm
  rcases hm with rfl | rfl | rfl
  · exact (show Tryz.prog.wantsStandIn 25 = false by kernel_rfl)
  · exact (show Tryz.prog.wantsStandIn 46 = false by kernel_rfl)
  · exact (show Tryz.prog.wantsStandIn 3 = false by kernel_rfl)

theorem card : Rows.CpuStepsCardSaid :=
  Claim7.holds_tied_plain_at .later [] _ _ _ _ said (fun _ h => by cases h) (by kernel_rfl) (fun _ h => by cases h) cpuSteps_row_tie rfl ⟨rfl, rfl⟩ (by kernel_rfl) rfl plain (by kernel_rfl)
end Go.Proofs.YtlbdkcnbgdmpaaaGreatDoor.cpuSteps
namespace Go.Proofs.YtlbdkcnbgdmpaaaGreatDoor
theorem cpuSteps_card : Rows.CpuStepsCardSaid := cpuSteps.card
end Go.Proofs.YtlbdkcnbgdmpaaaGreatDoor
