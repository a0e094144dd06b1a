import Derived.Test.YtknhfobcejpmeaaGreatDoorHrz23
import Derived.Test.YtknhfobcejpmeaaGreatDoorHrz14
import Derived.Test.YtknhfobcejpmeaaGreatDoorHrz13
import Derived.Test.YtknhfobcejpmeaaGreatDoorHrz19
import Derived.Test.YtknhfobcejpmeaaGreatDoorHrz05
import Derived.Test.YtknhfobcejpmeaaGreatDoorHrz01
import Derived.LoopTactic
import Derived.Test.YtknhfobcejpmeaaGreatDoorHrz15

/- Hosted -/
/- The walk of the law's hosted: a closed fact. Printed by gen/hosted.py. -/
namespace Go.Proofs.YtknhfobcejpmeaaGreatDoor
open Go.RowKit Go.Deep
set_option linter.unusedVariables false
set_option linter.unusedSimpArgs false

def hoL : List Ir.Op := [⟨⟨#[99, 111, 112, 121]⟩, 1, 2, 0, 0, 0⟩, ⟨⟨#[99, 111, 112, 121]⟩, 2, 1, 0, 0, 0⟩, ⟨⟨#[111, 117, 116]⟩, 0, 0, 0, 8, 0⟩]
def ho1 : Cp.St := { ev0 with R := fun j => if j = 2 then 6 else if j = 1 then 5 else 0 }
theorem ho_fault : Ir.planFault 1 [hoL] = (0, -1) := by decide +kernel
theorem ho_ok : ∀ l ∈ [hoL], ∀ o ∈ l, OpOk o := by
  intro l hl o ho
  simp only [List.mem_cons, List.not_mem_nil, or_false] at hl
  subst hl
  simp only [hoL, List.mem_cons, List.not_mem_nil, or_false] at ho
  rcases ho with rfl | rfl | rfl <;> exact ⟨by unfold i64R; decide, by unfold i64R; decide, by unfold i64R; decide, by unfold u32R; decide, by unfold i64R; decide⟩
theorem ho_rng : Cp.Rng ho1 := by
  constructor <;> first | (intro k hk; show Cp.W (if k = 2 then 6 else if k = 1 then 5 else 0); unfold Cp.W; split <;> first | omega | (split <;> omega)) | (unfold ho1 ev0 Cp.W; simp) | (unfold ho1 ev0; simp)
theorem ho_ready : Ir.ready ho1 0 = true := by decide +kernel
def hoX : Nat → Int := Ir.setX (Ir.setX (Ir.mc0 ho1).X 1 6) 2 5
theorem ho_run (m : Nat → Int) (W : Int → Bool) : Ir.runRows W (Ir.mc0 ho1).X m [hoL] = .leave 8 hoX m := by
  have k1 : Ir.kn ⟨#[99, 111, 112, 121]⟩ = 2 := by decide +kernel
  have k3 : Ir.kn ⟨#[111, 117, 116]⟩ = 8 := by decide +kernel
  have w1 : Ir.writes ⟨⟨#[99, 111, 112, 121]⟩, 1, 2, 0, 0, 0⟩ = 1 := by decide +kernel
  have w2 : Ir.writes ⟨⟨#[99, 111, 112, 121]⟩, 2, 1, 0, 0, 0⟩ = 2 := by decide +kernel
  have w3 : Ir.writes ⟨⟨#[111, 117, 116]⟩, 0, 0, 0, 8, 0⟩ = 0 := by decide +kernel
  unfold hoL
  simp [Ir.runRows, Ir.trapOf, Ir.leaveTo, Ir.resOf, Ir.applyRow, Ir.applyX, Ir.applyM, k1, k3, w1, w2, w3]
  rfl
theorem ho_one : hoX 1 = 6 := by decide +kernel
theorem ho_two : hoX 2 = 5 := by decide +kernel
theorem ho_eval (g sb r : Nat) (wN w5 wE : World) (ea : Nat → Addr) (E : ErrsAll wE ea) (V : RowsAt wE (some ⟨g, 0, none⟩) 1 1 [hoL]) (hS : StAt wE sb ho1) (hN : NewRel wN w5 (fun _ => 0) 0) (hk : Keeps (fun _ => False) w5 wE) (hlt : sb < wN.heap.size) (hr : r = wN.heap.size + 3) :
    Calls Tryz.prog 21 #[.agg #[.int .u32 0, .int .i64 1, .slice (some ⟨g, 0, none⟩) 1 1], .pointer (some ⟨sb, 0, none⟩), .pointer (some ⟨r, 0, none⟩)] wE fun e w' => e = .returned (.tuple #[.agg #[.bool false, .int .i64 0], .nilIface]) ∧ StAt w' sb (Ir.leaveSt ho1 ⟨hoX, []⟩ 8 1) ∧ Keeps (fun b => b = sb ∨ b = wN.heap.size) wE w' := by
  subst hr
  refine (hrun_out 0 1 (some ⟨g, 0, none⟩) 1 1 [hoL] sb (wN.heap.size + 3) wN.heap.size (wN.heap.size + 1) (wN.heap.size + 2) ho1 (ramOf 0 fun _ => 0) (fun _ => false) wE ea E V (by decide) (by rw [ho_fault]) ho_ok hS ho_rng (hN.ram.keep hk (fun h => h) (fun h => h)) ((watchAt_none hN.watch rfl).keep hk (fun h => h)) (by decide) ho_ready ⟨by omega, by omega, by omega⟩ ⟨false, 0, Ir.leaveSt ho1 ⟨hoX, []⟩ 8 1, ramOf 0 fun _ => 0⟩ (by rw [ho_run]; rfl)).mono ?_
  intro e w' h
  exact ⟨h.1, h.2.1, h.2.2.2⟩
theorem ho_rows (w : World) : RowsAt ((w.alloc (.cells #[.string ⟨#[99, 111, 112, 121]⟩, .int .i64 1, .int .i64 2, .int .i64 0, .int .u32 0, .int .i64 0, .string ⟨#[99, 111, 112, 121]⟩, .int .i64 2, .int .i64 1, .int .i64 0, .int .u32 0, .int .i64 0, .string ⟨#[111, 117, 116]⟩, .int .i64 0, .int .i64 0, .int .i64 0, .int .u32 8, .int .i64 0] 100)).alloc (.cells #[.slice (some ⟨w.heap.size, 0, none⟩) 3 3] 23)) (some ⟨w.heap.size + 1, 0, none⟩) 1 1 [hoL] := by
  have h1 := OpsAt.lit w hoL 100 3 rfl
  rw [show (opsL hoL).toArray = #[.string ⟨#[99, 111, 112, 121]⟩, .int .i64 1, .int .i64 2, .int .i64 0, .int .u32 0, .int .i64 0, .string ⟨#[99, 111, 112, 121]⟩, .int .i64 2, .int .i64 1, .int .i64 0, .int .u32 0, .int .i64 0, .string ⟨#[111, 117, 116]⟩, .int .i64 0, .int .i64 0, .int .i64 0, .int .u32 8, .int .i64 0] from rfl] at h1
  generalize hq : (.cells #[.string ⟨#[99, 111, 112, 121]⟩, .int .i64 1, .int .i64 2, .int .i64 0, .int .u32 0, .int .i64 0, .string ⟨#[99, 111, 112, 121]⟩, .int .i64 2, .int .i64 1, .int .i64 0, .int .u32 0, .int .i64 0, .string ⟨#[111, 117, 116]⟩, .int .i64 0, .int .i64 0, .int .i64 0, .int .u32 8, .int .i64 0] 100 : Obj) = ob at *
  have h2 := blk_alloc_new (w.alloc ob) (.cells #[.slice (some ⟨w.heap.size, 0, none⟩) 3 3] 23)
  rw [nblk_alloc] at h2
  refine ⟨rfl, Nat.le_refl _, .inr ⟨_, 0, rfl, (Array.getElem?_eq_some_iff.1 h2).1, fun i hi => ?_⟩⟩
  obtain rfl : i = 0 := by omega
  refine ⟨some ⟨w.heap.size, 0, none⟩, 3, ?_, h1.quiet ((Keeps.refl (fun _ => False) _).alloc _), by decide⟩
  unfold World.cell?
  rw [h2]
  rfl
set_option maxHeartbeats 4000000 in
set_option maxRecDepth 100000 in
theorem hosted_any (w : World) (ea : Nat → Addr) (E : ErrsAll w ea) :
    Calls Tryz.prog 19 #[] w fun e w' => e = .returned (.bool true) ∧ Keeps (fun _ => False) w w' := by
  have HE := Lib.hid E
  clear E
  go_enter Tryz.func19, Tryz.ntmps19
  go_upto_region 1 with fail
  go_wp2_with (first | (with_reducible refine wpList_build_ev rfl rfl ?_) | (with_reducible refine wpList_store_st rfl _ _ rfl _ _ ev0 (blk_alloc_new _ _) (by simp) rfl rfl ?_))
  intro w2 hS2 hk2
  have hk2' := ((Keeps.refl (fun _ => False) w).alloc _).trans hk2 (fun j hj e => absurd (show j = w.heap.size from e) (Nat.ne_of_lt hj))
  have HS2 := Lib.hid hS2
  have HK2 := Lib.hid hk2'
  obtain ⟨sb, hsb⟩ : ∃ b, w.heap.size = b := ⟨_, rfl⟩
  rw [hsb] at HS2 ⊢
  have HSB := Lib.hid hsb
  clear hsb hS2 hk2 hk2'
  have c1 := HS2.out.reg 1 (by omega)
  have f1 := HS2.out.frozen 1
  have ha := HS2.out.setReg 1 (by omega) 5
  have hb := ha.setReg 2 (by omega) 6
  have hkk : Keeps (fun b => b = sb) w2 ((w2.setCell ⟨sb, 1, none⟩ (.int .u32 5)).setCell ⟨sb, 2, none⟩ (.int .u32 6)) := Keeps.trans (Keeps.one _ _ _ _) (Keeps.one _ _ _ _) (fun _ _ h => h)
  have HSA := Lib.hid ha
  have HSC := Lib.hid (show StAt ((w2.setCell ⟨sb, 1, none⟩ (.int .u32 5)).setCell ⟨sb, 2, none⟩ (.int .u32 6)) sb ho1 from hb)
  have HK2B := Lib.hid (HK2.out.trans hkk (fun b hb e => by have e : b = sb := e; have := HSB.out; omega))
  clear ha hb hkk
  go_upto_region 3 with fail
  clear c1 f1
  have c2 := HSA.out.reg 2 (by omega)
  have f2 := HSA.out.frozen 2
  go_upto_region 4 with fail
  clear c2 f2
  generalize World.setCell (World.setCell w2 _ _) _ _ = w3 at *
  have h1 := ho_rows w3
  have hk3 := ((Keeps.refl (fun _ => False) w3).alloc (.cells #[.string ⟨#[99, 111, 112, 121]⟩, .int .i64 1, .int .i64 2, .int .i64 0, .int .u32 0, .int .i64 0, .string ⟨#[99, 111, 112, 121]⟩, .int .i64 2, .int .i64 1, .int .i64 0, .int .u32 0, .int .i64 0, .string ⟨#[111, 117, 116]⟩, .int .i64 0, .int .i64 0, .int .i64 0, .int .u32 8, .int .i64 0] 100)).alloc (.cells #[.slice (some ⟨w3.heap.size, 0, none⟩) 3 3] 23)
  have hsz : w3.heap.size + 1 + 1 = ((w3.alloc (.cells #[.string ⟨#[99, 111, 112, 121]⟩, .int .i64 1, .int .i64 2, .int .i64 0, .int .u32 0, .int .i64 0, .string ⟨#[99, 111, 112, 121]⟩, .int .i64 2, .int .i64 1, .int .i64 0, .int .u32 0, .int .i64 0, .string ⟨#[111, 117, 116]⟩, .int .i64 0, .int .i64 0, .int .i64 0, .int .u32 8, .int .i64 0] 100)).alloc (.cells #[.slice (some ⟨w3.heap.size, 0, none⟩) 3 3] 23)).heap.size := by simp
  have HV0 := Lib.hid h1
  have HK3 := Lib.hid hk3
  have HSZ := Lib.hid hsz
  clear h1 hk3 hsz
  go_upto_region 5 with fail
  rw [HSZ.out]
  clear HSZ
  generalize (w3.alloc _).alloc _ = w3b at *
  generalize w3.heap.size + 1 = g at *
  have h2 := PlanBox.new w3b 0 1 (some ⟨g, 0, none⟩) 1 1
  have hk4 := (Keeps.refl (fun _ => False) w3b).alloc (.cells #[.int .u32 0, .int .i64 1, .slice (some ⟨g, 0, none⟩) 1 1] 35)
  have HV := Lib.hid (HV0.out.quiet hk4)
  have HK4 := Lib.hid ((HK2B.out.trans HK3.out (fun _ _ h => h)).trans hk4 (fun _ _ h => h))
  have HS4 := Lib.hid ((HSC.out.keep HK3.out (fun h => h)).keep hk4 (fun h => h))
  have HC4 := Lib.hid h2
  clear h2 hk4
  generalize w3b.alloc _ = w4 at *
  generalize w3b.heap.size = x at *
  obtain ⟨d0, d1, d2, _⟩ := HC4.out.cells
  obtain ⟨B, hB⟩ : ∃ B, w4.heap.size = B := ⟨_, rfl⟩
  have hxB : x < B := by have := HC4.out.lt; omega
  have hsB : sb < B := by have := HS4.out.lt; omega
  have hb4 : B ≤ w4.heap.size := Nat.le_of_eq hB.symm
  have HXS := Lib.hid (show x ≠ sb from by
    rintro rfl
    have h := HC4.out.blk
    rw [show w4.heap[x]? = _ from HS4.out] at h
    injection h with h
    injection h with _ h2
    exact absurd h2 (by decide))
  have hxs : ¬ (x = sb ∨ B ≤ x) := fun h => h.elim HXS.out (fun h => by omega)
  have HBB := Lib.hid hB
  clear hB
  have HWB := Lib.hid (show w.heap.size ≤ B from by rw [← HBB.out]; exact HK4.out.size)
  have HNW := Lib.hid (fun (w' : World) => new_any 0 0 none w' (fun _ => 0) ⟨Nat.le_refl _, .inl rfl⟩ (by decide) (fun i hi => absurd hi (Nat.not_lt_zero _)))
  go_cut [3, 4] (fun s3 s4 wx => ∃ y, s3 = .pointer (some ⟨y, 0, none⟩) ∧ s4 = .nilIface ∧ EndBox wx y false 0 ∧ StAt wx sb (Ir.leaveSt ho1 ⟨hoX, []⟩ 8 1) ∧ Keeps (fun b => b = sb ∨ B ≤ b) w4 wx)
  case first =>
    go_region_held3 (fun w' => Keeps (fun b => b = sb ∨ B ≤ b) w4 w' ∧ w'.cell? ⟨x, 0, none⟩ = some (.int .u32 0) ∧ w'.cell? ⟨x, 1, none⟩ = some (.int .i64 1) ∧ w'.cell? ⟨x, 2, none⟩ = some (.slice (some ⟨g, 0, none⟩) 1 1))
      (first | (refine ⟨?_, ?_, ?_, ?_⟩ <;> first | ((repeat (first | (with_reducible assumption) | (with_reducible (exact Keeps.refl _ _)) | (with_reducible (apply Keeps.drew)) | (with_reducible (apply Keeps.alloc)) | (refine Keeps.setCell (S := fun b => b = sb ∨ B ≤ b) (a := ⟨_, _, none⟩) ?_ (fun _ => .inr (by first | assumption | omega)) _))); done) | (refine Keeps.cell' (S := fun b => b = sb ∨ B ≤ b) (w := w4) ?_ (by assumption) hxs; (repeat (first | (with_reducible assumption) | (with_reducible (exact Keeps.refl _ _)) | (with_reducible (apply Keeps.drew)) | (with_reducible (apply Keeps.alloc)) | (refine Keeps.setCell (S := fun b => b = sb ∨ B ≤ b) (a := ⟨_, _, none⟩) ?_ (fun _ => .inr (by first | assumption | omega)) _))); done)) | (trace_state; fail))
      (first
        | (go_at_call 55; refine (HNW.out _).mono ?_; rintro e w5 ⟨rfl, hn5⟩; have hq5 : Keeps (fun b => b = sb ∨ B ≤ b) w4 w5 := Keeps.trans (by (repeat (first | (with_reducible assumption) | (with_reducible (exact Keeps.refl _ _)) | (with_reducible (apply Keeps.drew)) | (with_reducible (apply Keeps.alloc)) | (refine Keeps.setCell (S := fun b => b = sb ∨ B ≤ b) (a := ⟨_, _, none⟩) ?_ (fun _ => .inr (by first | assumption | omega)) _))); done) (hn5.keeps.mono (fun _ _ h => h.elim)) (fun _ _ h => h); have hf5 : Keeps (fun _ => False) w4 w5 := Keeps.trans (by (repeat (first | (with_reducible assumption) | (with_reducible (exact Keeps.refl _ _)) | (with_reducible (apply Keeps.drew)) | (with_reducible (apply Keeps.alloc)))); done) hn5.keeps (fun _ _ h => h); have hb5 : B ≤ w5.heap.size := Nat.le_trans hb4 hq5.size)
        | (go_at_call 21; refine (ho_eval g sb _ _ w5 _ ea (HE.out.quiet (HK4.out.trans (Keeps.trans hf5 (by (repeat (first | (with_reducible assumption) | (with_reducible (exact Keeps.refl _ _)) | (with_reducible (apply Keeps.drew)) | (with_reducible (apply Keeps.alloc)))); done) (fun _ _ h => h)) (fun _ _ h => h))) (HV.out.quiet (Keeps.trans hf5 (by (repeat (first | (with_reducible assumption) | (with_reducible (exact Keeps.refl _ _)) | (with_reducible (apply Keeps.drew)) | (with_reducible (apply Keeps.alloc)))); done) (fun _ _ h => h))) (HS4.out.keep (Keeps.trans hf5 (S := fun _ => False) (by (repeat (first | (with_reducible assumption) | (with_reducible (exact Keeps.refl _ _)) | (with_reducible (apply Keeps.drew)) | (with_reducible (apply Keeps.alloc)))); done) (fun _ _ h => h)) (fun h => h)) hn5 (by (repeat (first | (with_reducible assumption) | (with_reducible (exact Keeps.refl _ _)) | (with_reducible (apply Keeps.drew)) | (with_reducible (apply Keeps.alloc)))); done) (by first | (show sb < w4.heap.size; omega) | (have hh := nblk_alloc w4 (.cells #[.bool false, .int .i64 0] 56); show sb < (w4.alloc (.cells #[.bool false, .int .i64 0] 56)).heap.size; omega)) (by first | rfl | (simp only [nblk_alloc]; done) | (show _ = (World.alloc _ _).heap.size + 3; rw [nblk_alloc]))).mono ?_; rintro e w6 ⟨rfl, hS6, hk6⟩; have hq6 : Keeps (fun b => b = sb ∨ B ≤ b) w4 w6 := Keeps.trans (by (repeat (first | (with_reducible assumption) | (with_reducible (exact Keeps.refl _ _)) | (with_reducible (apply Keeps.drew)) | (with_reducible (apply Keeps.alloc)) | (refine Keeps.setCell (S := fun b => b = sb ∨ B ≤ b) (a := ⟨_, _, none⟩) ?_ (fun _ => .inr (by first | assumption | omega)) _))); done) (hk6.mono (fun b _ h => h.imp id (fun h => by first | (have h2 : b = w4.heap.size := h; omega) | (have hh := nblk_alloc w4 (.cells #[.bool false, .int .i64 0] 56); have h2 : b = (w4.alloc (.cells #[.bool false, .int .i64 0] 56)).heap.size := h; omega)))) (fun _ _ h => h); have hb6 : B ≤ w6.heap.size := Nat.le_trans hb4 hq6.size; (first | (have hz6 : EndBox w6 w4.heap.size false 0 := EndBox.keep (S := fun b => b = sb ∨ b = _) (EndBox.keep (S := fun _ => False) (EndBox.keep (S := fun _ => False) (EndBox.new w4 false 0) ((Keeps.refl _ _).drew) (fun h => h)) hn5.keeps (fun h => h)) hk6 (fun h => by have hh := nblk_alloc w4 (.cells #[.bool false, .int .i64 0] 56); rcases h with h | h; (omega); (have h2 : w4.heap.size = (w4.alloc (.cells #[.bool false, .int .i64 0] 56)).heap.size := h; omega)); have HZ6 := Lib.hid hz6; obtain ⟨z0, z1, z2, z3⟩ := hz6.cells; clear hz6) | (have hz6 : EndBox w6 w5.heap.size false 0 := EndBox.keep (S := fun b => b = sb ∨ b = _) (EndBox.new w5 false 0) hk6 (fun h => by have hh := hn5.size; have hh2 : w4.heap.size + 3 < w5.heap.size := hh; rcases h with h | h; (omega); (have h2 : w5.heap.size = w4.heap.size := h; omega)); have HZ6 := Lib.hid hz6; obtain ⟨z0, z1, z2, z3⟩ := hz6.cells; clear hz6) | skip)))
    · have HE7 := Lib.hid (EndBox.new w6 false 0)
      have hka := (Keeps.refl (fun _ => False) w6).alloc (.cells #[.bool false, .int .i64 0] 56)
      have HS7 := Lib.hid (hS6.keep hka (fun h => h))
      have HK7 := Lib.hid (hq6.trans (hka.mono (T := fun b => b = sb ∨ B ≤ b) (fun _ _ h => h.elim)) (fun _ _ h => h))
      clear hka hS6 hk6 hq6 hf5 hn5
      go_wp2_with fail
      go_meet
      exact ⟨_, rfl, rfl, HE7.out, HS7.out, HK7.out⟩
    · have hz := HZ6.out.put (t' := false) (a' := 0)
      have HE7 := Lib.hid hz.1
      have HS7 := Lib.hid (hS6.keep hz.2 (fun e => by have e : sb = w5.heap.size := e; omega))
      have HK7 := Lib.hid (hq6.trans (hz.2.mono (T := fun b => b = sb ∨ B ≤ b) (fun b _ e => .inr (by have e : b = w5.heap.size := e; omega))) (fun _ _ h => h))
      clear hz hS6 hk6 hq6 hf5 hn5 z0 z1 z2 z3
      go_wp2_with fail
      go_meet
      exact ⟨_, rfl, rfl, HE7.out, HS7.out, HK7.out⟩
    · have hz := HZ6.out.put (t' := false) (a' := 0)
      have HE7 := Lib.hid hz.1
      have HS7 := Lib.hid (hS6.keep hz.2 (fun e => by have e : sb = w4.heap.size := e; omega))
      have HK7 := Lib.hid (hq6.trans (hz.2.mono (T := fun b => b = sb ∨ B ≤ b) (fun b _ e => .inr (by have e : b = w4.heap.size := e; omega))) (fun _ _ h => h))
      clear hz hS6 hk6 hq6 hf5 hn5 z0 z1 z2 z3
      go_wp2_with fail
      go_meet
      exact ⟨_, rfl, rfl, HE7.out, HS7.out, HK7.out⟩
  case rest =>
    obtain ⟨y, rfl, rfl, hE, hS, hK⟩ := hcut
    have HKF := Lib.hid (show Keeps (fun _ => False) w wc from HK4.out.trans hK (fun b hb h => by have h1 := HSB.out; have h2 := HWB.out; rcases h with h | h <;> omega))
    obtain ⟨r0, r1, _, _⟩ := hE.cells
    have s1 := hS.reg 1 (by omega)
    have s2 := hS.reg 2 (by omega)
    rw [show (Ir.leaveSt ho1 ⟨hoX, []⟩ 8 1).R 1 = 6 from ho_one] at s1
    rw [show (Ir.leaveSt ho1 ⟨hoX, []⟩ 8 1).R 2 = 5 from ho_two] at s2
    clear hE hS hK d0 d1 d2
    go_wp2_with fail
    go_ret
    exact ⟨rfl, HKF.out⟩
end Go.Proofs.YtknhfobcejpmeaaGreatDoor

/- PlanFault -/
/- The walk of the reference's PlanFault. Printed by gen/planfault.py. -/
namespace Go.Proofs.YtknhfobcejpmeaaGreatDoor
open Go.RowKit Go.Deep
set_option linter.unusedVariables false
set_option linter.unusedSimpArgs false

set_option maxHeartbeats 8000000 in
set_option maxRecDepth 100000 in
theorem planFault_any (many : Int) (A : Option Addr) (n cap : Nat) (rows : List (List Ir.Op)) (w : World) (V : RowsAt w A n cap rows) (hc : cap ≤ 9223372036854775807) :
    Calls Tryz.prog 13 #[.int .i64 many, .slice A n cap] w fun e w' => e = .returned (faultV (Ir.planFault many rows)) ∧ Keeps (fun _ => False) w w' := by
  have HV := Lib.hid V
  have HL := Lib.hid V.len
  have hnc := V.le
  have HB0 := Lib.hid (FaultBox.new w 0 0)
  have HK0 := Lib.hid ((Keeps.refl (fun _ => False) w).alloc (.cells #[.int .i64 0, .int .i64 0] 44))
  have HF := Lib.hid (show Ir.planFault many rows = ((if many < 1 ∨ 24 < many then (2, -1) else if 200 < n then (8, -1) else if n = 0 then (3, -1)
      else match Ir.rowsErr many rows.length 0 rows with | some (c, i) => (c, (i : Int)) | none => if 8 < Ir.planStores rows then (8, -1) else (0, -1)) : Nat × Int) by rw [← HL.out]; rfl)
  obtain ⟨f, hf⟩ : ∃ f, Ir.planFault many rows = f := ⟨_, rfl⟩
  rw [hf] at HF ⊢
  clear hf V
  go_enter Tryz.func13, Tryz.ntmps13
  go_upto_region 1 with fail
  obtain ⟨rb, hrb⟩ : ∃ b, w.heap.size = b := ⟨_, rfl⟩
  have HRB := Lib.hid hrb
  rw [hrb] at HB0 ⊢
  clear hrb
  generalize w.alloc _ = w1 at *
  by_cases h1 : many < 1 ∨ 24 < many
  · have HR := Lib.hid (show f = (2, -1) by rw [HF.out, if_pos h1])
    rcases h1 with h1 | h1
    · have t1 : decide (many < 1) = true := decide_eq_true h1
      go_wp2_with fail
      refine (faultBare_any 2 _).mono ?_
      rintro e w9 ⟨rfl, hk9⟩
      have HB9 := Lib.hid (HB0.out.keep hk9 (fun h => h))
      have HK9 := Lib.hid (HK0.out.trans hk9 (fun _ _ h => h))
      clear hk9
      obtain ⟨r0, r1, g0, g1⟩ := HB9.out.cells
      have hp := HB9.out.put (c' := 2) (a' := -1)
      have HP := Lib.hid hp
      clear hp
      unfold faultV
      go_wp2_with fail
      refine bodyPost_ret (results_cell_row rfl _ _ rb 44 #[.int .i64 2, .int .i64 (-1)] (0, 0) _ rfl HP.out.1.blk Tryz.underlying44 rfl size_fault) rfl ⟨by rw [HR.out]; rfl, HK9.out.trans HP.out.2 (fun b hb e => by have e : b = rb := e; have := HRB.out; omega)⟩
    · have t1 : decide (many < 1) = false := decide_eq_false (by omega)
      have t2 : decide (24 < many) = true := decide_eq_true h1
      go_wp2_with fail
      refine (faultBare_any 2 _).mono ?_
      rintro e w9 ⟨rfl, hk9⟩
      have HB9 := Lib.hid (HB0.out.keep hk9 (fun h => h))
      have HK9 := Lib.hid (HK0.out.trans hk9 (fun _ _ h => h))
      clear hk9
      obtain ⟨r0, r1, g0, g1⟩ := HB9.out.cells
      have hp := HB9.out.put (c' := 2) (a' := -1)
      have HP := Lib.hid hp
      clear hp
      unfold faultV
      go_wp2_with fail
      refine bodyPost_ret (results_cell_row rfl _ _ rb 44 #[.int .i64 2, .int .i64 (-1)] (0, 0) _ rfl HP.out.1.blk Tryz.underlying44 rfl size_fault) rfl ⟨by rw [HR.out]; rfl, HK9.out.trans HP.out.2 (fun b hb e => by have e : b = rb := e; have := HRB.out; omega)⟩
  have t1 : decide (many < 1) = false := decide_eq_false (by omega)
  have t2 : decide (24 < many) = false := decide_eq_false (by omega)
  by_cases h2 : 200 < n
  · have HR := Lib.hid (show f = (8, -1) by rw [HF.out, if_neg h1, if_pos h2])
    have t3 : decide (200 < n) = true := decide_eq_true h2
    clear h1
    go_wp2_with fail
    refine (faultBare_any 8 _).mono ?_
    rintro e w9 ⟨rfl, hk9⟩
    have HB9 := Lib.hid (HB0.out.keep hk9 (fun h => h))
    have HK9 := Lib.hid (HK0.out.trans hk9 (fun _ _ h => h))
    clear hk9
    obtain ⟨r0, r1, g0, g1⟩ := HB9.out.cells
    have hp := HB9.out.put (c' := 8) (a' := -1)
    have HP := Lib.hid hp
    clear hp
    unfold faultV
    go_wp2_with fail
    refine bodyPost_ret (results_cell_row rfl _ _ rb 44 #[.int .i64 8, .int .i64 (-1)] (0, 0) _ rfl HP.out.1.blk Tryz.underlying44 rfl size_fault) rfl ⟨by rw [HR.out]; rfl, HK9.out.trans HP.out.2 (fun b hb e => by have e : b = rb := e; have := HRB.out; omega)⟩
  have t3 : decide (200 < n) = false := decide_eq_false h2
  by_cases h4 : n = 0
  · have HR := Lib.hid (show f = (3, -1) by rw [HF.out, if_neg h1, if_neg h2, if_pos h4])
    clear h1
    subst h4
    go_wp2_with fail
    refine (faultBare_any 3 _).mono ?_
    rintro e w9 ⟨rfl, hk9⟩
    have HB9 := Lib.hid (HB0.out.keep hk9 (fun h => h))
    have HK9 := Lib.hid (HK0.out.trans hk9 (fun _ _ h => h))
    clear hk9
    obtain ⟨r0, r1, g0, g1⟩ := HB9.out.cells
    have hp := HB9.out.put (c' := 3) (a' := -1)
    have HP := Lib.hid hp
    clear hp
    unfold faultV
    go_wp2_with fail
    refine bodyPost_ret (results_cell_row rfl _ _ rb 44 #[.int .i64 3, .int .i64 (-1)] (0, 0) _ rfl HP.out.1.blk Tryz.underlying44 rfl size_fault) rfl ⟨by rw [HR.out]; rfl, HK9.out.trans HP.out.2 (fun b hb e => by have e : b = rb := e; have := HRB.out; omega)⟩
  have t5 : ((n : Int) == 0) = false := by simpa using h4
  have HF2 := Lib.hid (show f = match Ir.rowsErr many rows.length 0 rows with | some (c, i) => (c, (i : Int)) | none => if 8 < Ir.planStores rows then (8, -1) else (0, -1) by rw [HF.out, if_neg h1, if_neg h2, if_neg h4])
  have HLX := Lib.hid (show ∃ m, m + 1 = n from ⟨n - 1, by omega⟩)
  obtain ⟨m, hm⟩ := HLX.out
  clear HLX h1
  have hw1 : IntKind.i64.wrap ((n : Int) - 1) = (m : Int) := by rw [IntKind.wrap_i64]; omega
  have hm1 : (0 : Int) ≤ (m : Int) := by omega
  have HM := Lib.hid hm
  clear hm
  go_wp2_with fail
  go_loopw [5, 6] (fun s5 s6 wr => ∃ i st : Nat, i ≤ n ∧ st ≤ 4 * i ∧ s5 = .int .i64 st ∧ s6 = .int .i64 i ∧ Ir.planStores (rows.take i) = st ∧ (∀ j, j < i → Ir.rowErr many (rows.getD j []) (decide (j + 1 = rows.length)) = 0) ∧ Keeps (fun _ => False) w1 wr) (fun _ s6 _ => n - (intOf s6).toNat)
  case atStart => exact ⟨0, 0, by omega, by omega, rfl, rfl, rfl, fun j hj => absurd hj (Nat.not_lt_zero _), Keeps.refl _ _⟩
  case round =>
    obtain ⟨i, st, hi, hst, rfl, rfl, hps, hz, hKi⟩ := hrel
    have HPS := Lib.hid hps
    have HZ := Lib.hid hz
    have HKI := Lib.hid hKi
    clear hps hz hKi
    have HKT := Lib.hid (HK0.out.trans HKI.out (fun _ _ h => h))
    have HBT := Lib.hid (HB0.out.keep HKI.out (fun h => h))
    by_cases hlt : i < n
    · have hil : i < rows.length := by rw [HL.out]; exact hlt
      obtain ⟨ob, oo, Ai, ci, rfl, e0, e1, e2⟩ := (HV.out.quiet HKT.out).get hlt
      have HST := Lib.hid (Ir.planStores_step rows i hil)
      have HBAD := Lib.hid (fun (c : Nat) (h : Ir.rowErr many (rows.getD i []) (decide (i + 1 = rows.length)) = c) (h0 : c ≠ 0) => (show f = (c, (i : Int)) by
        rw [HF2.out, Ir.rowsErr_at hil HZ.out (by rw [h]; exact h0), h]))
      obtain ⟨lb, hlb⟩ : ∃ b, decide (i + 1 = rows.length) = b := ⟨_, rfl⟩
      have hbe : ((i : Int) == (m : Int)) = lb := by
        rw [← hlb, HL.out, ← HM.out]
        by_cases e : i = m
        · subst e; simp
        · have : ¬ i + 1 = m + 1 := by omega
          rw [decide_eq_false this]
          exact beq_eq_false_iff_ne.2 (by omega)
      rw [hlb] at HBAD
      have HLB := Lib.hid hlb
      clear hlb
      have HSL := Lib.hid (fun h => (Ir.rowErr_len (many := many) (l := rows.getD i []) (last := lb) h).2)
      have HSS := Lib.hid (Ir.stores_le_len (rows.getD i []))
      obtain ⟨l, hl⟩ : ∃ l, rows.getD i [] = l := ⟨_, rfl⟩
      rw [hl] at e0 e1 HBAD HST HSL HSS
      have HLE := Lib.hid hl
      clear hl
      have HE1 := Lib.hid e1
      have HE0 := Lib.hid e0
      have HRE := Lib.hid (fun w V => rowError_any many lb Ai l.length ci l w V e2)
      have HSO := Lib.hid (fun w V => storesOf_any Ai l.length ci l w V e2)
      obtain ⟨c, hcc⟩ : ∃ c, Ir.rowErr many l lb = c := ⟨_, rfl⟩
      rw [hcc] at HRE
      have HCC := Lib.hid hcc
      clear hcc e1 e2
      have hi63 : (i : Int) < n := by omega
      go_wp2_with fail
      refine (HRE.out _ HE1.out).mono ?_
      rintro e w5 ⟨rfl, hk5⟩
      have HK5 := Lib.hid (HKT.out.trans hk5 (fun _ _ h => h))
      have HKI5 := Lib.hid (HKI.out.trans hk5 (fun _ _ h => h))
      have HB5 := Lib.hid (HBT.out.keep hk5 (fun h => h))
      have HE5 := Lib.hid (HE1.out.quiet hk5)
      have f0 := hk5.cell' HE0.out (fun h => h)
      clear hk5 e0
      by_cases hc0 : c = 0
      · have t8 : decide (0 < c) = false := decide_eq_false (by omega)
        have HL4 := Lib.hid (HSL.out (by rw [HCC.out]; exact hc0))
        have HZ2 := Lib.hid (show ∀ j, j < i + 1 → Ir.rowErr many (rows.getD j []) (decide (j + 1 = rows.length)) = 0 from fun j hj => by
          by_cases e : j = i
          · subst e
            rw [HLE.out, HLB.out, HCC.out, hc0]
          · exact HZ.out j (by omega))
        have hs1 : (Ir.stores l : Int) ≤ 4 := by have := HSS.out; have := HL4.out; omega
        have hs0 : (0 : Int) ≤ (Ir.stores l : Int) := by omega
        obtain ⟨sl, hsl⟩ : ∃ s, Ir.stores l = s := ⟨_, rfl⟩
        rw [hsl] at HSO HST hs1 hs0
        clear hsl hc0
        go_wp2_with fail
        refine (HSO.out _ HE5.out).mono ?_
        rintro e w6 ⟨rfl, hk6⟩
        have HK6 := Lib.hid (HKI5.out.trans hk6 (fun _ _ h => h))
        clear hk6 f0
        go_wp2_with fail
        go_roundw
        case rel => exact ⟨i + 1, st + sl, by omega, by omega, by go_num, by go_num, by rw [HST.out, HPS.out], HZ2.out, HK6.out⟩
        case measure => simp [intOf]; omega
      · have t8 : decide (0 < c) = true := decide_eq_true (by omega)
        have HR := Lib.hid (HBAD.out c HCC.out hc0)
        clear hc0 f0
        obtain ⟨r0, r1, g0, g1⟩ := HB5.out.cells
        have hp := HB5.out.put (c' := c) (a' := i)
        have HP := Lib.hid hp
        clear hp
        go_wp2_with fail
        refine bodyPost_ret (results_cell_row rfl _ _ rb 44 #[.int .i64 c, .int .i64 i] (0, 0) _ rfl HP.out.1.blk Tryz.underlying44 rfl size_fault) rfl ⟨by rw [HR.out]; rfl, HK5.out.trans HP.out.2 (fun b hb e => by have e : b = rb := e; have := HRB.out; omega)⟩
    · obtain rfl : i = n := by omega
      have HRN := Lib.hid (show f = if 8 < st then (8, -1) else (0, -1) by
        rw [HF2.out, Ir.rowsErr_all (fun j hj => HZ.out j (by rw [← HL.out]; exact hj)), ← HPS.out, List.take_of_length_le (by rw [HL.out]; exact Nat.le_refl _)])
      clear HZ HPS
      by_cases h9 : 8 < st
      · have HR := Lib.hid (show f = (8, -1) by rw [HRN.out, if_pos h9])
        have t9 : decide (8 < st) = true := decide_eq_true h9
        go_wp2_with fail
        refine (faultBare_any 8 _).mono ?_
        rintro e w9 ⟨rfl, hk9⟩
        have HB9 := Lib.hid (HBT.out.keep hk9 (fun h => h))
        have HK9 := Lib.hid (HKT.out.trans hk9 (fun _ _ h => h))
        clear hk9
        obtain ⟨r0, r1, g0, g1⟩ := HB9.out.cells
        have hp := HB9.out.put (c' := 8) (a' := -1)
        have HP := Lib.hid hp
        clear hp
        unfold faultV
        go_wp2_with fail
        refine bodyPost_ret (results_cell_row rfl _ _ rb 44 #[.int .i64 8, .int .i64 (-1)] (0, 0) _ rfl HP.out.1.blk Tryz.underlying44 rfl size_fault) rfl ⟨by rw [HR.out]; rfl, HK9.out.trans HP.out.2 (fun b hb e => by have e : b = rb := e; have := HRB.out; omega)⟩
      · have HR := Lib.hid (show f = (0, -1) by rw [HRN.out, if_neg h9])
        have t9 : decide (8 < st) = false := decide_eq_false h9
        go_wp2_with fail
        refine (faultFine_any _).mono ?_
        rintro e w9 ⟨rfl, hk9⟩
        have HB9 := Lib.hid (HBT.out.keep hk9 (fun h => h))
        have HK9 := Lib.hid (HKT.out.trans hk9 (fun _ _ h => h))
        clear hk9
        obtain ⟨r0, r1, g0, g1⟩ := HB9.out.cells
        have hp := HB9.out.put (c' := 0) (a' := -1)
        have HP := Lib.hid hp
        clear hp
        unfold faultV
        go_wp2_with fail
        refine bodyPost_ret (results_cell_row rfl _ _ rb 44 #[.int .i64 0, .int .i64 (-1)] (0, 0) _ rfl HP.out.1.blk Tryz.underlying44 rfl size_fault) rfl ⟨by rw [HR.out]; rfl, HK9.out.trans HP.out.2 (fun b hb e => by have e : b = rb := e; have := HRB.out; omega)⟩
end Go.Proofs.YtknhfobcejpmeaaGreatDoor

/- LongOps8 -/
/- The walk of LongOps at eight. -/
namespace Go.Proofs.YtknhfobcejpmeaaGreatDoor
open Go.RowKit Go.Deep
set_option linter.unusedVariables false
set_option linter.unusedSimpArgs false

set_option maxHeartbeats 1000000 in
set_option maxRecDepth 100000 in
theorem longOps8_any (A : Option Addr) (n cap : Nat) (l : List Ir.Op) (w : World) (V : OpsAt w A n cap l) (hc : cap ≤ 9223372036854775807) :
    Calls Tryz.prog 7 #[.slice A n cap, .int .i64 8] w fun e w' => ∃ r : Int, e = .returned (.int .i64 r) ∧ (r = 1 ∨ (r = 0 ∧ n ≤ 201)) ∧ Keeps (fun _ => False) w w' := by
  have HV := Lib.hid V
  have hn := V.le
  clear V
  by_cases h1 : 8 < n ∧ n ≠ 201
  · have t1 : decide ((8 : Int) < (n : Int)) = true := decide_eq_true (by omega)
    have t2 : ((n : Int) != 201) = true := by simp; omega
    clear h1
    go_enter Tryz.func7, Tryz.ntmps7
    go_wp2_with fail
    go_ret
    exact ⟨1, rfl, .inl rfl, Keeps.refl _ _⟩
  · have HN := Lib.hid (show n ≤ 201 by omega)
    by_cases h2 : 8 < n
    all_goals
      first
        | (have t1 : decide ((8 : Int) < (n : Int)) = true := decide_eq_true (by omega); have t2 : ((n : Int) != 201) = false := by (simp; omega))
        | (have t1 : decide ((8 : Int) < (n : Int)) = false := decide_eq_false (by omega))
      clear h1 h2
      go_enter Tryz.func7, Tryz.ntmps7
      go_wp2_with fail
      (try clear t1)
      (try clear t2)
      go_loopw [5] (fun s5 wr => ∃ i : Nat, i ≤ n ∧ s5 = .int .i64 i ∧ Keeps (fun _ => False) w wr) (fun s5 _ => n - (intOf s5).toNat)
      case atStart => exact ⟨0, by omega, rfl, Keeps.refl _ _⟩
      case round =>
        obtain ⟨i, hi, rfl, hK⟩ := hrel
        have HK := Lib.hid hK
        clear hK
        by_cases hlt : i < n
        · obtain ⟨bb, oo, rfl, e0, e1, e2, e3, e4, e5⟩ := (HV.out.quiet HK.out).get hlt
          obtain ⟨op, hop⟩ : ∃ op, l.getD i Ir.nop = op := ⟨_, rfl⟩
          rw [hop] at e0 e1 e2 e3 e4 e5
          clear hop
          cases hk : decide ((20 : Int) < (op.k.size : Int))
          · go_wp2_with fail
            go_roundw
            case rel => exact ⟨i + 1, by omega, by go_num, HK.out⟩
            case measure => simp [intOf]; omega
          · go_wp2_with fail
            go_ret
            exact ⟨1, rfl, .inl rfl, HK.out⟩
        · obtain rfl : i = n := by omega
          go_wp2_with fail
          go_ret
          exact ⟨0, rfl, .inr ⟨rfl, HN.out⟩, HK.out⟩
end Go.Proofs.YtknhfobcejpmeaaGreatDoor

/- HostRunsH -/
/- The law HostRuns, plainly: the ranges of what a host leaves. Printed by gen/hostruns.py. -/
namespace Go.Proofs.YtknhfobcejpmeaaGreatDoor
open Go.RowKit Go.Deep
set_option linter.unusedVariables false
set_option linter.unusedSimpArgs false

namespace Ir
theorem hostGo_ok {m : Nat → Int} {W : Int → Bool} (hm : ∀ j, j < 16384 → 0 ≤ m j ∧ m j < 256) : ∀ (rows : List (List Op)) (c : Mc) (pc : Int) (c' : Mc), McOk W c → (∀ l ∈ rows, ∀ o ∈ l, OpIn o) → hostGo m W c rows = .leave pc c' → McOk W c' ∧ 0 ≤ pc ∧ pc < 4294967296
  | [], c, pc, c', _, _, h => by cases h
  | l :: r, c, pc, c', hc, hin, h => by
    unfold hostGo at h
    have hp := pend_rng hm c.ws
    cases ht : trapOf c.X (pend m c.ws) W l with
    | some a => rw [ht] at h; cases h
    | none =>
      have hr := (hostRow_ok (X := c.X) (m := pend m c.ws) (W := W) hc.X hp l c hc (fun o ho => ⟨hin l (List.mem_cons_self ..) o ho, trapOf_no ht o ho⟩)).1
      rw [ht] at h
      dsimp only at h
      cases hl : leaveTo none (l.map (resOf c.X (pend m c.ws) W)) with
      | some p =>
        rw [hl] at h
        dsimp only at h
        injection h with h1 h2
        subst h1 h2
        exact ⟨hr, leaveTo_rng _ none (fun q hq => by
          obtain ⟨o, ho, rfl⟩ := List.mem_map.1 hq
          exact (res_rng (W := W) hc.X hp (hin l (List.mem_cons_self ..) o ho)).2) (fun p hp => by cases hp) p hl⟩
      | none =>
        rw [hl] at h
        exact hostGo_ok hm r _ pc c' hr (fun q hq => hin q (List.mem_cons_of_mem _ hq)) h
theorem host_rng {s : Cp.St} {m : Nat → Int} {W : Int → Bool} {many : Int} {rows : List (List Op)} (hs : Cp.Rng s) (hc : s.count ≤ 1099511627776) (hm : ∀ j, j < 16384 → 0 ≤ m j ∧ m j < 256) (hmany : 0 ≤ many ∧ many ≤ 24) (hin : ∀ l ∈ rows, ∀ o ∈ l, OpIn o) : Cp.Rng (eoOf s m many (runRows W (mc0 s).X m rows)).s := by
  have hg := hostGo_runRows m W rows (mc0 s)
  rw [show pend m (mc0 s).ws = m from rfl] at hg
  rw [← hg]
  cases he : hostGo m W (mc0 s) rows with
  | trap a => exact hs
  | leave pc c =>
    have h := hostGo_ok hm rows _ pc c (mc0_ok W hs) hin he
    exact leaveSt_rng hs h.1.X h.2 hc hmany
  | fell c => exact hs
/-- a state that a host may not begin with -/
def placedN (s : Cp.St) (pc : Int) : Cp.St := { placed s pc with next := pc }
theorem placedN_unready (s : Cp.St) {pc : Int} (h : 0 ≤ pc ∧ pc < 4294967296) : ready (placedN s pc) pc = false := by
  unfold ready placedN placed
  simp
  omega
theorem placed_ready (s : Cp.St) (pc : Int) : ready (placed s pc) pc = true := by
  unfold ready placed
  simp
end Ir
theorem placed_rngH {s : Cp.St} (h : Cp.Rng s) (pc : Int) (hp : 0 ≤ pc ∧ pc < 4294967296) : Cp.Rng (Ir.placed s pc) := placedA_rng h pc hp false
theorem placedN_rng {s : Cp.St} (h : Cp.Rng s) (pc : Int) (hp : 0 ≤ pc ∧ pc < 4294967296) : Cp.Rng (Ir.placedN s pc) := by
  have h1 := placed_rngH h pc hp
  exact ⟨h1.R, h1.hi, h1.lo, h1.pc, hp, h1.status, h1.cause, h1.epc, h1.bad, h1.compare, h1.count⟩
theorem pfault_small (many : Int) (rows : List (List Ir.Op)) : (Ir.planFault many rows).1 = 0 ∨ (1 ≤ (Ir.planFault many rows).1 ∧ (Ir.planFault many rows).1 ≤ 10) := by
  have := Ir.planFault_le many rows
  omega
theorem RowsOwn.keepT {S : Nat → Prop} {w w' : World} {B : Nat} {v : Value} {rows : List (List Ir.Op)} (h : RowsOwn w B v rows) (k : Keeps S w w') (hs : ∀ g c t fz, w.heap[g]? = some (.cells c t fz) → (t = 23 ∨ t = 100) → ¬ S g) : RowsOwn w' B v rows := by
  obtain ⟨vs, h1, h2, h3⟩ := h
  refine ⟨vs, h1, owns_keep h2 k (fun g hg => ?_), fun j hj => (h3 j hj).keepS k (fun g hg => ?_)⟩
  · obtain ⟨c, e⟩ := owns_typed h2 hg
    exact hs g c _ _ e (.inl rfl)
  · obtain ⟨A, cap, he, ho⟩ := h3 j hj
    obtain ⟨c, e⟩ := owns_typed ho hg
    exact hs g c _ _ e (.inr rfl)
theorem RowsOwn.at_ {w : World} {B n cap : Nat} {A : Option Addr} {rows : List (List Ir.Op)} (h : RowsOwn w B (.slice A n cap) rows) (hl : rows.length = n) : RowsAt w A n cap rows ∧ cap ≤ 9223372036854775807 := by
  obtain ⟨A2, cap2, e, h1, h2⟩ := h.rows
  injection e with e1 e2 e3
  subst e1 e3
  rw [hl] at h2
  exact ⟨h2, h1⟩
theorem fault_ty : 23 ≠ 44 ∧ 100 ≠ 44 ∧ 23 ≠ 26 ∧ 100 ≠ 26 := by decide
end Go.Proofs.YtknhfobcejpmeaaGreatDoor
