/- The walk of the law's bettered: a closed fact. -/
import Derived.Test.YtaflchcoddgdbaaDoorOpt
import Derived.Test.YtaflchcoddgdbaaDoorKnown
namespace Go.Proofs.YtaflchcoddgdbaaDoor
open Go.RowKit Go.Deep
set_option linter.unusedVariables false
set_option linter.unusedSimpArgs false

theorem OpsAt.lit (w : World) (l : List Ir.Op) (T : TypeId) (n : Nat) (hn : l.length = n) : OpsAt (w.alloc (.cells (opsL l).toArray T)) (some ⟨w.heap.size, 0, none⟩) n n l := by
  refine ⟨hn, Nat.le_refl _, .inr ⟨_, 0, rfl, by simp, fun i hi => OpLies.of_cells fun q hq v hv => ?_⟩⟩
  have e := opsL_get l i q (by omega) hq
  rw [hv] at e
  unfold World.cell?
  rw [blk_alloc_new]
  simp only [Nat.zero_add]
  simpa using e
theorem OptIs.good {w : World} {ea : Nat → Addr} {pc many : Int} {l : List Ir.Op} {level : Int} {cv ev : Value} (h : OptIs w ea pc many l level cv ev) (h0 : (Ir.optFault many l level).1 = 0) :
    ev = .nilIface ∧ ∃ A cap, cv = .agg #[.int .u32 pc, .int .i64 many, .slice A (Ir.opt l level).length cap] ∧ OpsAt w A (Ir.opt l level).length cap (Ir.opt l level) ∧ cap ≤ 9223372036854775807 := by
  obtain ⟨h1, h2⟩ := h
  refine ⟨?_, ?_⟩
  · rcases h1 with h1 | h1 | h1
    · exact h1.2
    · exact absurd h0 h1.1
    · exact absurd h0 h1.1
  · rcases h2 with h2 | h2
    · exact absurd h0 h2.1
    · exact h2.2
/-- the code of the closed fact -/
def betL : List Ir.Op := [⟨⟨#[115, 101, 116]⟩, 40, 0, 0, 7, 0⟩, ⟨⟨#[97, 100, 100]⟩, 6, 40, 40, 0, 0⟩, ⟨⟨#[111, 117, 116]⟩, 0, 0, 0, 40, 0⟩]
theorem bet_fault : Ir.optFault 1 betL 2 = (0, -1) := by decide +kernel
theorem bet_fault1 : Ir.fault 1 betL = (0, -1) := by decide +kernel
theorem bet_known : Ir.known betL = 1 := by decide +kernel
theorem bet_len : (Ir.opt betL 2).length = 2 := by decide +kernel
theorem bet_fault2 : Ir.fault 1 (Ir.opt betL 2) = (0, -1) := by decide +kernel
theorem bet_known2 : Ir.known (Ir.opt betL 2) = 0 := by decide +kernel
theorem bet_dead2 : Ir.deads (Ir.opt betL 2) = 0 := by decide +kernel
theorem bet_ok : ∀ o ∈ betL, OpOk o := by
  intro o ho
  simp only [betL, List.mem_cons, List.not_mem_nil, or_false] at ho
  rcases ho with rfl | rfl | rfl <;> exact ⟨by unfold i64R; decide, by unfold i64R; decide, by unfold i64R; decide, by unfold u32R; decide, by unfold i64R; decide⟩
set_option maxHeartbeats 2000000 in
set_option maxRecDepth 100000 in
theorem bettered_any (w : World) (ea : Nat → Addr) (E : ErrsC w ea) :
    Calls Tryd.prog 18 #[] w fun e w' => e = .returned (.bool true) ∧ Keeps (fun _ => False) w w' := by
  have HE := Lib.hid E
  clear E
  go_enter Tryd.func18, Tryd.ntmps18
  go_upto_region 2 with fail
  have h1 := OpsAt.lit w betL 60 3 rfl
  rw [show (opsL betL).toArray = #[.string ⟨#[115, 101, 116]⟩, .int .i64 40, .int .i64 0, .int .i64 0, .int .u32 7, .int .i64 0, .string ⟨#[97, 100, 100]⟩, .int .i64 6, .int .i64 40, .int .i64 40, .int .u32 0, .int .i64 0, .string ⟨#[111, 117, 116]⟩, .int .i64 0, .int .i64 0, .int .i64 0, .int .u32 40, .int .i64 0] from rfl] at h1
  have hk1 := (Keeps.refl (fun _ => False) w).alloc (.cells #[.string ⟨#[115, 101, 116]⟩, .int .i64 40, .int .i64 0, .int .i64 0, .int .u32 7, .int .i64 0, .string ⟨#[97, 100, 100]⟩, .int .i64 6, .int .i64 40, .int .i64 40, .int .u32 0, .int .i64 0, .string ⟨#[111, 117, 116]⟩, .int .i64 0, .int .i64 0, .int .i64 0, .int .u32 40, .int .i64 0] 60)
  rw [show w.heap.size + 1 = (w.alloc (.cells #[.string ⟨#[115, 101, 116]⟩, .int .i64 40, .int .i64 0, .int .i64 0, .int .u32 7, .int .i64 0, .string ⟨#[97, 100, 100]⟩, .int .i64 6, .int .i64 40, .int .i64 40, .int .u32 0, .int .i64 0, .string ⟨#[111, 117, 116]⟩, .int .i64 0, .int .i64 0, .int .i64 0, .int .u32 40, .int .i64 0] 60)).heap.size by simp]
  generalize w.alloc _ = w1 at *
  generalize w.heap.size = g at *
  have h2 := CodeBox.new w1 0 1 (some ⟨g, 0, none⟩) 3 3
  have hk2 := (Keeps.refl (fun _ => False) w1).alloc (.cells #[.int .u32 0, .int .i64 1, .slice (some ⟨g, 0, none⟩) 3 3] 35)
  have HV := Lib.hid (h1.quiet hk2)
  have HK2 := Lib.hid (hk1.trans hk2 (fun _ _ h => h))
  have HC2 := Lib.hid h2
  clear h1 h2 hk1 hk2
  generalize w1.alloc _ = w2 at *
  generalize w1.heap.size = x at *
  obtain ⟨d0, d1, d2, _⟩ := HC2.out.cells
  have HOP := Lib.hid (Opt_any 0 1 2 (some ⟨g, 0, none⟩) 3 3 betL w2 ea (HE.out.quiet HK2.out) HV.out (by decide) bet_ok)
  go_wp2_with fail
  refine HOP.out.mono ?_
  rintro e w3 ⟨⟨cv, ev, rfl, hv3⟩, hk3⟩
  obtain ⟨rfl, A3, cap3, rfl, ho3, hc3⟩ := hv3.good (by rw [bet_fault])
  rw [bet_len] at ho3 ⊢
  have hka := (Keeps.refl (fun _ => False) w3).alloc (.cells #[.int .u32 0, .int .i64 1, .slice A3 2 cap3] 35)
  have HO3 := Lib.hid (ho3.quiet hka)
  have HC3 := Lib.hid ((HC2.out.keep hk3 (fun h => h)).keep hka (fun h => h))
  have HX3 := Lib.hid (CodeBox.new w3 0 1 A3 2 cap3)
  have HK3 := Lib.hid ((HK2.out.trans hk3 (fun _ _ h => h)).trans hka (fun _ _ h => h))
  have HV3 := Lib.hid ((HV.out.quiet hk3).quiet hka)
  clear hv3 hk3 ho3 d0 d1 d2 hka
  go_upto_region 3 with fail
  generalize w3.alloc _ = w4 at *
  generalize w3.heap.size = y at *
  obtain ⟨d0, d1, d2, _⟩ := HC3.out.cells
  have HKN := Lib.hid (Known_any 0 1 (some ⟨g, 0, none⟩) 3 3 betL w4 ea (HE.out.quiet HK3.out) HV3.out (by decide) (fun i hi => bet_ok _ (getD_mem hi)))
  rw [bet_fault1, bet_known] at HKN
  go_wp2_with fail
  refine HKN.out.mono ?_
  rintro e w5 ⟨rfl, hk5⟩
  have HK5 := Lib.hid (HK3.out.trans hk5 (fun _ _ h => h))
  have HX5 := Lib.hid (HX3.out.keep hk5 (fun h => h))
  have HO5 := Lib.hid (HO3.out.quiet hk5)
  clear d0 d1 d2 hk5
  obtain ⟨d0, d1, d2, _⟩ := HX5.out.cells
  have HK2N := Lib.hid (Known_any 0 1 A3 2 cap3 (Ir.opt betL 2) w5 ea (HE.out.quiet HK5.out) HO5.out hc3 (fun i hi => opt_ops_ok (ops_ok_good (Ir.good_of_fault (many := 1) (by rw [bet_fault1])) bet_ok) 2 _ (getD_mem (by rw [bet_len]; exact hi))))
  rw [bet_fault2, bet_known2] at HK2N
  go_wp2_with fail
  refine HK2N.out.mono ?_
  rintro e w6 ⟨rfl, hk6⟩
  have HK6 := Lib.hid (HK5.out.trans hk6 (fun _ _ h => h))
  have HX6 := Lib.hid (HX5.out.keep hk6 (fun h => h))
  have HO6 := Lib.hid (HO5.out.quiet hk6)
  clear d0 d1 d2 hk6
  obtain ⟨d0, d1, d2, _⟩ := HX6.out.cells
  have HDD := Lib.hid (Dead_any 0 1 A3 2 cap3 (Ir.opt betL 2) w6 ea (HE.out.quiet HK6.out) HO6.out hc3)
  rw [bet_fault2, bet_dead2] at HDD
  go_wp2_with fail
  refine HDD.out.mono ?_
  rintro e w7 ⟨rfl, hk7⟩
  have HK7 := Lib.hid (HK6.out.trans hk7 (fun _ _ h => h))
  have HX7 := Lib.hid (HX6.out.keep hk7 (fun h => h))
  clear d0 d1 d2 hk7
  obtain ⟨d0, d1, d2, _⟩ := HX7.out.cells
  go_wp2_with fail
  go_ret
  exact ⟨rfl, HK7.out⟩
end Go.Proofs.YtaflchcoddgdbaaDoor
