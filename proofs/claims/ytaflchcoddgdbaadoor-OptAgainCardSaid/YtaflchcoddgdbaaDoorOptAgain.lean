/- The walk of the law OptAgain. -/
import Derived.Test.YtaflchcoddgdbaaDoorBettered
import Derived.Test.YtaflchcoddgdbaaDoorLongOps
import Derived.Test.YtaflchcoddgdbaaDoorKnownOf
import Derived.Test.YtaflchcoddgdbaaDoorDeadOf
namespace Go.Proofs.YtaflchcoddgdbaaDoor
open Go.RowKit Go.Deep
set_option linter.unusedVariables false
set_option linter.unusedSimpArgs false

theorem optFault_12 (many : Int) (l : List Ir.Op) (lv : Int) (h : lv = 1 ∨ lv = 2) : (Ir.optFault many l lv).1 = (Ir.fault many l).1 := by
  unfold Ir.optFault
  by_cases h0 : (Ir.fault many l).1 = 0
  · rw [if_neg (by simpa using h0), if_neg (by omega), h0]
  · rw [if_pos h0]
theorem OptIs.bad {w : World} {ea : Nat → Addr} {pc many : Int} {l : List Ir.Op} {level : Int} {cv ev : Value} (h : OptIs w ea pc many l level cv ev) (h0 : (Ir.optFault many l level).1 ≠ 0) :
    (∃ t u, ev = .iface t (.pointer (some u))) ∧ cv = .agg #[.int .u32 0, .int .i64 0, .slice none 0 0] := by
  obtain ⟨h1, h2⟩ := h
  refine ⟨?_, ?_⟩
  · rcases h1.parts with h1 | h1
    · exact absurd h1.1 h0
    · exact h1.2
  · rcases h2 with h2 | h2
    · exact h2.2
    · exact absurd h2.1 h0
set_option maxHeartbeats 4000000 in
set_option maxRecDepth 100000 in
theorem optAgain_any (many : Int) (A : Option Addr) (n cap : Nat) (l : List Ir.Op) (w : World) (ea : Nat → Addr) (E : ErrsC w ea) (V : OpsAt w A n cap l) (hc : cap ≤ 9223372036854775807) (hok : ∀ o ∈ l, OpOk o) :
    Calls Tryd.prog 5 #[.int .i64 many, .slice A n cap] w fun e w' => e = .returned (.bool true) ∧ Keeps (fun _ => False) w w' := by
  have HE := Lib.hid E
  have HV := Lib.hid V
  have HL := Lib.hid V.len
  have HOK := Lib.hid hok
  clear E V hok
  go_enter Tryd.func5, Tryd.ntmps5
  go_wp2_with fail
  refine (bettered_any w ea HE.out).mono ?_
  rintro e w1 ⟨rfl, hk1⟩
  have HK1 := Lib.hid hk1
  clear hk1
  go_wp2_with fail
  refine (longOps_any A n cap l w1 (HV.out.quiet HK1.out) hc).mono ?_
  rintro e w2 ⟨r, rfl, hr, hk2⟩
  have HK2 := Lib.hid (HK1.out.trans hk2 (fun _ _ h => h))
  clear hk2
  rcases hr with rfl | ⟨rfl, hn⟩
  · go_wp2_with fail
    go_ret
    exact ⟨rfl, HK2.out⟩
  have HOW := Lib.hid (ownOps_any A n cap l w2 (HV.out.quiet HK2.out) (by omega))
  go_wp2_with fail
  refine HOW.out.mono ?_
  rintro e w3 ⟨v, rfl, ⟨A3, cap3, rfl, ho3⟩, hk3⟩
  have hka := (Keeps.refl (fun _ => False) w3).alloc (.cells #[.int .u32 0, .int .i64 many, .slice A3 l.length cap3] 35)
  have HO3 := Lib.hid ((OpsAt.of_owns ho3 rfl).quiet hka)
  have HCAP := owns_cap ho3
  have HX3 := Lib.hid (CodeBox.new w3 0 many A3 l.length cap3)
  have HK3 := Lib.hid ((HK2.out.trans hk3 (fun _ _ h => h)).trans hka (fun _ _ h => h))
  clear hk3 ho3 hka
  go_upto_region 5 with fail
  generalize w3.alloc _ = w4 at *
  generalize w3.heap.size = x at *
  obtain ⟨d0, d1, d2, _⟩ := HX3.out.cells
  have HO1 := Lib.hid (Opt_any 0 many 1 A3 l.length cap3 l w4 ea (HE.out.quiet HK3.out) HO3.out HCAP HOK.out)
  go_wp2_with fail
  refine HO1.out.mono ?_
  rintro e w5 ⟨⟨ca, e1, rfl, hv5⟩, hk5⟩
  by_cases h0 : (Ir.fault many l).1 = 0
  · have HG := Lib.hid (Ir.good_of_fault h0)
    have H1 := Lib.hid (show (Ir.optFault many l 1).1 = 0 by rw [optFault_12 many l 1 (.inl rfl)]; exact h0)
    have H2 := Lib.hid (show (Ir.optFault many l 2).1 = 0 by rw [optFault_12 many l 2 (.inr rfl)]; exact h0)
    have HB := Lib.hid (Ir.opt_good HG.out 2)
    have H3 := Lib.hid (show (Ir.optFault many (Ir.opt l 2) 2).1 = 0 by rw [optFault_12 many _ 2 (.inr rfl)]; rw [Ir.fault_good HB.out])
    have HBO := Lib.hid (opt_ops_ok (ops_ok_good HG.out HOK.out) 2)
    have HKA := Lib.hid (show Ir.known (Ir.opt l 1) = 0 by
      rw [show Ir.opt l 1 = Ir.fold l by unfold Ir.opt; rw [if_neg (by decide), if_pos (by decide)]]
      exact Ir.known_fold l)
    have HDD := Lib.hid (show Ir.deads (Ir.opt (Ir.opt l 2) 2) = 0 by
      rw [show Ir.opt (Ir.opt l 2) 2 = Ir.sweep (Ir.fold (Ir.opt l 2)) by rw [Ir.opt, if_neg (by decide), if_neg (by decide)]]
      exact Ir.deads_sweep _)
    have l1 : decide (n < (Ir.opt l 1).length) = false := decide_eq_false (by have := Ir.opt_len l 1; have := HL.out; omega)
    have l2 : decide (n < (Ir.opt l 2).length) = false := decide_eq_false (by have := Ir.opt_len l 2; have := HL.out; omega)
    have l3 : decide ((Ir.opt l 2).length < (Ir.opt (Ir.opt l 2) 2).length) = false := decide_eq_false (by have := Ir.opt_len (Ir.opt l 2) 2; omega)
    obtain ⟨rfl, A5, cap5, rfl, ho5, hc5⟩ := hv5.good H1.out
    have hka := (Keeps.refl (fun _ => False) w5).alloc (.cells #[.int .u32 0, .int .i64 many, .slice A5 (Ir.opt l 1).length cap5] 35)
    have hk6 := hk5.trans hka (fun _ _ h => h)
    have HK6 := Lib.hid (HK3.out.trans hk6 (fun _ _ h => h))
    have HX6 := Lib.hid (HX3.out.keep hk6 (fun h => h))
    have HO6 := Lib.hid (HO3.out.quiet hk6)
    have HA6 := Lib.hid (ho5.quiet hka)
    have HY6 := Lib.hid (CodeBox.new w5 0 many A5 (Ir.opt l 1).length cap5)
    clear h0 hv5 hk5 hka hk6 d0 d1 d2 ho5
    go_upto_region 6 with fail
    generalize w5.alloc _ = w6 at *
    generalize w5.heap.size = y at *
    obtain ⟨d0, d1, d2, _⟩ := HX6.out.cells
    have HO2 := Lib.hid (Opt_any 0 many 2 A3 l.length cap3 l w6 ea (HE.out.quiet HK6.out) HO6.out HCAP HOK.out)
    go_wp2_with fail
    refine HO2.out.mono ?_
    rintro e w7 ⟨⟨cb, e2, rfl, hv7⟩, hk7⟩
    obtain ⟨rfl, A7, cap7, rfl, ho7, hc7⟩ := hv7.good H2.out
    have hka := (Keeps.refl (fun _ => False) w7).alloc (.cells #[.int .u32 0, .int .i64 many, .slice A7 (Ir.opt l 2).length cap7] 35)
    have hk8 := hk7.trans hka (fun _ _ h => h)
    have HK8 := Lib.hid (HK6.out.trans hk8 (fun _ _ h => h))
    have HA8 := Lib.hid (HA6.out.quiet hk8)
    have HY8 := Lib.hid (HY6.out.keep hk8 (fun h => h))
    have HB8 := Lib.hid (ho7.quiet hka)
    have HZ8 := Lib.hid (CodeBox.new w7 0 many A7 (Ir.opt l 2).length cap7)
    clear hv7 hk7 hka hk8 d0 d1 d2 ho7
    go_upto_region 9 with fail
    generalize w7.alloc _ = w8 at *
    generalize w7.heap.size = z at *
    obtain ⟨d0, d1, d2, _⟩ := HZ8.out.cells
    have HO4 := Lib.hid (Opt_any 0 many 2 A7 (Ir.opt l 2).length cap7 (Ir.opt l 2) w8 ea (HE.out.quiet HK8.out) HB8.out hc7 HBO.out)
    go_wp2_with fail
    refine HO4.out.mono ?_
    rintro e w9 ⟨⟨cd, e3, rfl, hv9⟩, hk9⟩
    obtain ⟨rfl, A9, cap9, rfl, ho9, hc9⟩ := hv9.good H3.out
    have hka := (Keeps.refl (fun _ => False) w9).alloc (.cells #[.int .u32 0, .int .i64 many, .slice A9 (Ir.opt (Ir.opt l 2) 2).length cap9] 35)
    have hk10 := hk9.trans hka (fun _ _ h => h)
    have HKx := Lib.hid (HK8.out.trans hk10 (fun _ _ h => h))
    have HAx := Lib.hid (HA8.out.quiet hk10)
    have HYx := Lib.hid (HY8.out.keep hk10 (fun h => h))
    have HZx := Lib.hid (HZ8.out.keep hk10 (fun h => h))
    have HDx := Lib.hid (ho9.quiet hka)
    have HUx := Lib.hid (CodeBox.new w9 0 many A9 (Ir.opt (Ir.opt l 2) 2).length cap9)
    clear hv9 hk9 hka hk10 d0 d1 d2 ho9
    go_upto_region 10 with fail
    generalize w9.alloc _ = wx at *
    generalize w9.heap.size = u at *
    obtain ⟨_, _, y2, _⟩ := HYx.out.cells
    obtain ⟨_, _, z2, _⟩ := HZx.out.cells
    obtain ⟨_, _, u2, _⟩ := HUx.out.cells
    have HDO := Lib.hid (deadOf_any A9 (Ir.opt (Ir.opt l 2) 2).length cap9 (Ir.opt (Ir.opt l 2) 2) wx HDx.out hc9)
    rw [HDD.out] at HDO
    go_wp2_with fail
    refine HDO.out.mono ?_
    rintro e w11 ⟨rfl, hk11⟩
    have HKO := Lib.hid (knownOf_any A5 (Ir.opt l 1).length cap5 (Ir.opt l 1) w11 (HAx.out.quiet hk11) hc5)
    rw [HKA.out] at HKO
    have HK11 := Lib.hid (HKx.out.trans hk11 (fun _ _ h => h))
    have HY11 := Lib.hid (HYx.out.keep hk11 (fun h => h))
    clear hk11 y2 z2 u2
    obtain ⟨_, _, y2, _⟩ := HY11.out.cells
    go_wp2_with fail
    refine HKO.out.mono ?_
    rintro e w12 ⟨rfl, hk12⟩
    have HK12 := Lib.hid (HK11.out.trans hk12 (fun _ _ h => h))
    clear hk12 y2
    go_wp2_with fail
    go_ret
    exact ⟨rfl, HK12.out⟩
  · obtain ⟨⟨t, u, rfl⟩, rfl⟩ := hv5.bad (by rw [optFault_12 many l 1 (.inl rfl)]; exact h0)
    have HH := Lib.hid h0
    have hka := (Keeps.refl (fun _ => False) w5).alloc (.cells #[.int .u32 0, .int .i64 0, .slice none 0 0] 35)
    have hk6 := hk5.trans hka (fun _ _ h => h)
    have HK6 := Lib.hid (HK3.out.trans hk6 (fun _ _ h => h))
    have HX6 := Lib.hid (HX3.out.keep hk6 (fun h => h))
    have HO6 := Lib.hid (HO3.out.quiet hk6)
    clear h0 hv5 hk5 hka hk6 d0 d1 d2
    go_upto_region 6 with fail
    generalize w5.alloc _ = w6 at *
    generalize w5.heap.size = y at *
    obtain ⟨d0, d1, d2, _⟩ := HX6.out.cells
    have HO2 := Lib.hid (Opt_any 0 many 2 A3 l.length cap3 l w6 ea (HE.out.quiet HK6.out) HO6.out HCAP HOK.out)
    go_wp2_with fail
    refine HO2.out.mono ?_
    rintro e w7 ⟨⟨cb, e2, rfl, hv7⟩, hk7⟩
    obtain ⟨⟨t2, u2, rfl⟩, rfl⟩ := hv7.bad (by rw [optFault_12 many l 2 (.inr rfl)]; exact HH.out)
    have hka := (Keeps.refl (fun _ => False) w7).alloc (.cells #[.int .u32 0, .int .i64 0, .slice none 0 0] 35)
    have HK8 := Lib.hid ((HK6.out.trans hk7 (fun _ _ h => h)).trans hka (fun _ _ h => h))
    clear hv7 hk7 hka d0 d1 d2
    go_upto_region 7 with fail
    generalize w7.alloc _ = w8 at *
    generalize w7.heap.size = z at *
    go_wp2_with fail
    go_ret
    exact ⟨rfl, HK8.out⟩
end Go.Proofs.YtaflchcoddgdbaaDoor
