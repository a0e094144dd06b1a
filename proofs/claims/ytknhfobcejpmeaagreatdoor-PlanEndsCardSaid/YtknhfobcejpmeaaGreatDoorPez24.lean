import Derived.Test.YtknhfobcejpmeaaGreatDoorPez23
import Derived.Test.YtknhfobcejpmeaaGreatDoorPez17
import Derived.Test.YtknhfobcejpmeaaGreatDoorPez08
import Derived.Test.YtknhfobcejpmeaaGreatDoorPez16
import Derived.Test.YtknhfobcejpmeaaGreatDoorPez18
import Derived.Test.YtknhfobcejpmeaaGreatDoorPez19
import Derived.Test.YtknhfobcejpmeaaGreatDoorPez14
import Derived.Test.YtknhfobcejpmeaaGreatDoorPez06

/- PlanCheck -/
/- The walk of plan.Check: what it answers is Ir.planFault. -/
namespace Go.Proofs.YtknhfobcejpmeaaGreatDoor
open Go.RowKit Go.Deep
set_option linter.unusedVariables false
set_option linter.unusedSimpArgs false

set_option maxHeartbeats 8000000 in
set_option maxRecDepth 100000 in
theorem planCheck_any (pc many : Int) (A : Option Addr) (n cap : Nat) (rows : List (List Ir.Op)) (w : World) (ea : Nat → Addr) (E : ErrsR w ea) (V : RowsAt w A n cap rows) (hc : cap ≤ 9223372036854775807) :
    Calls Tryz.prog 56 #[.agg #[.int .u32 pc, .int .i64 many, .slice A n cap]] w fun e w' => (∃ v, e = .returned v ∧ FaultIs w' ea (Ir.planFault many rows) v) ∧ Keeps (fun _ => False) w w' := by
  have HE := Lib.hid E
  have HV := Lib.hid V
  have hnc := V.le
  have HL := Lib.hid V.len
  have HN := Lib.hid (code_new w pc many A n cap 35)
  have HF := Lib.hid (show Ir.planFault many rows = ((if many < 1 ∨ 24 < many then (2, -1) else if 200 < n then (8, -1) else if n = 0 then (3, -1)
      else match Ir.rowsErr many rows.length 0 rows with | some (c, i) => (c, (i : Int)) | none => if 8 < Ir.planStores rows then (8, -1) else (0, -1)) : Nat × Int) by rw [← HL.out]; rfl)
  obtain ⟨f, hf⟩ : ∃ f, Ir.planFault many rows = f := ⟨_, rfl⟩
  rw [hf] at HF ⊢
  clear hf V E
  go_enter Tryz.func56, Tryz.ntmps56
  go_upto_region 1 with fail
  obtain ⟨hV, hK⟩ := HN.out
  generalize w.alloc _ = w1 at *
  generalize w.heap.size = x at *
  have HC1 := Lib.hid hV
  have HK1 := Lib.hid hK
  obtain ⟨c0, c1, c2⟩ := hV
  have gb := (HE.out.quiet hK).c.bound
  have gs := (HE.out.quiet hK).c.shape
  have gf := (HE.out.quiet hK).c.full
  clear hK HN
  by_cases h1 : many < 1
  · have HR := Lib.hid (show f = (2, -1) by rw [HF.out, if_pos (.inl h1)])
    have h1' : decide (many < 1) = true := decide_eq_true h1
    clear h1
    go_wp2_with fail
    go_ret
    exact ⟨⟨_, rfl, FaultIs.bare HR.out (by decide)⟩, HK1.out⟩
  by_cases h2 : 24 < many
  · have HR := Lib.hid (show f = (2, -1) by rw [HF.out, if_pos (.inr h2)])
    have h1' : decide (many < 1) = false := decide_eq_false h1
    have h2' : decide (24 < many) = true := decide_eq_true h2
    clear h1 h2
    go_wp2_with fail
    go_ret
    exact ⟨⟨_, rfl, FaultIs.bare HR.out (by decide)⟩, HK1.out⟩
  have h12 : ¬ (many < 1 ∨ 24 < many) := by omega
  have h1' : decide (many < 1) = false := decide_eq_false h1
  have h2' : decide (24 < many) = false := decide_eq_false h2
  clear h1 h2
  by_cases h3 : 200 < n
  · have HR := Lib.hid (show f = (8, -1) by rw [HF.out, if_neg h12, if_pos h3])
    have h3' : decide ((200 : Int) < (n : Int)) = true := decide_eq_true (by omega)
    clear h12 h3
    go_wp2_with fail
    go_ret
    exact ⟨⟨_, rfl, FaultIs.bare HR.out (by decide)⟩, HK1.out⟩
  have h3' : decide ((200 : Int) < (n : Int)) = false := decide_eq_false (by omega)
  by_cases h4 : n = 0
  · have HR := Lib.hid (show f = (3, -1) by rw [HF.out, if_neg h12, if_neg h3, if_pos h4])
    have h4' : ((n : Int) == 0) = true := by simp [h4]
    have H4 := Lib.hid h4
    clear h12 h3 h4
    go_wp2_with fail
    go_ret
    exact ⟨⟨_, rfl, FaultIs.bare HR.out (by decide)⟩, HK1.out⟩
  have h4' : ((n : Int) == 0) = false := by simp [h4]
  have HF2 := Lib.hid (show f = match Ir.rowsErr many rows.length 0 rows with | some (c, i) => (c, (i : Int)) | none => if 8 < Ir.planStores rows then (8, -1) else (0, -1) by rw [HF.out, if_neg h12, if_neg h3, if_neg h4])
  have hn200 : n ≤ 200 := by omega
  obtain ⟨m, hm⟩ : ∃ m, m + 1 = n := ⟨n - 1, by omega⟩
  have hw1 : IntKind.i64.wrap ((n : Int) - 1) = (m : Int) := by rw [IntKind.wrap_i64]; omega
  have hm1 : (0 : Int) ≤ (m : Int) := by omega
  have HM := Lib.hid hm
  clear hm h12 h3 h4 gb gs gf
  go_wp2_with fail
  clear c0 c1 c2
  go_loopw [31] (fun s31 wr => ∃ i : Nat, i ≤ n ∧ s31 = .int .i64 i ∧ (∀ j, j < i → Ir.rowErr many (rows.getD j []) (decide (j + 1 = rows.length)) = 0) ∧ Keeps (fun _ => False) w1 wr) (fun s31 _ => n - (intOf s31).toNat)
  case atStart => exact ⟨0, by omega, rfl, fun j hj => absurd hj (Nat.not_lt_zero _), Keeps.refl _ _⟩
  case round =>
    obtain ⟨i, hi, rfl, hz, hKi⟩ := hrel
    have HZ := Lib.hid hz
    have HKI := Lib.hid hKi
    clear hz hKi
    have HKT := Lib.hid (HK1.out.trans HKI.out (fun _ _ h => h))
    have HCT := Lib.hid (HC1.out.keep HKI.out (fun h => h))
    obtain ⟨c0, c1, c2⟩ := HCT.out
    by_cases hlt : i < n
    · have hil : i < rows.length := by rw [HL.out]; exact hlt
      obtain ⟨ob, oo, Ai, ci, rfl, e0, e1, e2⟩ := (HV.out.quiet HKT.out).get hlt
      have HBAD := Lib.hid (fun (c : Nat) (h : Ir.rowErr many (rows.getD i []) (decide (i + 1 = rows.length)) = c) (h0 : c ≠ 0) => (show f = (c, (i : Int)) by
        rw [HF2.out, Ir.rowsErr_at hil HZ.out (by rw [h]; exact h0), h]))
      obtain ⟨lb, hlb⟩ : ∃ b, decide (i + 1 = rows.length) = b := ⟨_, rfl⟩
      have hbe : ((i : Int) == (m : Int)) = lb := by
        rw [← hlb, HL.out, ← HM.out]
        by_cases e : i = m
        · subst e; simp
        · have : ¬ i + 1 = m + 1 := by omega
          rw [decide_eq_false this]
          exact beq_eq_false_iff_ne.2 (by omega)
      rw [hlb] at HBAD
      have HLB := Lib.hid hlb
      clear hlb
      obtain ⟨l, hl⟩ : ∃ l, rows.getD i [] = l := ⟨_, rfl⟩
      rw [hl] at e0 e1 HBAD
      have HLE := Lib.hid hl
      clear hl hil
      have HE1 := Lib.hid e1
      have HRE := Lib.hid (fun w E V => planRow_any many lb Ai l.length ci l w ea E V e2)
      obtain ⟨c, hcc⟩ : ∃ c, Ir.rowErr many l lb = c := ⟨_, rfl⟩
      rw [hcc] at HRE
      have HCC := Lib.hid hcc
      clear hcc e1 e2
      have hi63 : (i : Int) < n := by omega
      go_wp2_with fail
      refine (HRE.out _ (HE.out.quiet HKT.out) HE1.out).mono ?_
      rintro e w5 ⟨rfl, hk5⟩
      have HK5 := Lib.hid (HKT.out.trans hk5 (fun _ _ h => h))
      have HKI5 := Lib.hid (HKI.out.trans hk5 (fun _ _ h => h))
      clear hk5 e0 c0 c1 c2
      by_cases hc0 : c = 0
      · subst hc0
        rw [show errOf0 ea 0 = .nilIface from rfl]
        have HZ2 := Lib.hid (show ∀ j, j < i + 1 → Ir.rowErr many (rows.getD j []) (decide (j + 1 = rows.length)) = 0 from fun j hj => by
          by_cases e : j = i
          · subst e
            rw [HLE.out, HLB.out, HCC.out]
          · exact HZ.out j (by omega))
        go_wp2_with fail
        go_roundw
        case rel => exact ⟨i + 1, by omega, by go_num, HZ2.out, HKI5.out⟩
        case measure => simp [intOf]; omega
      · have HR := Lib.hid (HBAD.out c HCC.out hc0)
        rw [show errOf0 ea c = .iface 275 (.pointer (some (ea c))) from if_neg hc0]
        have HC0 := Lib.hid hc0
        clear hc0
        go_wp2_with fail
        go_ret
        exact ⟨⟨_, rfl, FaultIs.placed HR.out HC0.out (by omega) w5⟩, HK5.out.alloc _⟩
    · obtain rfl : i = n := by omega
      have HRN := Lib.hid (show f = if 8 < Ir.stores rows.flatten then (8, -1) else (0, -1) by
        rw [HF2.out, Ir.rowsErr_all (fun j hj => HZ.out j (by rw [← HL.out]; exact hj)), ← Ir.stores_flat])
      have HBD := Lib.hid (show ∀ j, j < rows.length → (rows.getD j []).length ≤ 1000 from fun j hj => by
        have := (Ir.rowErr_len (HZ.out j (by rw [← HL.out]; exact hj))).2
        omega)
      clear HZ
      generalize i = n at *
      generalize wr = w3 at *
      have HCN := Lib.hid (fun w V => concat_any A n cap rows w V hc (by omega) HBD.out)
      go_wp2_with fail
      refine (HCN.out _ (HV.out.quiet HKT.out)).mono ?_
      rintro e w5 ⟨v, rfl, hov, hk5⟩
      obtain ⟨A2, c2', rfl, how⟩ := hov
      have HO := Lib.hid (OpsAt.of_owns how rfl)
      have HCP := Lib.hid (owns_cap how)
      have HK5 := Lib.hid (HKT.out.trans hk5 (fun _ _ h => h))
      clear hk5 c0 c1 c2 how
      have HSO := Lib.hid (fun w V => Stores_any A2 rows.flatten.length c2' rows.flatten w V HCP.out)
      obtain ⟨fl, hfl⟩ : ∃ fl, rows.flatten.length = fl := ⟨_, rfl⟩
      obtain ⟨st, hst⟩ : ∃ st, Ir.stores rows.flatten = st := ⟨_, rfl⟩
      rw [hfl] at HSO HO ⊢
      rw [hst] at HSO HRN
      clear hst hfl
      go_wp2_with fail
      refine (HSO.out _ HO.out).mono ?_
      rintro e w6 ⟨rfl, hk6⟩
      have HK6 := Lib.hid (HK5.out.trans hk6 (fun _ _ h => h))
      have gf := (HE.out.quiet HK6.out).c.full
      clear hk6
      by_cases h9 : 8 < st
      · have HR := Lib.hid (show f = (8, -1) by rw [HRN.out, if_pos h9])
        have t9 : decide (8 < st) = true := decide_eq_true h9
        have t9' : decide ((8 : Int) < (st : Int)) = true := decide_eq_true (by omega)
        clear h9
        go_wp2_with fail
        go_ret
        exact ⟨⟨_, rfl, FaultIs.bare HR.out (by decide)⟩, HK6.out⟩
      · have HR := Lib.hid (show f = (0, -1) by rw [HRN.out, if_neg h9])
        have t9 : decide (8 < st) = false := decide_eq_false h9
        have t9' : decide ((8 : Int) < (st : Int)) = false := decide_eq_false (by omega)
        clear h9
        go_wp2_with fail
        go_ret
        exact ⟨⟨_, rfl, .inl ⟨by rw [HR.out], rfl⟩⟩, HK6.out⟩
set_option maxHeartbeats 2000000 in
set_option maxRecDepth 100000 in
theorem planOps_any (pc many : Int) (A : Option Addr) (n cap : Nat) (rows : List (List Ir.Op)) (w : World) (V : RowsAt w A n cap rows) (hc : cap ≤ 9223372036854775807) (hn : n ≤ 1000) (hb : ∀ i, i < rows.length → (rows.getD i []).length ≤ 1000) :
    Calls Tryz.prog 43 #[.agg #[.int .u32 pc, .int .i64 many, .slice A n cap]] w fun e w' => e = .returned (.int .i64 rows.flatten.length) ∧ Keeps (fun _ => False) w w' := by
  have HV := Lib.hid V
  have HN := Lib.hid (code_new w pc many A n cap 35)
  have HCN := Lib.hid (fun w V => concat_any A n cap rows w V hc hn hb)
  obtain ⟨fl, hfl⟩ : ∃ fl, rows.flatten.length = fl := ⟨_, rfl⟩
  rw [hfl]
  have HFL := Lib.hid hfl
  clear V hb hfl
  go_enter Tryz.func43, Tryz.ntmps43
  go_upto_region 1 with fail
  obtain ⟨hV, hK⟩ := HN.out
  generalize w.alloc _ = w1 at *
  generalize w.heap.size = x at *
  have HK1 := Lib.hid hK
  obtain ⟨c0, c1, c2⟩ := hV
  clear hK HN
  go_wp2_with fail
  refine (HCN.out _ (HV.out.quiet HK1.out)).mono ?_
  rintro e w5 ⟨v, rfl, hov, hk5⟩
  obtain ⟨A2, c2', rfl, how⟩ := hov
  have HK5 := Lib.hid (HK1.out.trans hk5 (fun _ _ h => h))
  clear hk5 c0 c1 c2 how
  rw [HFL.out]
  go_wp2_with fail
  go_ret
  exact ⟨rfl, HK5.out⟩
/-- how many the widest row has -/
def Ir.wide (rows : List (List Ir.Op)) : Nat := rows.foldl (fun n l => max n l.length) 0
theorem Ir.wide_step (rows : List (List Ir.Op)) (i : Nat) (h : i < rows.length) : Ir.wide (rows.take (i + 1)) = max (Ir.wide (rows.take i)) (rows.getD i []).length := by
  unfold Ir.wide
  rw [List.take_succ_eq_append_getElem h, List.foldl_append]
  have : rows.getD i [] = rows[i] := by simp [List.getD, h]
  rw [this]
  rfl
set_option maxHeartbeats 4000000 in
set_option maxRecDepth 100000 in
theorem planWide_any (pc many : Int) (A : Option Addr) (n cap : Nat) (rows : List (List Ir.Op)) (w : World) (V : RowsAt w A n cap rows) (hc : cap ≤ 9223372036854775807) :
    Calls Tryz.prog 44 #[.agg #[.int .u32 pc, .int .i64 many, .slice A n cap]] w fun e w' => e = .returned (.int .i64 (Ir.wide rows)) ∧ Keeps (fun _ => False) w w' := by
  have HV := Lib.hid V
  have HL := Lib.hid V.len
  have hnc := V.le
  have HN := Lib.hid (code_new w pc many A n cap 35)
  clear V
  go_enter Tryz.func44, Tryz.ntmps44
  go_upto_region 1 with fail
  obtain ⟨hV, hK⟩ := HN.out
  generalize w.alloc _ = w1 at *
  generalize w.heap.size = x at *
  have HK1 := Lib.hid hK
  have HC1 := Lib.hid hV
  obtain ⟨c0, c1, c2⟩ := hV
  clear hK HN
  go_wp2_with fail
  go_loopw [3, 9] (fun s3 s9 wr => ∃ i st : Nat, i ≤ n ∧ s3 = .int .i64 st ∧ s9 = .int .i64 i ∧ Ir.wide (rows.take i) = st ∧ Keeps (fun _ => False) w wr) (fun _ s9 _ => n - (intOf s9).toNat)
  case atStart => exact ⟨0, 0, by omega, rfl, rfl, rfl, HK1.out⟩
  case round =>
    obtain ⟨i, st, hi, rfl, rfl, hst, hK⟩ := hrel
    have HS := Lib.hid hst
    have HK := Lib.hid hK
    clear hst hK c0 c1 c2
    by_cases hlt : i < n
    · obtain ⟨ob, oo, Ai, ci, rfl, e0, e1, e2⟩ := (HV.out.quiet HK.out).get hlt
      have hil : i < rows.length := by rw [HL.out]; exact hlt
      have HWS := Lib.hid (Ir.wide_step rows i hil)
      obtain ⟨l, hl⟩ : ∃ l, rows.getD i [] = l := ⟨_, rfl⟩
      rw [hl] at e0 HWS
      clear hl hil e1 e2
      obtain ⟨ll, hll⟩ : ∃ ll, l.length = ll := ⟨_, rfl⟩
      rw [hll] at e0 HWS
      clear hll
      have hi63 : (i : Int) < n := by omega
      go_wp2_with fail
      all_goals
        go_roundw
        case rel => exact ⟨i + 1, max st ll, by omega, by first | rfl | (congr 1; omega), by go_num, by rw [HWS.out, HS.out], HK.out⟩
        case measure => simp [intOf]; omega
    · obtain rfl : i = n := by omega
      have HSF := Lib.hid (show Ir.wide rows = st by
        have := HS.out
        rwa [List.take_of_length_le (by rw [HL.out]; exact Nat.le_refl _)] at this)
      go_wp2_with fail
      go_ret
      exact ⟨by rw [HSF.out]; rfl, HK.out⟩
end Go.Proofs.YtknhfobcejpmeaaGreatDoor

/- Planned -/
/- The walk of the law's planned: a closed fact. -/
namespace Go.Proofs.YtknhfobcejpmeaaGreatDoor
open Go.RowKit Go.Deep
set_option linter.unusedVariables false
set_option linter.unusedSimpArgs false

/-- the code of the closed fact -/
def planL : List Ir.Op := [⟨⟨#[115, 101, 116]⟩, 5, 0, 0, 7, 0⟩, ⟨⟨#[115, 101, 116]⟩, 6, 0, 0, 8, 0⟩, ⟨⟨#[111, 117, 116]⟩, 0, 0, 0, 40, 0⟩]
theorem planl_fault : Ir.fault 1 planL = (0, -1) := by decide +kernel
theorem planl_rows : (Ir.make planL).rows = [planL] := by kernel_rfl
theorem planl_ok : ∀ o ∈ planL, OpOk o := by
  intro o ho
  simp only [planL, List.mem_cons, List.not_mem_nil, or_false] at ho
  rcases ho with rfl | rfl | rfl <;> exact ⟨by unfold i64R; decide, by unfold i64R; decide, by unfold i64R; decide, by unfold u32R; decide, by unfold i64R; decide⟩
theorem MakeIs.good {w : World} {ea : Nat → Addr} {pc many : Int} {l : List Ir.Op} {B : Nat} {cv ev : Value} (h : MakeIs w ea pc many l B cv ev) (h0 : (Ir.fault many l).1 = 0) :
    ev = .nilIface ∧ ∃ A cap, cv = .agg (codeC pc many A (Ir.make l).rows.length cap) ∧ RowsOwn w B (.slice A (Ir.make l).rows.length cap) (Ir.make l).rows := by
  obtain ⟨h1, h2⟩ := h
  refine ⟨?_, ?_⟩
  · rcases h1 with h1 | h1 | h1
    · exact h1.2
    · exact absurd h0 h1.1
    · exact absurd h0 h1.1
  · rcases h2 with h2 | ⟨_, A, n, cap, h3, rfl, h4⟩
    · exact absurd h0 h2.1
    · exact ⟨A, cap, h3, h4⟩
set_option maxHeartbeats 2000000 in
set_option maxRecDepth 100000 in
theorem planned_any (w : World) (ea : Nat → Addr) (E : ErrsC w ea) :
    Calls Tryz.prog 6 #[] w fun e w' => e = .returned (.bool true) ∧ Keeps (fun _ => False) w w' := by
  have HE := Lib.hid E
  clear E
  have h1 := OpsAt.lit w planL 100 3 rfl
  have hk1 := (Keeps.refl (fun _ => False) w).alloc (.cells (opsL planL).toArray 100)
  rw [show (opsL planL).toArray = #[.string ⟨#[115, 101, 116]⟩, .int .i64 5, .int .i64 0, .int .i64 0, .int .u32 7, .int .i64 0, .string ⟨#[115, 101, 116]⟩, .int .i64 6, .int .i64 0, .int .i64 0, .int .u32 8, .int .i64 0, .string ⟨#[111, 117, 116]⟩, .int .i64 0, .int .i64 0, .int .i64 0, .int .u32 40, .int .i64 0] from by rfl] at h1 hk1
  have HV := Lib.hid h1
  have HK1 := Lib.hid hk1
  clear h1 hk1
  go_enter Tryz.func6, Tryz.ntmps6
  go_wp2_with fail
  generalize w.alloc _ = w1 at *
  obtain ⟨g, hg⟩ : ∃ g, w.heap.size = g := ⟨_, rfl⟩
  rw [hg] at HV ⊢
  clear hg
  have HMK := Lib.hid (planMake_any 0 1 (some ⟨g, 0, none⟩) 3 3 planL w1 ea (HE.out.quiet HK1.out) HV.out (by decide) planl_ok)
  refine HMK.out.mono ?_
  rintro e w2 ⟨⟨cv, ev, rfl, hv2⟩, hk2⟩
  obtain ⟨rfl, A3, cap3, rfl, hro⟩ := hv2.good (by rw [planl_fault])
  rw [planl_rows] at hro ⊢
  obtain ⟨A4, cap4, hv4, hc4, hra⟩ := hro.rows
  injection hv4 with e1 e2 e3
  subst e1 e3
  have HK2 := Lib.hid (HK1.out.trans hk2 (fun _ _ h => h))
  have HRA := Lib.hid hra
  clear hv2 hk2 hro hra
  have HPB := Lib.hid (PlanBox.new w2 0 1 A3 1 cap3)
  have HKA := Lib.hid (HK2.out.alloc (.cells #[.int .u32 0, .int .i64 1, .slice A3 1 cap3] 35))
  have HRB := Lib.hid (HRA.out.quiet ((Keeps.refl (fun _ => False) w2).alloc (.cells #[.int .u32 0, .int .i64 1, .slice A3 1 cap3] 35)))
  have HPO := Lib.hid (fun w (V : RowsAt w A3 1 cap3 [planL]) => planOps_any 0 1 A3 1 cap3 [planL] w V hc4 (by decide) (fun i hi => by
    obtain rfl : i = 0 := by simp at hi; omega
    decide))
  have HPW := Lib.hid (fun w (V : RowsAt w A3 1 cap3 [planL]) => planWide_any 0 1 A3 1 cap3 [planL] w V hc4)
  rw [show ([planL] : List (List Ir.Op)).flatten.length = 3 from rfl] at HPO
  rw [show Ir.wide [planL] = 3 from rfl] at HPW
  unfold codeC
  simp only [List.length_cons, List.length_nil, Nat.zero_add]
  go_upto_region 2 with fail
  generalize w2.alloc _ = w3 at *
  generalize w2.heap.size = x at *
  obtain ⟨d0, d1, d2, _, _, _⟩ := HPB.out.cells
  go_wp2_with fail
  refine (HPO.out _ HRB.out).mono ?_
  rintro e w5 ⟨rfl, hk5⟩
  have HK5 := Lib.hid (HKA.out.trans hk5 (fun _ _ h => h))
  have HRC := Lib.hid (HRB.out.quiet hk5)
  have HPC := Lib.hid (HPB.out.keep hk5 (fun h => h))
  clear d0 d1 d2 hk5
  obtain ⟨d0, d1, d2, _, _, _⟩ := HPC.out.cells
  go_wp2_with fail
  refine (HPW.out _ HRC.out).mono ?_
  rintro e w6 ⟨rfl, hk6⟩
  have HK6 := Lib.hid (HK5.out.trans hk6 (fun _ _ h => h))
  clear hk6
  go_wp2_with fail
  go_ret
  exact ⟨rfl, HK6.out⟩
end Go.Proofs.YtknhfobcejpmeaaGreatDoor

/- PlanEndsL -/
/- A plan that was made ends as its code does, said of runs. -/
namespace Go.Proofs.YtknhfobcejpmeaaGreatDoor
open Go.RowKit Go.Deep
set_option linter.unusedVariables false
theorem plan_ends {many : Int} {l : List Ir.Op} (hG : Ir.Good many l) (hin : ∀ o ∈ l, Ir.OpIn o) (I : Ir.Inv (Ir.make l) l) (sp : Cp.St) (m : Nat → Int) (W : Int → Bool) (hs : Cp.Rng sp) (h0 : sp.R 0 = 0) (hc : sp.count ≤ 1099511627776) (hm : ∀ j, j < 16384 → 0 ≤ m j ∧ m j < 256) :
    (Ir.eoOf sp m many (Ir.runRows W (Ir.mc0 sp).X m (l.map fun o => [o]))).t = (Ir.eoOf sp m many (Ir.runRows W (Ir.mc0 sp).X m (Ir.make l).rows)).t ∧
    stL (Ir.eoOf sp m many (Ir.runRows W (Ir.mc0 sp).X m (Ir.make l).rows)).s = stL (Ir.eoOf sp m many (Ir.runRows W (Ir.mc0 sp).X m (l.map fun o => [o]))).s ∧
    (Ir.eoOf sp m many (Ir.runRows W (Ir.mc0 sp).X m (Ir.make l).rows)).m = (Ir.eoOf sp m many (Ir.runRows W (Ir.mc0 sp).X m (l.map fun o => [o]))).m ∧
    Cp.Rng (Ir.eoOf sp m many (Ir.runRows W (Ir.mc0 sp).X m (l.map fun o => [o]))).s := by
  have e1 := Ir.ends_of (W := W) hs hc hm hG hin
  have hr : Cp.Rng (Ir.eoOf sp m many (Ir.runRows W (Ir.mc0 sp).X m (l.map fun o => [o]))).s := by rw [e1.same]; exact e1.rng
  have t1 := Ir.runRows_go W (l.map fun o => [o]) (Ir.mc0 sp).X m
  have t2 := Ir.runRows_go W (Ir.make l).rows (Ir.mc0 sp).X m
  rw [I.go] at t2
  generalize Ir.runRows W (Ir.mc0 sp).X m (l.map fun o => [o]) = r1 at *
  generalize Ir.runRows W (Ir.mc0 sp).X m (Ir.make l).rows = r2 at *
  cases hg : Ir.rowsGo W (Ir.mc0 sp).X m (l.map fun o => [o]) with
  | trap =>
    rw [hg] at t1 t2
    cases r1 with
    | trap a =>
      cases r2 with
      | trap b => exact ⟨rfl, rfl, rfl, hr⟩
      | leave p X mm => exact t2.elim
      | fell => exact t2.elim
    | leave p X mm => exact t1.elim
    | fell => exact t1.elim
  | leave pc X mm =>
    rw [hg] at t1 t2
    cases r1 with
    | trap a => exact t1.elim
    | leave p Y n =>
      cases r2 with
      | trap b => exact t2.elim
      | leave p2 Y2 n2 =>
        obtain ⟨rfl, rfl, rfl⟩ := t1
        obtain ⟨rfl, rfl, rfl⟩ := t2
        exact ⟨rfl, rfl, rfl, hr⟩
      | fell => exact t2.elim
    | fell => exact t1.elim
  | fell X mm =>
    rw [hg] at t1 t2
    cases r1 with
    | trap a => exact t1.elim
    | leave p Y n => exact t1.elim
    | fell =>
      cases r2 with
      | trap b => exact t2.elim
      | leave p Y n => exact t2.elim
      | fell => exact ⟨rfl, rfl, rfl, hr⟩
end Go.Proofs.YtknhfobcejpmeaaGreatDoor

/- PlanFault -/
/- The walk of the reference's PlanFault. Printed by gen/planfault.py. -/
namespace Go.Proofs.YtknhfobcejpmeaaGreatDoor
open Go.RowKit Go.Deep
set_option linter.unusedVariables false
set_option linter.unusedSimpArgs false

set_option maxHeartbeats 8000000 in
set_option maxRecDepth 100000 in
theorem planFault_any (many : Int) (A : Option Addr) (n cap : Nat) (rows : List (List Ir.Op)) (w : World) (V : RowsAt w A n cap rows) (hc : cap ≤ 9223372036854775807) :
    Calls Tryz.prog 13 #[.int .i64 many, .slice A n cap] w fun e w' => e = .returned (faultV (Ir.planFault many rows)) ∧ Keeps (fun _ => False) w w' := by
  have HV := Lib.hid V
  have HL := Lib.hid V.len
  have hnc := V.le
  have HB0 := Lib.hid (FaultBox.new w 0 0)
  have HK0 := Lib.hid ((Keeps.refl (fun _ => False) w).alloc (.cells #[.int .i64 0, .int .i64 0] 44))
  have HF := Lib.hid (show Ir.planFault many rows = ((if many < 1 ∨ 24 < many then (2, -1) else if 200 < n then (8, -1) else if n = 0 then (3, -1)
      else match Ir.rowsErr many rows.length 0 rows with | some (c, i) => (c, (i : Int)) | none => if 8 < Ir.planStores rows then (8, -1) else (0, -1)) : Nat × Int) by rw [← HL.out]; rfl)
  obtain ⟨f, hf⟩ : ∃ f, Ir.planFault many rows = f := ⟨_, rfl⟩
  rw [hf] at HF ⊢
  clear hf V
  go_enter Tryz.func13, Tryz.ntmps13
  go_upto_region 1 with fail
  obtain ⟨rb, hrb⟩ : ∃ b, w.heap.size = b := ⟨_, rfl⟩
  have HRB := Lib.hid hrb
  rw [hrb] at HB0 ⊢
  clear hrb
  generalize w.alloc _ = w1 at *
  by_cases h1 : many < 1 ∨ 24 < many
  · have HR := Lib.hid (show f = (2, -1) by rw [HF.out, if_pos h1])
    rcases h1 with h1 | h1
    · have t1 : decide (many < 1) = true := decide_eq_true h1
      go_wp2_with fail
      refine (faultBare_any 2 _).mono ?_
      rintro e w9 ⟨rfl, hk9⟩
      have HB9 := Lib.hid (HB0.out.keep hk9 (fun h => h))
      have HK9 := Lib.hid (HK0.out.trans hk9 (fun _ _ h => h))
      clear hk9
      obtain ⟨r0, r1, g0, g1⟩ := HB9.out.cells
      have hp := HB9.out.put (c' := 2) (a' := -1)
      have HP := Lib.hid hp
      clear hp
      unfold faultV
      go_wp2_with fail
      refine bodyPost_ret (results_cell_row rfl _ _ rb 44 #[.int .i64 2, .int .i64 (-1)] (0, 0) _ rfl HP.out.1.blk Tryz.underlying44 rfl size_fault) rfl ⟨by rw [HR.out]; rfl, HK9.out.trans HP.out.2 (fun b hb e => by have e : b = rb := e; have := HRB.out; omega)⟩
    · have t1 : decide (many < 1) = false := decide_eq_false (by omega)
      have t2 : decide (24 < many) = true := decide_eq_true h1
      go_wp2_with fail
      refine (faultBare_any 2 _).mono ?_
      rintro e w9 ⟨rfl, hk9⟩
      have HB9 := Lib.hid (HB0.out.keep hk9 (fun h => h))
      have HK9 := Lib.hid (HK0.out.trans hk9 (fun _ _ h => h))
      clear hk9
      obtain ⟨r0, r1, g0, g1⟩ := HB9.out.cells
      have hp := HB9.out.put (c' := 2) (a' := -1)
      have HP := Lib.hid hp
      clear hp
      unfold faultV
      go_wp2_with fail
      refine bodyPost_ret (results_cell_row rfl _ _ rb 44 #[.int .i64 2, .int .i64 (-1)] (0, 0) _ rfl HP.out.1.blk Tryz.underlying44 rfl size_fault) rfl ⟨by rw [HR.out]; rfl, HK9.out.trans HP.out.2 (fun b hb e => by have e : b = rb := e; have := HRB.out; omega)⟩
  have t1 : decide (many < 1) = false := decide_eq_false (by omega)
  have t2 : decide (24 < many) = false := decide_eq_false (by omega)
  by_cases h2 : 200 < n
  · have HR := Lib.hid (show f = (8, -1) by rw [HF.out, if_neg h1, if_pos h2])
    have t3 : decide (200 < n) = true := decide_eq_true h2
    clear h1
    go_wp2_with fail
    refine (faultBare_any 8 _).mono ?_
    rintro e w9 ⟨rfl, hk9⟩
    have HB9 := Lib.hid (HB0.out.keep hk9 (fun h => h))
    have HK9 := Lib.hid (HK0.out.trans hk9 (fun _ _ h => h))
    clear hk9
    obtain ⟨r0, r1, g0, g1⟩ := HB9.out.cells
    have hp := HB9.out.put (c' := 8) (a' := -1)
    have HP := Lib.hid hp
    clear hp
    unfold faultV
    go_wp2_with fail
    refine bodyPost_ret (results_cell_row rfl _ _ rb 44 #[.int .i64 8, .int .i64 (-1)] (0, 0) _ rfl HP.out.1.blk Tryz.underlying44 rfl size_fault) rfl ⟨by rw [HR.out]; rfl, HK9.out.trans HP.out.2 (fun b hb e => by have e : b = rb := e; have := HRB.out; omega)⟩
  have t3 : decide (200 < n) = false := decide_eq_false h2
  by_cases h4 : n = 0
  · have HR := Lib.hid (show f = (3, -1) by rw [HF.out, if_neg h1, if_neg h2, if_pos h4])
    clear h1
    subst h4
    go_wp2_with fail
    refine (faultBare_any 3 _).mono ?_
    rintro e w9 ⟨rfl, hk9⟩
    have HB9 := Lib.hid (HB0.out.keep hk9 (fun h => h))
    have HK9 := Lib.hid (HK0.out.trans hk9 (fun _ _ h => h))
    clear hk9
    obtain ⟨r0, r1, g0, g1⟩ := HB9.out.cells
    have hp := HB9.out.put (c' := 3) (a' := -1)
    have HP := Lib.hid hp
    clear hp
    unfold faultV
    go_wp2_with fail
    refine bodyPost_ret (results_cell_row rfl _ _ rb 44 #[.int .i64 3, .int .i64 (-1)] (0, 0) _ rfl HP.out.1.blk Tryz.underlying44 rfl size_fault) rfl ⟨by rw [HR.out]; rfl, HK9.out.trans HP.out.2 (fun b hb e => by have e : b = rb := e; have := HRB.out; omega)⟩
  have t5 : ((n : Int) == 0) = false := by simpa using h4
  have HF2 := Lib.hid (show f = match Ir.rowsErr many rows.length 0 rows with | some (c, i) => (c, (i : Int)) | none => if 8 < Ir.planStores rows then (8, -1) else (0, -1) by rw [HF.out, if_neg h1, if_neg h2, if_neg h4])
  have HLX := Lib.hid (show ∃ m, m + 1 = n from ⟨n - 1, by omega⟩)
  obtain ⟨m, hm⟩ := HLX.out
  clear HLX h1
  have hw1 : IntKind.i64.wrap ((n : Int) - 1) = (m : Int) := by rw [IntKind.wrap_i64]; omega
  have hm1 : (0 : Int) ≤ (m : Int) := by omega
  have HM := Lib.hid hm
  clear hm
  go_wp2_with fail
  go_loopw [5, 6] (fun s5 s6 wr => ∃ i st : Nat, i ≤ n ∧ st ≤ 4 * i ∧ s5 = .int .i64 st ∧ s6 = .int .i64 i ∧ Ir.planStores (rows.take i) = st ∧ (∀ j, j < i → Ir.rowErr many (rows.getD j []) (decide (j + 1 = rows.length)) = 0) ∧ Keeps (fun _ => False) w1 wr) (fun _ s6 _ => n - (intOf s6).toNat)
  case atStart => exact ⟨0, 0, by omega, by omega, rfl, rfl, rfl, fun j hj => absurd hj (Nat.not_lt_zero _), Keeps.refl _ _⟩
  case round =>
    obtain ⟨i, st, hi, hst, rfl, rfl, hps, hz, hKi⟩ := hrel
    have HPS := Lib.hid hps
    have HZ := Lib.hid hz
    have HKI := Lib.hid hKi
    clear hps hz hKi
    have HKT := Lib.hid (HK0.out.trans HKI.out (fun _ _ h => h))
    have HBT := Lib.hid (HB0.out.keep HKI.out (fun h => h))
    by_cases hlt : i < n
    · have hil : i < rows.length := by rw [HL.out]; exact hlt
      obtain ⟨ob, oo, Ai, ci, rfl, e0, e1, e2⟩ := (HV.out.quiet HKT.out).get hlt
      have HST := Lib.hid (Ir.planStores_step rows i hil)
      have HBAD := Lib.hid (fun (c : Nat) (h : Ir.rowErr many (rows.getD i []) (decide (i + 1 = rows.length)) = c) (h0 : c ≠ 0) => (show f = (c, (i : Int)) by
        rw [HF2.out, Ir.rowsErr_at hil HZ.out (by rw [h]; exact h0), h]))
      obtain ⟨lb, hlb⟩ : ∃ b, decide (i + 1 = rows.length) = b := ⟨_, rfl⟩
      have hbe : ((i : Int) == (m : Int)) = lb := by
        rw [← hlb, HL.out, ← HM.out]
        by_cases e : i = m
        · subst e; simp
        · have : ¬ i + 1 = m + 1 := by omega
          rw [decide_eq_false this]
          exact beq_eq_false_iff_ne.2 (by omega)
      rw [hlb] at HBAD
      have HLB := Lib.hid hlb
      clear hlb
      have HSL := Lib.hid (fun h => (Ir.rowErr_len (many := many) (l := rows.getD i []) (last := lb) h).2)
      have HSS := Lib.hid (Ir.stores_le_len (rows.getD i []))
      obtain ⟨l, hl⟩ : ∃ l, rows.getD i [] = l := ⟨_, rfl⟩
      rw [hl] at e0 e1 HBAD HST HSL HSS
      have HLE := Lib.hid hl
      clear hl
      have HE1 := Lib.hid e1
      have HE0 := Lib.hid e0
      have HRE := Lib.hid (fun w V => rowError_any many lb Ai l.length ci l w V e2)
      have HSO := Lib.hid (fun w V => storesOf_any Ai l.length ci l w V e2)
      obtain ⟨c, hcc⟩ : ∃ c, Ir.rowErr many l lb = c := ⟨_, rfl⟩
      rw [hcc] at HRE
      have HCC := Lib.hid hcc
      clear hcc e1 e2
      have hi63 : (i : Int) < n := by omega
      go_wp2_with fail
      refine (HRE.out _ HE1.out).mono ?_
      rintro e w5 ⟨rfl, hk5⟩
      have HK5 := Lib.hid (HKT.out.trans hk5 (fun _ _ h => h))
      have HKI5 := Lib.hid (HKI.out.trans hk5 (fun _ _ h => h))
      have HB5 := Lib.hid (HBT.out.keep hk5 (fun h => h))
      have HE5 := Lib.hid (HE1.out.quiet hk5)
      have f0 := hk5.cell' HE0.out (fun h => h)
      clear hk5 e0
      by_cases hc0 : c = 0
      · have t8 : decide (0 < c) = false := decide_eq_false (by omega)
        have HL4 := Lib.hid (HSL.out (by rw [HCC.out]; exact hc0))
        have HZ2 := Lib.hid (show ∀ j, j < i + 1 → Ir.rowErr many (rows.getD j []) (decide (j + 1 = rows.length)) = 0 from fun j hj => by
          by_cases e : j = i
          · subst e
            rw [HLE.out, HLB.out, HCC.out, hc0]
          · exact HZ.out j (by omega))
        have hs1 : (Ir.stores l : Int) ≤ 4 := by have := HSS.out; have := HL4.out; omega
        have hs0 : (0 : Int) ≤ (Ir.stores l : Int) := by omega
        obtain ⟨sl, hsl⟩ : ∃ s, Ir.stores l = s := ⟨_, rfl⟩
        rw [hsl] at HSO HST hs1 hs0
        clear hsl hc0
        go_wp2_with fail
        refine (HSO.out _ HE5.out).mono ?_
        rintro e w6 ⟨rfl, hk6⟩
        have HK6 := Lib.hid (HKI5.out.trans hk6 (fun _ _ h => h))
        clear hk6 f0
        go_wp2_with fail
        go_roundw
        case rel => exact ⟨i + 1, st + sl, by omega, by omega, by go_num, by go_num, by rw [HST.out, HPS.out], HZ2.out, HK6.out⟩
        case measure => simp [intOf]; omega
      · have t8 : decide (0 < c) = true := decide_eq_true (by omega)
        have HR := Lib.hid (HBAD.out c HCC.out hc0)
        clear hc0 f0
        obtain ⟨r0, r1, g0, g1⟩ := HB5.out.cells
        have hp := HB5.out.put (c' := c) (a' := i)
        have HP := Lib.hid hp
        clear hp
        go_wp2_with fail
        refine bodyPost_ret (results_cell_row rfl _ _ rb 44 #[.int .i64 c, .int .i64 i] (0, 0) _ rfl HP.out.1.blk Tryz.underlying44 rfl size_fault) rfl ⟨by rw [HR.out]; rfl, HK5.out.trans HP.out.2 (fun b hb e => by have e : b = rb := e; have := HRB.out; omega)⟩
    · obtain rfl : i = n := by omega
      have HRN := Lib.hid (show f = if 8 < st then (8, -1) else (0, -1) by
        rw [HF2.out, Ir.rowsErr_all (fun j hj => HZ.out j (by rw [← HL.out]; exact hj)), ← HPS.out, List.take_of_length_le (by rw [HL.out]; exact Nat.le_refl _)])
      clear HZ HPS
      by_cases h9 : 8 < st
      · have HR := Lib.hid (show f = (8, -1) by rw [HRN.out, if_pos h9])
        have t9 : decide (8 < st) = true := decide_eq_true h9
        go_wp2_with fail
        refine (faultBare_any 8 _).mono ?_
        rintro e w9 ⟨rfl, hk9⟩
        have HB9 := Lib.hid (HBT.out.keep hk9 (fun h => h))
        have HK9 := Lib.hid (HKT.out.trans hk9 (fun _ _ h => h))
        clear hk9
        obtain ⟨r0, r1, g0, g1⟩ := HB9.out.cells
        have hp := HB9.out.put (c' := 8) (a' := -1)
        have HP := Lib.hid hp
        clear hp
        unfold faultV
        go_wp2_with fail
        refine bodyPost_ret (results_cell_row rfl _ _ rb 44 #[.int .i64 8, .int .i64 (-1)] (0, 0) _ rfl HP.out.1.blk Tryz.underlying44 rfl size_fault) rfl ⟨by rw [HR.out]; rfl, HK9.out.trans HP.out.2 (fun b hb e => by have e : b = rb := e; have := HRB.out; omega)⟩
      · have HR := Lib.hid (show f = (0, -1) by rw [HRN.out, if_neg h9])
        have t9 : decide (8 < st) = false := decide_eq_false h9
        go_wp2_with fail
        refine (faultFine_any _).mono ?_
        rintro e w9 ⟨rfl, hk9⟩
        have HB9 := Lib.hid (HBT.out.keep hk9 (fun h => h))
        have HK9 := Lib.hid (HKT.out.trans hk9 (fun _ _ h => h))
        clear hk9
        obtain ⟨r0, r1, g0, g1⟩ := HB9.out.cells
        have hp := HB9.out.put (c' := 0) (a' := -1)
        have HP := Lib.hid hp
        clear hp
        unfold faultV
        go_wp2_with fail
        refine bodyPost_ret (results_cell_row rfl _ _ rb 44 #[.int .i64 0, .int .i64 (-1)] (0, 0) _ rfl HP.out.1.blk Tryz.underlying44 rfl size_fault) rfl ⟨by rw [HR.out]; rfl, HK9.out.trans HP.out.2 (fun b hb e => by have e : b = rb := e; have := HRB.out; omega)⟩
end Go.Proofs.YtknhfobcejpmeaaGreatDoor
