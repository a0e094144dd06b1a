import Derived.Test.YtlmnmncdoiealaaGreatDoorKaz15
import Derived.Test.YtlmnmncdoiealaaGreatDoorKaz00
import Derived.Test.YtlmnmncdoiealaaGreatDoorKaz10

/- PlanCheck -/
/- The walk of plan.Check: what it answers is Ir.planFault. -/
namespace Go.Proofs.YtlmnmncdoiealaaGreatDoor
open Go.RowKit Go.Deep
set_option linter.unusedVariables false
set_option linter.unusedSimpArgs false

set_option maxHeartbeats 8000000 in
set_option maxRecDepth 100000 in
theorem planCheck_any (pc many : Int) (A : Option Addr) (n cap : Nat) (rows : List (List Ir.Op)) (w : World) (ea : Nat → Addr) (E : ErrsR w ea) (V : RowsAt w A n cap rows) (hc : cap ≤ 9223372036854775807) :
    Calls Tryz.prog 28 #[.agg #[.int .u32 pc, .int .i64 many, .slice A n cap]] w fun e w' => (∃ v, e = .returned v ∧ FaultIs w' ea (Ir.planFault many rows) v) ∧ Keeps (fun _ => False) w w' := by
  have HE := Lib.hid E
  have HV := Lib.hid V
  have hnc := V.le
  have HL := Lib.hid V.len
  have HN := Lib.hid (code_new w pc many A n cap 48)
  have HF := Lib.hid (show Ir.planFault many rows = ((if many < 1 ∨ 24 < many then (2, -1) else if 200 < n then (8, -1) else if n = 0 then (3, -1)
      else match Ir.rowsErr many rows.length 0 rows with | some (c, i) => (c, (i : Int)) | none => if 8 < Ir.planStores rows then (8, -1) else (0, -1)) : Nat × Int) by rw [← HL.out]; rfl)
  obtain ⟨f, hf⟩ : ∃ f, Ir.planFault many rows = f := ⟨_, rfl⟩
  rw [hf] at HF ⊢
  clear hf V E
  go_enter Tryz.func28, Tryz.ntmps28
  go_upto_region 1 with fail
  obtain ⟨hV, hK⟩ := HN.out
  generalize w.alloc _ = w1 at *
  generalize w.heap.size = x at *
  have HC1 := Lib.hid hV
  have HK1 := Lib.hid hK
  obtain ⟨c0, c1, c2⟩ := hV
  have gb := (HE.out.quiet hK).c.bound
  have gs := (HE.out.quiet hK).c.shape
  have gf := (HE.out.quiet hK).c.full
  clear hK HN
  by_cases h1 : many < 1
  · have HR := Lib.hid (show f = (2, -1) by rw [HF.out, if_pos (.inl h1)])
    have h1' : decide (many < 1) = true := decide_eq_true h1
    clear h1
    go_wp2_with fail
    go_ret
    exact ⟨⟨_, rfl, FaultIs.bare HR.out (by decide)⟩, HK1.out⟩
  by_cases h2 : 24 < many
  · have HR := Lib.hid (show f = (2, -1) by rw [HF.out, if_pos (.inr h2)])
    have h1' : decide (many < 1) = false := decide_eq_false h1
    have h2' : decide (24 < many) = true := decide_eq_true h2
    clear h1 h2
    go_wp2_with fail
    go_ret
    exact ⟨⟨_, rfl, FaultIs.bare HR.out (by decide)⟩, HK1.out⟩
  have h12 : ¬ (many < 1 ∨ 24 < many) := by omega
  have h1' : decide (many < 1) = false := decide_eq_false h1
  have h2' : decide (24 < many) = false := decide_eq_false h2
  clear h1 h2
  by_cases h3 : 200 < n
  · have HR := Lib.hid (show f = (8, -1) by rw [HF.out, if_neg h12, if_pos h3])
    have h3' : decide ((200 : Int) < (n : Int)) = true := decide_eq_true (by omega)
    clear h12 h3
    go_wp2_with fail
    go_ret
    exact ⟨⟨_, rfl, FaultIs.bare HR.out (by decide)⟩, HK1.out⟩
  have h3' : decide ((200 : Int) < (n : Int)) = false := decide_eq_false (by omega)
  by_cases h4 : n = 0
  · have HR := Lib.hid (show f = (3, -1) by rw [HF.out, if_neg h12, if_neg h3, if_pos h4])
    have h4' : ((n : Int) == 0) = true := by simp [h4]
    have H4 := Lib.hid h4
    clear h12 h3 h4
    go_wp2_with fail
    go_ret
    exact ⟨⟨_, rfl, FaultIs.bare HR.out (by decide)⟩, HK1.out⟩
  have h4' : ((n : Int) == 0) = false := by simp [h4]
  have HF2 := Lib.hid (show f = match Ir.rowsErr many rows.length 0 rows with | some (c, i) => (c, (i : Int)) | none => if 8 < Ir.planStores rows then (8, -1) else (0, -1) by rw [HF.out, if_neg h12, if_neg h3, if_neg h4])
  have hn200 : n ≤ 200 := by omega
  obtain ⟨m, hm⟩ : ∃ m, m + 1 = n := ⟨n - 1, by omega⟩
  have hw1 : IntKind.i64.wrap ((n : Int) - 1) = (m : Int) := by rw [IntKind.wrap_i64]; omega
  have hm1 : (0 : Int) ≤ (m : Int) := by omega
  have HM := Lib.hid hm
  clear hm h12 h3 h4 gb gs gf
  go_wp2_with fail
  clear c0 c1 c2
  go_loopw [31] (fun s31 wr => ∃ i : Nat, i ≤ n ∧ s31 = .int .i64 i ∧ (∀ j, j < i → Ir.rowErr many (rows.getD j []) (decide (j + 1 = rows.length)) = 0) ∧ Keeps (fun _ => False) w1 wr) (fun s31 _ => n - (intOf s31).toNat)
  case atStart => exact ⟨0, by omega, rfl, fun j hj => absurd hj (Nat.not_lt_zero _), Keeps.refl _ _⟩
  case round =>
    obtain ⟨i, hi, rfl, hz, hKi⟩ := hrel
    have HZ := Lib.hid hz
    have HKI := Lib.hid hKi
    clear hz hKi
    have HKT := Lib.hid (HK1.out.trans HKI.out (fun _ _ h => h))
    have HCT := Lib.hid (HC1.out.keep HKI.out (fun h => h))
    obtain ⟨c0, c1, c2⟩ := HCT.out
    by_cases hlt : i < n
    · have hil : i < rows.length := by rw [HL.out]; exact hlt
      obtain ⟨ob, oo, Ai, ci, rfl, e0, e1, e2⟩ := (HV.out.quiet HKT.out).get hlt
      have HBAD := Lib.hid (fun (c : Nat) (h : Ir.rowErr many (rows.getD i []) (decide (i + 1 = rows.length)) = c) (h0 : c ≠ 0) => (show f = (c, (i : Int)) by
        rw [HF2.out, Ir.rowsErr_at hil HZ.out (by rw [h]; exact h0), h]))
      obtain ⟨lb, hlb⟩ : ∃ b, decide (i + 1 = rows.length) = b := ⟨_, rfl⟩
      have hbe : ((i : Int) == (m : Int)) = lb := by
        rw [← hlb, HL.out, ← HM.out]
        by_cases e : i = m
        · subst e; simp
        · have : ¬ i + 1 = m + 1 := by omega
          rw [decide_eq_false this]
          exact beq_eq_false_iff_ne.2 (by omega)
      rw [hlb] at HBAD
      have HLB := Lib.hid hlb
      clear hlb
      obtain ⟨l, hl⟩ : ∃ l, rows.getD i [] = l := ⟨_, rfl⟩
      rw [hl] at e0 e1 HBAD
      have HLE := Lib.hid hl
      clear hl hil
      have HE1 := Lib.hid e1
      have HRE := Lib.hid (fun w E V => planRow_any many lb Ai l.length ci l w ea E V e2)
      obtain ⟨c, hcc⟩ : ∃ c, Ir.rowErr many l lb = c := ⟨_, rfl⟩
      rw [hcc] at HRE
      have HCC := Lib.hid hcc
      clear hcc e1 e2
      have hi63 : (i : Int) < n := by omega
      go_wp2_with fail
      refine (HRE.out _ (HE.out.quiet HKT.out) HE1.out).mono ?_
      rintro e w5 ⟨rfl, hk5⟩
      have HK5 := Lib.hid (HKT.out.trans hk5 (fun _ _ h => h))
      have HKI5 := Lib.hid (HKI.out.trans hk5 (fun _ _ h => h))
      clear hk5 e0 c0 c1 c2
      by_cases hc0 : c = 0
      · subst hc0
        rw [show errOf0 ea 0 = .nilIface from rfl]
        have HZ2 := Lib.hid (show ∀ j, j < i + 1 → Ir.rowErr many (rows.getD j []) (decide (j + 1 = rows.length)) = 0 from fun j hj => by
          by_cases e : j = i
          · subst e
            rw [HLE.out, HLB.out, HCC.out]
          · exact HZ.out j (by omega))
        go_wp2_with fail
        go_roundw
        case rel => exact ⟨i + 1, by omega, by go_num, HZ2.out, HKI5.out⟩
        case measure => simp [intOf]; omega
      · have HR := Lib.hid (HBAD.out c HCC.out hc0)
        rw [show errOf0 ea c = .iface 168 (.pointer (some (ea c))) from if_neg hc0]
        have HC0 := Lib.hid hc0
        clear hc0
        go_wp2_with fail
        go_ret
        exact ⟨⟨_, rfl, FaultIs.placed HR.out HC0.out (by omega) w5⟩, HK5.out.alloc _⟩
    · obtain rfl : i = n := by omega
      have HRN := Lib.hid (show f = if 8 < Ir.stores rows.flatten then (8, -1) else (0, -1) by
        rw [HF2.out, Ir.rowsErr_all (fun j hj => HZ.out j (by rw [← HL.out]; exact hj)), ← Ir.stores_flat])
      have HBD := Lib.hid (show ∀ j, j < rows.length → (rows.getD j []).length ≤ 1000 from fun j hj => by
        have := (Ir.rowErr_len (HZ.out j (by rw [← HL.out]; exact hj))).2
        omega)
      clear HZ
      generalize i = n at *
      generalize wr = w3 at *
      have HCN := Lib.hid (fun w V => concat_any A n cap rows w V hc (by omega) HBD.out)
      go_wp2_with fail
      refine (HCN.out _ (HV.out.quiet HKT.out)).mono ?_
      rintro e w5 ⟨v, rfl, hov, hk5⟩
      obtain ⟨A2, c2', rfl, how⟩ := hov
      have HO := Lib.hid (OpsAt.of_owns how rfl)
      have HCP := Lib.hid (owns_cap how)
      have HK5 := Lib.hid (HKT.out.trans hk5 (fun _ _ h => h))
      clear hk5 c0 c1 c2 how
      have HSO := Lib.hid (fun w V => Stores_any A2 rows.flatten.length c2' rows.flatten w V HCP.out)
      obtain ⟨fl, hfl⟩ : ∃ fl, rows.flatten.length = fl := ⟨_, rfl⟩
      obtain ⟨st, hst⟩ : ∃ st, Ir.stores rows.flatten = st := ⟨_, rfl⟩
      rw [hfl] at HSO HO ⊢
      rw [hst] at HSO HRN
      clear hst hfl
      go_wp2_with fail
      refine (HSO.out _ HO.out).mono ?_
      rintro e w6 ⟨rfl, hk6⟩
      have HK6 := Lib.hid (HK5.out.trans hk6 (fun _ _ h => h))
      have gf := (HE.out.quiet HK6.out).c.full
      clear hk6
      by_cases h9 : 8 < st
      · have HR := Lib.hid (show f = (8, -1) by rw [HRN.out, if_pos h9])
        have t9 : decide (8 < st) = true := decide_eq_true h9
        have t9' : decide ((8 : Int) < (st : Int)) = true := decide_eq_true (by omega)
        clear h9
        go_wp2_with fail
        go_ret
        exact ⟨⟨_, rfl, FaultIs.bare HR.out (by decide)⟩, HK6.out⟩
      · have HR := Lib.hid (show f = (0, -1) by rw [HRN.out, if_neg h9])
        have t9 : decide (8 < st) = false := decide_eq_false h9
        have t9' : decide ((8 : Int) < (st : Int)) = false := decide_eq_false (by omega)
        clear h9
        go_wp2_with fail
        go_ret
        exact ⟨⟨_, rfl, .inl ⟨by rw [HR.out], rfl⟩⟩, HK6.out⟩
/-- how many the widest row has -/
def Ir.wide (rows : List (List Ir.Op)) : Nat := rows.foldl (fun n l => max n l.length) 0
theorem Ir.wide_step (rows : List (List Ir.Op)) (i : Nat) (h : i < rows.length) : Ir.wide (rows.take (i + 1)) = max (Ir.wide (rows.take i)) (rows.getD i []).length := by
  unfold Ir.wide
  rw [List.take_succ_eq_append_getElem h, List.foldl_append]
  have : rows.getD i [] = rows[i] := by simp [List.getD, h]
  rw [this]
  rfl
end Go.Proofs.YtlmnmncdoiealaaGreatDoor

/- PGood -/
/- A plan whose fault is none, plainly. -/
namespace Go.Proofs.YtlmnmncdoiealaaGreatDoor
open Go.RowKit
set_option linter.unusedVariables false
namespace Ir
structure PGood (many : Int) (rows : List (List Op)) : Prop where
  range : 1 ≤ many ∧ many ≤ 24
  len : rows.length ≤ 200
  row : ∀ l ∈ rows, l.length ≤ 4 ∧ ∀ o ∈ l, opErr o many = 0
theorem opErrs_all0 {many : Int} : ∀ {l : List Op}, opErrs many l = 0 → ∀ o ∈ l, opErr o many = 0
  | [], _, o, h => by cases h
  | p :: r, h, o, ho => by
    unfold opErrs at h
    split at h
    · rename_i hp
      exact absurd h hp
    · rename_i hp
      rcases List.mem_cons.1 ho with rfl | ho
      · simpa using hp
      · exact opErrs_all0 h o ho
theorem rowErr_row {many : Int} {l : List Op} {last : Bool} (h : rowErr many l last = 0) : l.length ≤ 4 ∧ ∀ o ∈ l, opErr o many = 0 := by
  unfold rowErr at h
  split at h
  · cases h
  rename_i h1
  split at h
  · rename_i h2
    exact absurd h h2
  rename_i h2
  exact ⟨by omega, opErrs_all0 (by simpa using h2)⟩
theorem rowsErr_no {many : Int} {n : Nat} : ∀ (rows : List (List Op)) (i : Nat), (match rowsErr many n i rows with | some (c, _) => c ≠ 0 | none => ∀ l ∈ rows, l.length ≤ 4 ∧ ∀ o ∈ l, opErr o many = 0)
  | [], _ => fun l h => by cases h
  | l :: r, i => by
    unfold rowsErr
    by_cases h : rowErr many l (decide (i + 1 = n)) ≠ 0
    · rw [if_pos h]
      exact h
    · rw [if_neg h]
      have hr := rowsErr_no (many := many) (n := n) r (i + 1)
      cases hq : rowsErr many n (i + 1) r with
      | some p =>
        rw [hq] at hr
        exact hr
      | none =>
        rw [hq] at hr
        intro q hq
        rcases List.mem_cons.1 hq with rfl | hq
        · exact rowErr_row (by simpa using h)
        · exact hr q hq
theorem pgood_of {many : Int} {rows : List (List Op)} (h : (planFault many rows).1 = 0) : PGood many rows := by
  unfold planFault at h
  split at h
  · cases h
  rename_i h1
  split at h
  · cases h
  rename_i h2
  split at h
  · cases h
  have hr := rowsErr_no (many := many) (n := rows.length) rows 0
  cases hq : rowsErr many rows.length 0 rows with
  | some p =>
    rw [hq] at h hr
    exact absurd h hr
  | none =>
    rw [hq] at hr
    exact ⟨by omega, by omega, hr⟩
theorem planFault_ok {many : Int} {rows : List (List Op)} (h : (planFault many rows).1 = 0) : planFault many rows = (0, -1) := by
  unfold planFault at h ⊢
  split at h
  · cases h
  rename_i h1
  split at h
  · cases h
  rename_i h2
  split at h
  · cases h
  rename_i h3
  rw [if_neg h1, if_neg h2, if_neg h3]
  have hr := rowsErr_no (many := many) (n := rows.length) rows 0
  cases hq : rowsErr many rows.length 0 rows with
  | some p =>
    rw [hq] at h hr
    exact absurd h hr
  | none =>
    rw [hq] at h
    dsimp only at h ⊢
    split at h
    · cases h
    · rename_i h4
      rw [if_neg h4]
end Ir
end Go.Proofs.YtlmnmncdoiealaaGreatDoor
