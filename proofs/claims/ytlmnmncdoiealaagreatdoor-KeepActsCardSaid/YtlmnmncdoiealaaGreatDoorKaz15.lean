import Derived.Test.YtlmnmncdoiealaaGreatDoorKaz14
import Derived.Test.YtlmnmncdoiealaaGreatDoorIrOp2
import Derived.Deep.QuietTactic
import Derived.Shelf.GgClosure.Gives
import Derived.Test.YtlmnmncdoiealaaGreatDoorKaz06
import Derived.Test.YtlmnmncdoiealaaGreatDoorGrow
import Derived.Lib.AppendZeros
import Derived.Laws.OwnMore

/- PlanRow -/
/- The walk of plan.row. Printed by gen/planrow.py. -/
namespace Go.Proofs.YtlmnmncdoiealaaGreatDoor
open Go.RowKit Go.Deep
set_option linter.unusedVariables false
set_option linter.unusedSimpArgs false

/-- the errors of a plan -/
structure ErrsR (w : World) (ea : Nat → Addr) : Prop where
  c : ErrsC w ea
  exist : w.cell? ⟨6, 0, none⟩ = some (.iface 168 (.pointer (some (ea 7))))
theorem ErrsR.quiet {w w' : World} {ea : Nat → Addr} (E : ErrsR w ea) (k : Keeps (fun _ => False) w w') : ErrsR w' ea := ⟨E.c.quiet k, k.cell' E.exist (fun h => h)⟩
theorem OpsAt.take {w : World} {A : Option Addr} {n cap : Nat} {l : List Ir.Op} (V : OpsAt w A n cap l) {i : Nat} (hi : i ≤ n) : OpsAt w A i cap (l.take i) := by
  obtain ⟨h1, h2, h3⟩ := V
  refine ⟨by rw [List.length_take, h1]; omega, by omega, ?_⟩
  rcases h3 with h3 | ⟨b, o, h4, h5, h6⟩
  · exact .inl h3
  · refine .inr ⟨b, o, h4, h5, fun j hj => ?_⟩
    have e : (l.take i).getD j Ir.nop = l.getD j Ir.nop := by
      rw [List.getD_eq_getElem?_getD, List.getElem?_take_of_lt hj, List.getD_eq_getElem?_getD]
    rw [e]
    exact h6 j (by omega)
namespace Ir
theorem writes_nn {o : Op} {many : Int} (h : opErr o many = 0) : 0 ≤ writes o := by
  have hle := kn_le o.k
  have hd : kn o.k = 1 ∨ kn o.k = 2 ∨ kn o.k = 5 ∨ 10 ≤ kn o.k → 1 ≤ o.d := by
    unfold opErr at h
    split at h
    · cases h
    rename_i hk
    split at h
    · cases h
    rename_i h2
    rw [Bool.not_eq_false] at h2
    simp only [Bool.and_eq_true, decide_eq_true_eq] at h2
    obtain ⟨⟨⟨hr, hb⟩, _⟩, _⟩ := h2
    unfold regs at hr
    simp only [Bool.and_eq_true, Bool.or_eq_true, decide_eq_true_eq, Bool.not_eq_true'] at hr
    unfold hasD hasA hasB at hr
    simp at hr
    intro h
    omega
  rcases (show kn o.k = 0 ∨ (kn o.k = 1 ∨ kn o.k = 2 ∨ kn o.k = 5 ∨ 10 ≤ kn o.k) ∨ (kn o.k = 3 ∨ kn o.k = 4 ∨ (6 ≤ kn o.k ∧ kn o.k ≤ 9)) by omega) with h0 | h1 | h1
  · unfold opErr at h
    rw [if_pos h0] at h
    cases h
  · rw [writes_d h1]
    have := hd h1
    omega
  · rw [writes_0 h1]
    omega
end Ir
theorem any_final (l : List Ir.Op) : l.any (fun o => Ir.isOut (Ir.kn o.k)) = decide (0 < Ir.outs l) := by
  unfold Ir.outs
  rw [Bool.eq_iff_iff, List.any_eq_true, decide_eq_true_eq, List.countP_pos_iff]
/-- does an op ahead write what op number i writes? -/
theorem any_dup (l : List Ir.Op) (i : Nat) (hi : i < l.length) (h0 : 0 < Ir.writes (l.getD i Ir.nop)) : (l.take i).any (fun o => Ir.writes o == Ir.writes (l.getD i Ir.nop)) = true ↔ ∃ k, k < i ∧ dupAt l i k := by
  rw [List.any_eq_true]
  constructor
  · rintro ⟨o, ho, he⟩
    obtain ⟨k, hk, rfl⟩ := List.getElem_of_mem ho
    rw [List.length_take] at hk
    refine ⟨k, by omega, h0, ?_⟩
    rw [List.getElem_take] at he
    have e : l.getD k Ir.nop = l[k] := by simp [List.getD, show k < l.length by omega]
    rw [e]
    exact (by simpa using he : _ = _).symm
  · rintro ⟨k, hk, _, he⟩
    refine ⟨l[k], ?_, ?_⟩
    · rw [List.mem_take_iff_getElem]
      exact ⟨k, by omega, rfl⟩
    · have e : l.getD k Ir.nop = l[k] := by simp [List.getD, show k < l.length by omega]
      rw [← e, he]
      simp
set_option maxHeartbeats 2000000 in
set_option maxRecDepth 100000 in
theorem rowDup_any (d : Int) (db : Nat) (w : World) (hc : w.cell? ⟨db, 0, none⟩ = some (.int .i64 d)) : PredOp 70 #[.pointer (some ⟨db, 0, none⟩)] (fun o => Ir.writes o == d) w := by
  intro o W hk
  show Calls Tryz.prog 70 #[.agg (opC o), .pointer (some ⟨db, 0, none⟩)] W _
  have hc2 := hk.cell' hc (fun h => h)
  clear hk hc
  have HWR := Lib.hid (fun w => writes_any o w)
  obtain ⟨x1, hx1⟩ : ∃ x1, Ir.writes o = x1 := ⟨_, rfl⟩
  rw [hx1] at HWR
  show Calls Tryz.prog _ _ W (fun e w' => e = .returned (.bool (Ir.writes o == d)) ∧ Keeps (fun _ => False) W w')
  rw [hx1]
  clear hx1
  obtain ⟨k, dd, a, b, im, t⟩ := o
  have HN := Lib.hid (op_new W k dd a b im t 64)
  have hd2 := cell_alloc hc2 (.cells #[.string k, .int .i64 dd, .int .i64 a, .int .i64 b, .int .u32 im, .int .i64 t] 64)
  clear hc2
  unfold opC
  go_enter Tryz.func70, Tryz.ntmps70
  go_upto_region 1 with fail
  obtain ⟨hV, hK⟩ := HN.out
  have HKn := Lib.hid hK
  generalize W.alloc _ = w1 at *
  generalize W.heap.size = y at *
  clear hK HN
  obtain ⟨v0, v1, v2, v3, v4, v5⟩ := hV
  simp only at v0 v1 v2 v3 v4 v5
  go_region_held3 (fun w' => Keeps (fun _ => False) w1 w' ∧ w'.cell? ⟨y, 0, none⟩ = some (.string k) ∧ w'.cell? ⟨y, 1, none⟩ = some (.int .i64 dd) ∧ w'.cell? ⟨y, 2, none⟩ = some (.int .i64 a) ∧ w'.cell? ⟨y, 3, none⟩ = some (.int .i64 b) ∧ w'.cell? ⟨y, 4, none⟩ = some (.int .u32 im) ∧ w'.cell? ⟨y, 5, none⟩ = some (.int .i64 t) ∧ w'.cell? ⟨db, 0, none⟩ = some (.int .i64 d))
    (first | (refine ⟨?_, ?_, ?_, ?_, ?_, ?_, ?_, ?_⟩ <;> first | ((repeat (first | exact Keeps.refl _ _ | assumption | apply Keeps.drew | apply Keeps.drewN | apply Keeps.alloc | (refine Keeps.trans ?_ (by assumption) (fun _ _ h => h)))); done) | (refine Keeps.cell' (S := fun _ => False) (w := w1) ?_ (by assumption) (fun f => f); (repeat (first | exact Keeps.refl _ _ | assumption | apply Keeps.drew | apply Keeps.drewN | apply Keeps.alloc | (refine Keeps.trans ?_ (by assumption) (fun _ _ h => h)))); done)) | (trace_state; fail))
    (first | (go_at_call 68; refine (HWR.out _).mono ?_; rintro e w8 ⟨rfl, hk8⟩))
  rename_i hh
  have HK2 := Lib.hid (HKn.out.trans hh.1 (fun _ _ h => h))
  clear hh v0 v1 v2 v3 v4 v5 hd2
  go_wp2_with fail
  go_ret
  exact ⟨rfl, HK2.out⟩
set_option maxHeartbeats 16000000 in
set_option maxRecDepth 100000 in
theorem planRow_any (many : Int) (last : Bool) (A : Option Addr) (n cap : Nat) (l : List Ir.Op) (w : World) (ea : Nat → Addr) (E : ErrsR w ea) (V : OpsAt w A n cap l) (hc : cap ≤ 9223372036854775807) :
    Calls Tryz.prog 47 #[.slice A n cap, .int .i64 many, .bool last] w fun e w' => e = .returned (errOf0 ea (Ir.rowErr many l last)) ∧ Keeps (fun _ => False) w w' := by
  have HEE := Lib.hid E
  have HV := Lib.hid V
  have HL := Lib.hid V.len
  have hnc := V.le
  have HR := Lib.hid (show Ir.rowErr many l last = (if n = 0 ∨ 4 < n then 3 else if Ir.opErrs many l ≠ 0 then Ir.opErrs many l
      else if 3 < Ir.cnt l 0 ∨ 1 < Ir.cnt l 1 ∨ 1 < Ir.cnt l 2 then 8 else if Ir.dupW l = true then 7 else if last ≠ decide (0 < Ir.outs l) then 3 else 0) by rw [← HL.out]; rfl)
  obtain ⟨re, hre⟩ : ∃ r, Ir.rowErr many l last = r := ⟨_, rfl⟩
  rw [hre] at HR ⊢
  clear V hre E
  by_cases h1 : n = 0 ∨ 4 < n
  · have HE := Lib.hid (show re = 3 by rw [HR.out, if_pos h1])
    have es := HEE.out.c.shape
    rcases h1 with h1 | h1
    · have t1 : ((n : Int) == 0) = true := by simp [h1]
      have H1 := Lib.hid h1
      clear h1
      go_enter Tryz.func47, Tryz.ntmps47
      go_wp2_with fail
      go_ret
      exact ⟨by rw [HE.out]; rfl, Keeps.refl _ _⟩
    · have t1 : ((n : Int) == 0) = false := by simp; omega
      have t2 : decide ((4 : Int) < (n : Int)) = true := decide_eq_true (by omega)
      clear h1
      go_enter Tryz.func47, Tryz.ntmps47
      go_wp2_with fail
      go_ret
      exact ⟨by rw [HE.out]; rfl, Keeps.refl _ _⟩
  have t1 : ((n : Int) == 0) = false := by simp; omega
  have t2 : decide ((4 : Int) < (n : Int)) = false := decide_eq_false (by omega)
  have hn4 : n ≤ 4 := by omega
  have HR1 := Lib.hid (show re = (if Ir.opErrs many l ≠ 0 then Ir.opErrs many l else if 3 < Ir.cnt l 0 ∨ 1 < Ir.cnt l 1 ∨ 1 < Ir.cnt l 2 then 8 else if Ir.dupW l = true then 7 else if last ≠ decide (0 < Ir.outs l) then 3 else 0) by rw [HR.out, if_neg h1])
  clear h1 HR
  go_enter Tryz.func47, Tryz.ntmps47
  go_wp2_with fail
  go_loopw [26] (fun s26 wr => ∃ i : Nat, i ≤ n ∧ s26 = .int .i64 i ∧ (∀ j, j < i → Ir.opErr (l.getD j Ir.nop) many = 0) ∧ Keeps (fun _ => False) w wr) (fun s26 _ => n - (intOf s26).toNat)
  case atStart => exact ⟨0, by omega, rfl, fun j hj => absurd hj (by omega), Keeps.refl _ _⟩
  case round =>
    obtain ⟨i, hi, rfl, hZ, hK⟩ := hrel
    have HZ := Lib.hid hZ
    have HK := Lib.hid hK
    clear hZ hK
    by_cases hlt : i < n
    · obtain ⟨ob, oo, rfl, e0, e1, e2, e3, e4, e5⟩ := (HV.out.quiet HK.out).get hlt
      have hil : i < l.length := by rw [HL.out]; exact hlt
      have HAT := Lib.hid (opErrs_at (many := many) l i hil HZ.out)
      have hi63 : (i : Int) < n := by omega
      obtain ⟨op, hop⟩ : ∃ op, l.getD i Ir.nop = op := ⟨_, rfl⟩
      rw [hop] at e0 e1 e2 e3 e4 e5 HAT
      have HOP := Lib.hid hop
      clear hop hil
      have HOE := Lib.hid (fun w E => checkOp_any op many w ea E)
      obtain ⟨c, hcc⟩ : ∃ c, Ir.opErr op many = c := ⟨_, rfl⟩
      rw [hcc] at HOE HAT
      have HCC := Lib.hid hcc
      clear hcc
      obtain ⟨ok, od, oa, ob2, oim, oat⟩ := op
      have HN := Lib.hid (op_new wr ok od oa ob2 oim oat 64)
      simp only at e0 e1 e2 e3 e4 e5
      go_upto_region 6 with fail
      obtain ⟨hV, hK⟩ := HN.out
      have HKn := Lib.hid (HK.out.trans hK (fun _ _ h => h))
      generalize wr.alloc _ = w4 at *
      generalize wr.heap.size = y at *
      clear e0 e1 e2 e3 e4 e5 hK HN
      obtain ⟨v0, v1, v2, v3, v4, v5⟩ := hV
      simp only at v0 v1 v2 v3 v4 v5
      go_wp2_with fail
      refine (HOE.out _ (HEE.out.c.quiet HKn.out)).mono ?_
      rintro e w5 ⟨rfl, hk5⟩
      have HK5 := Lib.hid (HKn.out.trans hk5 (fun _ _ h => h))
      clear hk5 v0 v1 v2 v3 v4 v5
      by_cases hc0 : c = 0
      · subst hc0
        rw [show errOf0 ea 0 = .nilIface from rfl]
        have HZ1 := Lib.hid (show ∀ j, j < i + 1 → Ir.opErr (l.getD j Ir.nop) many = 0 from fun j hj => by
          by_cases hji : j < i
          · exact HZ.out j hji
          · obtain rfl : j = i := by omega
            rw [HOP.out, HCC.out])
        go_wp2_with fail
        go_roundw
        case rel => exact ⟨i + 1, by omega, by go_num, HZ1.out, HK5.out⟩
        case measure => simp [intOf]; omega
      · have HE := Lib.hid (show re = c by rw [HR1.out, HAT.out hc0, if_pos hc0])
        rw [show errOf0 ea c = .iface 168 (.pointer (some (ea c))) from if_neg hc0]
        have HC0 := Lib.hid hc0
        clear hc0
        go_wp2_with fail
        go_ret
        exact ⟨by rw [HE.out, show errOf0 ea c = errV ea c from if_neg HC0.out]; rfl, HK5.out⟩
    · obtain rfl : i = n := by omega
      have HR2 := Lib.hid (show re = (if 3 < Ir.cnt l 0 ∨ 1 < Ir.cnt l 1 ∨ 1 < Ir.cnt l 2 then 8 else if Ir.dupW l = true then 7 else if last ≠ decide (0 < Ir.outs l) then 3 else 0) by
        rw [HR1.out, opErrs_all (fun j hj => HZ.out j (by rw [← HL.out]; exact hj)), if_neg (by decide)])
      have HNN := Lib.hid (fun j (hj : j < i) => Ir.writes_nn (HZ.out j hj))
      clear HZ HR1
      generalize i = n at *
      generalize wr = w3 at *
      have HCN := Lib.hid (fun w V => counts_any A n cap l w V hc hn4)
      obtain ⟨c0, hc0⟩ : ∃ c, Ir.cnt l 0 = c := ⟨_, rfl⟩
      obtain ⟨c1, hc1⟩ : ∃ c, Ir.cnt l 1 = c := ⟨_, rfl⟩
      obtain ⟨c2, hc2⟩ : ∃ c, Ir.cnt l 2 = c := ⟨_, rfl⟩
      rw [hc0, hc1, hc2] at HCN HR2
      clear hc0 hc1 hc2
      have i0 : ∀ w, (Instr.index 121 (.agg #[.int .i64 (c0 : Int), .int .i64 (c1 : Int), .int .i64 (c2 : Int)]) (.int .i64 0)).run Tryz.prog w = .ok (.int .i64 (c0 : Int)) w := fun _ => by kernel_rfl
      have i1 : ∀ w, (Instr.index 121 (.agg #[.int .i64 (c0 : Int), .int .i64 (c1 : Int), .int .i64 (c2 : Int)]) (.int .i64 1)).run Tryz.prog w = .ok (.int .i64 (c1 : Int)) w := fun _ => by kernel_rfl
      have i2 : ∀ w, (Instr.index 121 (.agg #[.int .i64 (c0 : Int), .int .i64 (c1 : Int), .int .i64 (c2 : Int)]) (.int .i64 2)).run Tryz.prog w = .ok (.int .i64 (c2 : Int)) w := fun _ => by kernel_rfl
      go_wp2_with fail
      refine (HCN.out _ (HV.out.quiet HK.out)).mono ?_
      rintro e w4 ⟨rfl, hk4⟩
      have HK4 := Lib.hid (HK.out.trans hk4 (fun _ _ h => h))
      clear hk4 HK HCN
      go_wp2_with fail
      go_loopw [39] (fun s39 wr => ∃ i : Nat, i ≤ 3 ∧ s39 = .int .i64 i ∧ (0 < i → c0 ≤ 3) ∧ (1 < i → c1 ≤ 1) ∧ (2 < i → c2 ≤ 1) ∧ Keeps (fun _ => False) w wr) (fun s39 _ => 3 - (intOf s39).toNat)
      case atStart => exact ⟨0, by omega, rfl, fun h => by omega, fun h => by omega, fun h => by omega, HK4.out⟩
      case round =>
        obtain ⟨i, hi, rfl, hz0, hz1, hz2, hK⟩ := hrel
        have HK := Lib.hid hK
        have HZ0 := Lib.hid hz0
        have HZ1 := Lib.hid hz1
        have HZ2 := Lib.hid hz2
        clear hK hz0 hz1 hz2 HK4
        obtain rfl | rfl | rfl | rfl : i = 0 ∨ i = 1 ∨ i = 2 ∨ i = 3 := by omega
        · have HRM : Hid (∀ w, Calls Tryz.prog 67 #[.int .i64 0] w fun e w' => e = .returned (.int .i64 3) ∧ w = w') := Lib.hid (fun w => room_any 0 w)
          by_cases h : 3 < c0
          · have t3 : decide ((3 : Int) < (c0 : Int)) = true := decide_eq_true (by omega)
            have HE := Lib.hid (show re = 8 by rw [HR2.out, if_pos (.inl h)])
            have es := (HEE.out.quiet HK.out).c.full
            clear h
            go_wp2_with fail
            refine (HRM.out _).mono ?_
            rintro e w6 ⟨rfl, rfl⟩
            go_wp2_with fail
            go_ret
            exact ⟨by rw [HE.out]; rfl, HK.out⟩
          · have t3 : decide ((3 : Int) < (c0 : Int)) = false := decide_eq_false (by omega)
            have HLE : Hid (c0 ≤ 3) := Lib.hid (by omega)
            clear h
            go_wp2_with fail
            refine (HRM.out _).mono ?_
            rintro e w6 ⟨rfl, rfl⟩
            go_wp2_with fail
            go_roundw
            case rel => exact ⟨1, by omega, by go_num, fun _ => HLE.out, fun h => absurd h (by omega), fun h => absurd h (by omega), HK.out⟩
            case measure => simp [intOf]
        · have HRM : Hid (∀ w, Calls Tryz.prog 67 #[.int .i64 1] w fun e w' => e = .returned (.int .i64 1) ∧ w = w') := Lib.hid (fun w => room_any 1 w)
          by_cases h : 1 < c1
          · have t3 : decide ((1 : Int) < (c1 : Int)) = true := decide_eq_true (by omega)
            have HE := Lib.hid (show re = 8 by rw [HR2.out, if_pos (.inr (.inl h))])
            have es := (HEE.out.quiet HK.out).c.full
            clear h
            go_wp2_with fail
            refine (HRM.out _).mono ?_
            rintro e w6 ⟨rfl, rfl⟩
            go_wp2_with fail
            go_ret
            exact ⟨by rw [HE.out]; rfl, HK.out⟩
          · have t3 : decide ((1 : Int) < (c1 : Int)) = false := decide_eq_false (by omega)
            have HLE : Hid (c1 ≤ 1) := Lib.hid (by omega)
            clear h
            go_wp2_with fail
            refine (HRM.out _).mono ?_
            rintro e w6 ⟨rfl, rfl⟩
            go_wp2_with fail
            go_roundw
            case rel => exact ⟨2, by omega, by go_num, fun h => HZ0.out (by omega), fun _ => HLE.out, fun h => absurd h (by omega), HK.out⟩
            case measure => simp [intOf]
        · have HRM : Hid (∀ w, Calls Tryz.prog 67 #[.int .i64 2] w fun e w' => e = .returned (.int .i64 1) ∧ w = w') := Lib.hid (fun w => room_any 2 w)
          by_cases h : 1 < c2
          · have t3 : decide ((1 : Int) < (c2 : Int)) = true := decide_eq_true (by omega)
            have HE := Lib.hid (show re = 8 by rw [HR2.out, if_pos (.inr (.inr h))])
            have es := (HEE.out.quiet HK.out).c.full
            clear h
            go_wp2_with fail
            refine (HRM.out _).mono ?_
            rintro e w6 ⟨rfl, rfl⟩
            go_wp2_with fail
            go_ret
            exact ⟨by rw [HE.out]; rfl, HK.out⟩
          · have t3 : decide ((1 : Int) < (c2 : Int)) = false := decide_eq_false (by omega)
            have HLE : Hid (c2 ≤ 1) := Lib.hid (by omega)
            clear h
            go_wp2_with fail
            refine (HRM.out _).mono ?_
            rintro e w6 ⟨rfl, rfl⟩
            go_wp2_with fail
            go_roundw
            case rel => exact ⟨3, by omega, by go_num, fun h => HZ0.out (by omega), fun h => HZ1.out (by omega), fun _ => HLE.out, HK.out⟩
            case measure => simp [intOf]
        · have hc0 := HZ0.out (by omega)
          have hc1 := HZ1.out (by omega)
          have hc2 := HZ2.out (by omega)
          have HR4 := Lib.hid (show re = (if Ir.dupW l = true then 7 else if last ≠ decide (0 < Ir.outs l) then 3 else 0) by
            rw [HR2.out, if_neg (by omega)])
          have HKB := Lib.hid HK.out
          clear HR2 hc0 hc1 hc2 HZ0 HZ1 HZ2 HK i0 i1 i2
          rw [show ((3 : Nat) : Int) = 3 from rfl]
          go_wp2_with fail
          go_loopw [51] (fun s51 wr => ∃ i : Nat, i ≤ n ∧ s51 = .int .i64 i ∧ (∀ a k, k < a → a < i → ¬ dupAt l a k) ∧ Keeps (fun _ => False) w wr) (fun s51 _ => n - (intOf s51).toNat)
          case atStart => exact ⟨0, by omega, rfl, fun a k h1 h2 => absurd h2 (by omega), HKB.out⟩
          case round =>
            obtain ⟨i, hi, rfl, hZ, hK⟩ := hrel
            have HZ := Lib.hid hZ
            have HK := Lib.hid hK
            clear hZ hK HKB
            by_cases hlt : i < n
            · obtain ⟨ob, oo, rfl, e0, e1, e2, e3, e4, e5⟩ := (HV.out.quiet HK.out).get hlt
              have hil : i < l.length := by rw [HL.out]; exact hlt
              have hi63 : (i : Int) < n := by omega
              have HNI := Lib.hid (HNN.out i hlt)
              have HAD := Lib.hid (fun h => any_dup l i hil h)
              obtain ⟨op, hop⟩ : ∃ op, l.getD i Ir.nop = op := ⟨_, rfl⟩
              rw [hop] at e0 e1 e2 e3 e4 e5 HNI HAD
              have HOP := Lib.hid hop
              clear hop
              have HWR := Lib.hid (fun w => writes_any op w)
              obtain ⟨x1, hx1⟩ : ∃ x1, Ir.writes op = x1 := ⟨_, rfl⟩
              rw [hx1] at HWR HNI HAD
              have HX1 := Lib.hid hx1
              have HIL := Lib.hid hil
              clear hx1 hil
              obtain ⟨ok, od, oa, ob2, oim, oat⟩ := op
              have HN := Lib.hid (op_new wr ok od oa ob2 oim oat 64)
              simp only at e0 e1 e2 e3 e4 e5
              go_upto_region 19 with fail
              obtain ⟨hV, hK⟩ := HN.out
              have HKn := Lib.hid (HK.out.trans hK (fun _ _ h => h))
              generalize wr.alloc _ = w5 at *
              generalize wr.heap.size = y at *
              clear e0 e1 e2 e3 e4 e5 hK HN
              obtain ⟨v0, v1, v2, v3, v4, v5⟩ := hV
              simp only at v0 v1 v2 v3 v4 v5
              go_wp2_with fail
              refine (HWR.out _).mono ?_
              rintro e w6 ⟨rfl, hk6⟩
              have HK6 := Lib.hid (HKn.out.trans hk6 (fun _ _ h => h))
              clear hk6 v0 v1 v2 v3 v4 v5
              go_upto_region 20 with fail
              have HDB := Lib.hid (show (w6.alloc (.cells #[.int .i64 x1] 3)).cell? ⟨w6.heap.size, 0, none⟩ = some (.int .i64 x1) by unfold World.cell?; rw [blk_alloc_new]; rfl)
              have HK7 := Lib.hid (HK6.out.alloc (.cells #[.int .i64 x1] 3))
              generalize w6.alloc _ = w7 at *
              generalize w6.heap.size = db at *
              have hdb := HDB.out
              by_cases hx0 : x1 = 0
              · have t7 : (x1 != 0) = false := by simp [hx0]
                have HND := Lib.hid (show ∀ a k, k < a → a < i + 1 → ¬ dupAt l a k from fun a k h1 h2 hd => by
                  by_cases e : a = i
                  · subst e
                    have := hd.1
                    rw [HOP.out, HX1.out] at this
                    omega
                  · exact HZ.out a k h1 (by omega) hd)
                clear hx0
                go_wp2_with fail
                go_roundw
                case rel => exact ⟨i + 1, by omega, by go_num, HND.out, HK7.out⟩
                case measure => simp [intOf]; omega
              · have t7 : (x1 != 0) = true := by simp [hx0]
                have HP := Lib.hid (rowDup_any x1 db w7 hdb)
                have hpos : 0 < x1 := by have := HNI.out; omega
                have HIF := Lib.hid (HAD.out hpos)
                have hic : i ≤ cap := by omega
                have HCF := Lib.hid (fun w V hp => containsFunc_any 70 #[.pointer (some ⟨db, 0, none⟩)] (fun o => Ir.writes o == x1) (enters_of Tryz.func70 (by kernel_rfl) rfl) (some ⟨ob, oo, none⟩) i cap (l.take i) w V hc hp)
                obtain ⟨q, hq⟩ : ∃ q, (l.take i).any (fun o => Ir.writes o == x1) = q := ⟨_, rfl⟩
                rw [hq] at HCF HIF
                clear hx0 hpos hq
                go_wp2_with fail
                refine (HCF.out _ ((HV.out.quiet HK7.out).take hi) HP.out).mono ?_
                rintro e w8 ⟨rfl, hk8⟩
                have HK8 := Lib.hid (HK7.out.trans hk8 (fun _ _ h => h))
                have es := (HEE.out.quiet HK8.out).exist
                clear hk8 hdb HDB
                cases q
                · have HND := Lib.hid (show ∀ a k, k < a → a < i + 1 → ¬ dupAt l a k from fun a k h1 h2 hd => by
                    by_cases e : a = i
                    · subst e
                      have := HIF.out.2 ⟨k, h1, hd⟩
                      cases this
                    · exact HZ.out a k h1 (by omega) hd)
                  go_wp2_with fail
                  go_roundw
                  case rel => exact ⟨i + 1, by omega, by go_num, HND.out, HK8.out⟩
                  case measure => simp [intOf]; omega
                · have HE := Lib.hid (show re = 7 by
                    obtain ⟨k, hk, hd⟩ := HIF.out.1 rfl
                    rw [HR4.out, if_pos ((dupW_iff l).2 ⟨i, k, hk, HIL.out, hd⟩)])
                  go_wp2_with fail
                  go_ret
                  exact ⟨by rw [HE.out]; rfl, HK8.out⟩
            · have hin : i = n := by omega
              have HR5 := Lib.hid (show re = (if last ≠ decide (0 < Ir.outs l) then 3 else 0) by
                rw [HR4.out, if_neg (fun h => by
                  obtain ⟨a, k, h1, h2, h3⟩ := (dupW_iff l).1 h
                  exact HZ.out a k h1 (by rw [← HL.out] at hin; omega) h3)])
              clear HR4 HZ
              subst hin
              have HCF := Lib.hid (fun w V hp => containsFunc_any 71 #[] (fun o => Ir.isOut (Ir.kn o.k)) (enters_of Tryz.func71 (by kernel_rfl) rfl) A i cap l w V hc hp)
              have HPF := Lib.hid (fun w => (show PredOp 71 #[] (fun o => Ir.isOut (Ir.kn o.k)) w from fun o W _ => final_any o W))
              rw [any_final] at HCF
              obtain ⟨q, hq⟩ : ∃ q, decide (0 < Ir.outs l) = q := ⟨_, rfl⟩
              rw [hq] at HCF HR5
              clear hq
              go_wp2_with fail
              refine (HCF.out _ (HV.out.quiet HK.out) (HPF.out _)).mono ?_
              rintro e w8 ⟨rfl, hk8⟩
              have HK8 := Lib.hid (HK.out.trans hk8 (fun _ _ h => h))
              have es := (HEE.out.quiet HK8.out).c.shape
              clear hk8
              cases q <;> cases last
              all_goals
                have HE := Lib.hid HR5.out
                clear HR5
                go_wp2_with fail
                go_ret
                exact ⟨by rw [HE.out]; rfl, HK8.out⟩
end Go.Proofs.YtlmnmncdoiealaaGreatDoor

/- Concat -/
/- Ops appended to a row of the call's own; the walks of slices.Grow, slices.Concat over rows of ops. -/
namespace Go.Proofs.YtlmnmncdoiealaaGreatDoor
open Go.RowKit Go.Deep
set_option linter.unusedVariables false
set_option linter.unusedSimpArgs false

set_option maxRecDepth 100000 in
/-- APPEND OPS TO A ROW OF THE CALL's OWN: from wherever they lie, nil too -/
theorem wpList_append_ops {w : World} {ops : Array Oper} {rest : List Oper} {o : Oper} {a : Act} {Q : Exit → Act → World → Prop} (hgd : o.guard = none) (s x : Operand)
    (ho : o.op = .call { callee := .builtin .append, args := #[s, x], argTypes := #[40, 40] }) (B : Nat) (l1 : List Ir.Op) (v : Value) (hs : a.eval s = v) (h1 : OpsOwn w B l1 v)
    (A2 : Option Addr) (m c : Nat) (l2 : List Ir.Op) (hx : a.eval x = .slice A2 m c) (V2 : OpsAt w A2 m c l2) (hb : l1.length + m ≤ 1000000) (hbase : B ≤ w.heap.size)
    (h : ∀ v' w', OpsOwn w' B (l1 ++ l2) v' → Keeps (fun k => v.ownBlock = some k) w w' → Moved w v v' → wpList Tryz.prog ops Q rest (a.put o.dst v') w') : wpList Tryz.prog ops Q (o :: rest) a w := by
  obtain ⟨i0, hi, hz0, hz1, hz2⟩ := info_parts Tryz.info_op
  obtain ⟨A1, c1, rfl, ho1⟩ := h1
  have hl2 := V2.len
  cases A2 with
  | none =>
    have hcap : c = 0 := by
      obtain ⟨_, _, h | ⟨b, o, h, _⟩⟩ := V2
      · exact h
      · cases h
    have hm : m = 0 := by have := V2.le; omega
    subst hcap hm
    obtain rfl : l2 = [] := List.eq_nil_of_length_eq_zero hl2
    refine Lib.wpList_append_run w hgd s x _ _ ho _ _ hs hx _ _ (run_append_owned_none w B 40 o.type 64 i0 6 Tryz.underlying40 hi _ _ _ ho1) ?_
    exact h _ _ (by rw [List.append_nil]; exact ⟨A1, c1, rfl, ho1⟩) (Keeps.refl _ _) (.inl rfl)
  | some ad =>
    have hn : ∀ j u, (opsL l2)[j]? = some u → w.cell? (ad.add j) = some u := fun j u hu => by
      obtain ⟨h1, h2, h3 | ⟨b, o, hb, hbl, hc⟩⟩ := V2
      · have : l2 = [] := List.eq_nil_of_length_eq_zero (by omega)
        subst this
        simp [opsL] at hu
      · injection hb with hb
        subst hb
        have V3 : OpsAt w (some ⟨b, o, none⟩) m c l2 := ⟨h1, h2, .inr ⟨b, o, rfl, hbl, hc⟩⟩
        exact V3.cells j u hu
    refine wpList_append_mine hgd s x 40 ho B 64 i0 _ 6 56 Tryz.underlying40 hi hz0 hz1 hz2 rfl (by decide) (.slice A1 l1.length c1) l1.length (opsL l1) hs ho1 ad m c (opsL l2) hx (by rw [opsL_len, hl2]) hn (opsL_one l2) (by unfold maxLen; omega) (by omega) hbase ?_
    intro v' w' hown hgrow hmv
    obtain ⟨A', cap', rfl⟩ := owns_slice hown
    refine h _ _ ⟨A', cap', by rw [List.length_append, hl2], ?_⟩ ((Keeps.refl _ w).grown hgrow (fun k hk _ => hk)) hmv
    rw [opsL_append, List.length_append, hl2]
    exact hown
theorem owns_empty_of (w : World) (B g cap : Nat) (cur : Array Value) (hb : B ≤ g) (hg : w.heap[g]? = some (.cells cur 64 (0, 0))) (hm : cap ≤ maxLen) (hs : cur.size = cap * 6) : OpsOwn w B [] (.slice (some ⟨g, 0, none⟩) 0 cap) :=
  ⟨some ⟨g, 0, none⟩, cap, rfl, rfl, .inr ⟨g, cap, cur, rfl, hb, hg, Nat.zero_le _, hm, hs, by simp [opsL]⟩⟩
set_option maxHeartbeats 2000000 in
set_option maxRecDepth 100000 in
theorem grow_any (n : Nat) (hn : n ≤ 1000000) (w : World) :
    Calls Tryz.prog 72 #[.slice none 0 0, .int .i64 n] w fun e w' => ∃ v, e = .returned v ∧ OpsOwn w' w.heap.size [] v ∧ Keeps (fun _ => False) w w' := by
  obtain ⟨i0, hi, hz0, hz1, hz2⟩ := info_parts Tryz.info_op
  have hn0 : (0 : Int) ≤ (n : Int) := by omega
  have hn1 : (n : Int) ≤ 1000000 := by omega
  by_cases h0 : n = 0
  · subst h0
    go_enter Tryz.func72, Tryz.ntmps72
    go_wp2_with fail
    go_ret
    exact ⟨_, rfl, ⟨none, 0, rfl, World.ownsRow_nil _ _ _ _⟩, Keeps.refl _ _⟩
  · have hpos : 0 < n := by omega
    have t1 : decide (0 < n) = true := decide_eq_true (by omega)
    have t0 : decide ((n : Int) < 0) = false := decide_eq_false (by omega)
    have hbytes : n * i0.bytes ≤ 281474976710656 := by rw [hz2]; omega
    have HR := Lib.hid (Lib.run_append_nil_zeros (P := Tryz.prog) w 40 3 40 64 i0 _ .i64 .i64 Tryz.underlying40 Tryz.underlying3 hi hz0 n hpos (by rw [hz1]; decide) (by omega) hbytes)
    have HG1 := Lib.hid (grownCap_ge w n 0 64)
    have HG2 := Lib.hid (grownCap_le_maxLen w n 0 64 (by unfold maxLen; omega))
    have HZ := Lib.hid (show (Builtin.zeroCells (Value.agg #[.string ByteArray.empty, .int .i64 0, .int .i64 0, .int .i64 0, .int .u32 0, .int .i64 0]).cells n ++ Builtin.zeroCells (Value.agg #[.string ByteArray.empty, .int .i64 0, .int .i64 0, .int .i64 0, .int .u32 0, .int .i64 0]).cells (grownCap w n 0 64 - n)).size = grownCap w n 0 64 * 6 by
      have h1 : (Value.agg #[.string ByteArray.empty, .int .i64 0, .int .i64 0, .int .i64 0, .int .u32 0, .int .i64 0]).cells.size = 6 := rfl
      rw [Array.size_append, size_zeroCells, size_zeroCells, h1]
      have := grownCap_ge w n 0 64
      omega)
    generalize Builtin.zeroCells (Value.agg #[.string ByteArray.empty, .int .i64 0, .int .i64 0, .int .i64 0, .int .u32 0, .int .i64 0]).cells n ++ Builtin.zeroCells _ _ = cur at *
    generalize grownCap w n 0 64 = cap at *
    have HB := Lib.hid (show OpsOwn (w.drew.alloc (.cells cur 64)) w.heap.size [] (.slice (some ⟨w.heap.size, 0, none⟩) 0 cap) from owns_empty_of _ _ _ _ cur (Nat.le_refl _) (blk_alloc_new _ _) HG2.out HZ.out)
    have HK := Lib.hid (show Keeps (fun _ => False) w (w.drew.alloc (.cells cur 64)) from (Keeps.refl _ w).drew.alloc _)
    clear h0 hpos hbytes hi hz0 hz1 hz2
    have hcap := HG1.out
    go_enter Tryz.func72, Tryz.ntmps72
    go_wp2_with (at_builtin; go_loud (refine Lib.wpList_append_run w rfl _ _ 40 3 rfl (.slice none 0 0) (.int .i64 n) rfl rfl _ _ HR.out ?_))
    go_ret
    exact ⟨_, rfl, HB.out, HK.out⟩
theorem flatten_step (rows : List (List Ir.Op)) (i : Nat) (h : i < rows.length) : (rows.take (i + 1)).flatten = (rows.take i).flatten ++ rows.getD i [] := by
  rw [List.take_succ_eq_append_getElem h, List.flatten_append]
  have : rows.getD i [] = rows[i] := by simp [List.getD, h]
  rw [this]
  simp
theorem flatten_bound {L : Nat} : ∀ (rows : List (List Ir.Op)), (∀ i, i < rows.length → (rows.getD i []).length ≤ L) → rows.flatten.length ≤ rows.length * L
  | [], _ => by simp
  | l :: r, h => by
    have h0 : l.length ≤ L := h 0 (by simp)
    have h1 := flatten_bound r (fun i hi => h (i + 1) (by simpa using hi))
    rw [List.flatten_cons, List.length_append, List.length_cons, Nat.add_mul]
    omega
theorem flatten_take_bound {L : Nat} {rows : List (List Ir.Op)} (h : ∀ i, i < rows.length → (rows.getD i []).length ≤ L) (i : Nat) (hi : i ≤ rows.length) : (rows.take i).flatten.length ≤ i * L := by
  have := flatten_bound (L := L) (rows.take i) (fun j hj => by
    rw [List.length_take] at hj
    have e : (rows.take i).getD j [] = rows.getD j [] := by
      rw [List.getD_eq_getElem?_getD, List.getElem?_take_of_lt (by omega), List.getD_eq_getElem?_getD]
    rw [e]
    exact h j (by omega))
  rwa [List.length_take, Nat.min_eq_left hi] at this
set_option maxHeartbeats 8000000 in
set_option maxRecDepth 100000 in
theorem concat_any (A : Option Addr) (n cap : Nat) (rows : List (List Ir.Op)) (w : World) (V : RowsAt w A n cap rows) (hc : cap ≤ 9223372036854775807) (hn : n ≤ 1000) (hb : ∀ i, i < rows.length → (rows.getD i []).length ≤ 1000) :
    Calls Tryz.prog 49 #[.slice A n cap] w fun e w' => ∃ v, e = .returned v ∧ OpsOwn w' w.heap.size rows.flatten v ∧ Keeps (fun _ => False) w w' := by
  have HV := Lib.hid V
  have HL := Lib.hid V.len
  have HB := Lib.hid hb
  have hnc := V.le
  have HT := Lib.hid (fun i (hi : i ≤ n) => flatten_take_bound hb i (by rw [V.len]; exact hi))
  obtain ⟨B, hB⟩ : ∃ B, w.heap.size = B := ⟨_, rfl⟩
  rw [hB]
  have HBE := Lib.hid hB
  clear V hb hB
  go_enter Tryz.func49, Tryz.ntmps49
  go_wp2_with fail
  go_loopw [3, 11] (fun s3 s11 wr => ∃ i st : Nat, i ≤ n ∧ st ≤ 1000000 ∧ s3 = .int .i64 st ∧ s11 = .int .i64 i ∧ (rows.take i).flatten.length = st ∧ Keeps (fun _ => False) w wr) (fun _ s11 _ => n - (intOf s11).toNat)
  case atStart => exact ⟨0, 0, by omega, by omega, rfl, rfl, rfl, Keeps.refl _ _⟩
  case round =>
    obtain ⟨i, st, hi, hst, rfl, rfl, hsum, hK1⟩ := hrel
    have HS := Lib.hid hsum
    have HK1 := Lib.hid hK1
    clear hsum hK1
    by_cases hlt : i < n
    · obtain ⟨ob, oo, Ai, ci, rfl, e0, e1, e2⟩ := (HV.out.quiet HK1.out).get hlt
      have hil : i < rows.length := by rw [HL.out]; exact hlt
      have HFS := Lib.hid (flatten_step rows i hil)
      have HTB := Lib.hid (HT.out (i + 1) hlt)
      obtain ⟨l, hl⟩ : ∃ l, rows.getD i [] = l := ⟨_, rfl⟩
      rw [hl] at e0 HFS
      clear hl hil e1 e2
      have hsl : st + l.length ≤ 1000000 := by
        have := HTB.out
        rw [HFS.out, List.length_append, HS.out] at this
        omega
      have hi63 : (i : Int) < n := by omega
      have h1 : (0 : Int) ≤ (st : Int) + (l.length : Int) := by omega
      have h2 : (st : Int) + (l.length : Int) ≤ 1000000 := by omega
      have HSL := Lib.hid hsl
      have HF2 := Lib.hid (show (rows.take (i + 1)).flatten.length = st + l.length by rw [HFS.out, List.length_append, HS.out])
      obtain ⟨ll, hll⟩ : ∃ ll, l.length = ll := ⟨_, rfl⟩
      rw [hll] at e0 h1 h2 HF2 HSL
      clear hll hsl
      have t1 : decide ((st : Int) + (ll : Int) < 0) = false := decide_eq_false (by omega)
      go_wp2_with fail
      go_roundw
      case rel => exact ⟨i + 1, st + ll, by omega, HSL.out, by go_num, by go_num, HF2.out, HK1.out⟩
      case measure => simp [intOf]; omega
    · obtain rfl : i = n := by omega
      have HSF := Lib.hid (show rows.flatten.length = st by
        have := HS.out
        rwa [List.take_of_length_le (by rw [HL.out]; exact Nat.le_refl _)] at this)
      have HGR := Lib.hid (fun w => grow_any st hst w)
      clear HS
      generalize i = n at *
      generalize wr = w1 at *
      have HBS1 := Lib.hid (show B ≤ w1.heap.size by rw [← HBE.out]; exact HK1.out.size)
      go_wp2_with fail
      refine (HGR.out _).mono ?_
      rintro e w2 ⟨v0, rfl, ho2, hk2⟩
      have HO2 := Lib.hid (ho2.base HBS1.out)
      have HK2 := Lib.hid (HK1.out.trans hk2 (fun _ _ h => h))
      clear ho2 hk2
      go_wp2_with fail
      go_loopw [6, 27] (fun s6 s27 wr => ∃ i : Nat, i ≤ n ∧ s27 = .int .i64 i ∧ OpsOwn wr B (rows.take i).flatten s6 ∧ Keeps (fun _ => False) w wr) (fun _ s27 _ => n - (intOf s27).toNat)
      case atStart => exact ⟨0, by omega, rfl, HO2.out, HK2.out⟩
      case round =>
        obtain ⟨i, hi, rfl, hO, hK⟩ := hrel
        have HO := Lib.hid hO
        have HK := Lib.hid hK
        clear hO hK
        by_cases hlt : i < n
        · obtain ⟨ob, oo, Ai, ci, rfl, e0, e1, e2⟩ := (HV.out.quiet HK.out).get hlt
          have hil : i < rows.length := by rw [HL.out]; exact hlt
          have HFS := Lib.hid (flatten_step rows i hil)
          have HTB := Lib.hid (HT.out (i + 1) hlt)
          obtain ⟨l, hl⟩ : ∃ l, rows.getD i [] = l := ⟨_, rfl⟩
          rw [hl] at e0 e1 HFS
          clear hl hil
          have HE1 := Lib.hid e1
          have hi63 : (i : Int) < n := by omega
          have HSL := Lib.hid (show (rows.take i).flatten.length + l.length ≤ 1000000 by
            have := HTB.out
            rw [HFS.out, List.length_append] at this
            omega)
          have HBS := Lib.hid (show B ≤ wr.heap.size by rw [← HBE.out]; exact HK.out.size)
          clear e1 e2
          obtain ⟨A1, c1, hv1, how⟩ := HO.out
          have hlq := Lib.hid how.lt
          obtain ⟨tl, htl⟩ : ∃ tl, (rows.take i).flatten.length = tl := ⟨_, rfl⟩
          rw [htl] at hv1 HSL
          have HTL := Lib.hid htl
          subst hv1
          obtain ⟨ll, hll⟩ : ∃ ll, l.length = ll := ⟨_, rfl⟩
          rw [hll] at e0 HSL
          have HE2 := Lib.hid (show OpsAt wr Ai ll ci l by rw [← hll]; exact HE1.out)
          clear htl hll how
          go_wp2_with (at_builtin; go_loud (refine wpList_append_ops rfl _ _ rfl B (rows.take i).flatten (.slice A1 tl c1) rfl HO.out Ai ll ci l rfl HE2.out (by rw [HTL.out]; exact HSL.out) HBS.out ?c0))
          case c0 =>
            intro v' w3 hown hk3 _
            have HO3 := Lib.hid (show OpsOwn w3 B (rows.take (i + 1)).flatten v' by rw [HFS.out]; exact hown)
            have HK3 := Lib.hid (show Keeps (fun _ => False) w w3 from HK.out.trans hk3 (fun b hb h => by
              have := (hlq.out b h).1
              have := HBE.out
              omega))
            clear hown hk3
            go_wp2_with fail
            go_roundw
            case rel => exact ⟨i + 1, by omega, by go_num, HO3.out, HK3.out⟩
            case measure => simp [intOf]; omega
        · obtain rfl : i = n := by omega
          have HEE := Lib.hid (show OpsOwn wr B rows.flatten _ from by
            have := HO.out
            rwa [List.take_of_length_le (by rw [HL.out]; exact Nat.le_refl _)] at this)
          go_wp2_with fail
          go_ret
          exact ⟨_, rfl, HEE.out, HK.out⟩
end Go.Proofs.YtlmnmncdoiealaaGreatDoor
