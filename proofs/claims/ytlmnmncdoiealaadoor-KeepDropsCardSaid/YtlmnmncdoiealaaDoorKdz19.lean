import Derived.Test.YtlmnmncdoiealaaDoorKdz18
import Derived.Test.YtlmnmncdoiealaaDoorIrOp2
import Derived.Deep.QuietTactic
import Derived.Shelf.GgClosure.Gives

/- PlanRow -/
/- The walk of plan.row. Printed by gen/planrow.py. -/
namespace Go.Proofs.YtlmnmncdoiealaaDoor
open Go.RowKit Go.Deep
set_option linter.unusedVariables false
set_option linter.unusedSimpArgs false

/-- the errors of a plan -/
structure ErrsR (w : World) (ea : Nat → Addr) : Prop where
  c : ErrsC w ea
  exist : w.cell? ⟨9, 0, none⟩ = some (.iface 187 (.pointer (some (ea 7))))
theorem ErrsR.quiet {w w' : World} {ea : Nat → Addr} (E : ErrsR w ea) (k : Keeps (fun _ => False) w w') : ErrsR w' ea := ⟨E.c.quiet k, k.cell' E.exist (fun h => h)⟩
theorem OpsAt.take {w : World} {A : Option Addr} {n cap : Nat} {l : List Ir.Op} (V : OpsAt w A n cap l) {i : Nat} (hi : i ≤ n) : OpsAt w A i cap (l.take i) := by
  obtain ⟨h1, h2, h3⟩ := V
  refine ⟨by rw [List.length_take, h1]; omega, by omega, ?_⟩
  rcases h3 with h3 | ⟨b, o, h4, h5, h6⟩
  · exact .inl h3
  · refine .inr ⟨b, o, h4, h5, fun j hj => ?_⟩
    have e : (l.take i).getD j Ir.nop = l.getD j Ir.nop := by
      rw [List.getD_eq_getElem?_getD, List.getElem?_take_of_lt hj, List.getD_eq_getElem?_getD]
    rw [e]
    exact h6 j (by omega)
namespace Ir
theorem writes_nn {o : Op} {many : Int} (h : opErr o many = 0) : 0 ≤ writes o := by
  have hle := kn_le o.k
  have hd : kn o.k = 1 ∨ kn o.k = 2 ∨ kn o.k = 5 ∨ 10 ≤ kn o.k → 1 ≤ o.d := by
    unfold opErr at h
    split at h
    · cases h
    rename_i hk
    split at h
    · cases h
    rename_i h2
    rw [Bool.not_eq_false] at h2
    simp only [Bool.and_eq_true, decide_eq_true_eq] at h2
    obtain ⟨⟨⟨hr, hb⟩, _⟩, _⟩ := h2
    unfold regs at hr
    simp only [Bool.and_eq_true, Bool.or_eq_true, decide_eq_true_eq, Bool.not_eq_true'] at hr
    unfold hasD hasA hasB at hr
    simp at hr
    intro h
    omega
  rcases (show kn o.k = 0 ∨ (kn o.k = 1 ∨ kn o.k = 2 ∨ kn o.k = 5 ∨ 10 ≤ kn o.k) ∨ (kn o.k = 3 ∨ kn o.k = 4 ∨ (6 ≤ kn o.k ∧ kn o.k ≤ 9)) by omega) with h0 | h1 | h1
  · unfold opErr at h
    rw [if_pos h0] at h
    cases h
  · rw [writes_d h1]
    have := hd h1
    omega
  · rw [writes_0 h1]
    omega
end Ir
theorem any_final (l : List Ir.Op) : l.any (fun o => Ir.isOut (Ir.kn o.k)) = decide (0 < Ir.outs l) := by
  unfold Ir.outs
  rw [Bool.eq_iff_iff, List.any_eq_true, decide_eq_true_eq, List.countP_pos_iff]
/-- does an op ahead write what op number i writes? -/
theorem any_dup (l : List Ir.Op) (i : Nat) (hi : i < l.length) (h0 : 0 < Ir.writes (l.getD i Ir.nop)) : (l.take i).any (fun o => Ir.writes o == Ir.writes (l.getD i Ir.nop)) = true ↔ ∃ k, k < i ∧ dupAt l i k := by
  rw [List.any_eq_true]
  constructor
  · rintro ⟨o, ho, he⟩
    obtain ⟨k, hk, rfl⟩ := List.getElem_of_mem ho
    rw [List.length_take] at hk
    refine ⟨k, by omega, h0, ?_⟩
    rw [List.getElem_take] at he
    have e : l.getD k Ir.nop = l[k] := by simp [List.getD, show k < l.length by omega]
    rw [e]
    exact (by simpa using he : _ = _).symm
  · rintro ⟨k, hk, _, he⟩
    refine ⟨l[k], ?_, ?_⟩
    · rw [List.mem_take_iff_getElem]
      exact ⟨k, by omega, rfl⟩
    · have e : l.getD k Ir.nop = l[k] := by simp [List.getD, show k < l.length by omega]
      rw [← e, he]
      simp
set_option maxHeartbeats 2000000 in
set_option maxRecDepth 100000 in
theorem rowDup_any (d : Int) (db : Nat) (w : World) (hc : w.cell? ⟨db, 0, none⟩ = some (.int .i64 d)) : PredOp 72 #[.pointer (some ⟨db, 0, none⟩)] (fun o => Ir.writes o == d) w := by
  intro o W hk
  show Calls Tryd.prog 72 #[.agg (opC o), .pointer (some ⟨db, 0, none⟩)] W _
  have hc2 := hk.cell' hc (fun h => h)
  clear hk hc
  have HWR := Lib.hid (fun w => writes_any o w)
  obtain ⟨x1, hx1⟩ : ∃ x1, Ir.writes o = x1 := ⟨_, rfl⟩
  rw [hx1] at HWR
  show Calls Tryd.prog _ _ W (fun e w' => e = .returned (.bool (Ir.writes o == d)) ∧ Keeps (fun _ => False) W w')
  rw [hx1]
  clear hx1
  obtain ⟨k, dd, a, b, im, t⟩ := o
  have HN := Lib.hid (op_new W k dd a b im t 35)
  have hd2 := cell_alloc hc2 (.cells #[.string k, .int .i64 dd, .int .i64 a, .int .i64 b, .int .u32 im, .int .i64 t] 35)
  clear hc2
  unfold opC
  go_enter Tryd.func72, Tryd.ntmps72
  go_upto_region 1 with fail
  obtain ⟨hV, hK⟩ := HN.out
  have HKn := Lib.hid hK
  generalize W.alloc _ = w1 at *
  generalize W.heap.size = y at *
  clear hK HN
  obtain ⟨v0, v1, v2, v3, v4, v5⟩ := hV
  simp only at v0 v1 v2 v3 v4 v5
  go_region_held3 (fun w' => Keeps (fun _ => False) w1 w' ∧ w'.cell? ⟨y, 0, none⟩ = some (.string k) ∧ w'.cell? ⟨y, 1, none⟩ = some (.int .i64 dd) ∧ w'.cell? ⟨y, 2, none⟩ = some (.int .i64 a) ∧ w'.cell? ⟨y, 3, none⟩ = some (.int .i64 b) ∧ w'.cell? ⟨y, 4, none⟩ = some (.int .u32 im) ∧ w'.cell? ⟨y, 5, none⟩ = some (.int .i64 t) ∧ w'.cell? ⟨db, 0, none⟩ = some (.int .i64 d))
    (first | (refine ⟨?_, ?_, ?_, ?_, ?_, ?_, ?_, ?_⟩ <;> first | ((repeat (first | exact Keeps.refl _ _ | assumption | apply Keeps.drew | apply Keeps.drewN | apply Keeps.alloc | (refine Keeps.trans ?_ (by assumption) (fun _ _ h => h)))); done) | (refine Keeps.cell' (S := fun _ => False) (w := w1) ?_ (by assumption) (fun f => f); (repeat (first | exact Keeps.refl _ _ | assumption | apply Keeps.drew | apply Keeps.drewN | apply Keeps.alloc | (refine Keeps.trans ?_ (by assumption) (fun _ _ h => h)))); done)) | (trace_state; fail))
    (first | (go_at_call 70; refine (HWR.out _).mono ?_; rintro e w8 ⟨rfl, hk8⟩))
  rename_i hh
  have HK2 := Lib.hid (HKn.out.trans hh.1 (fun _ _ h => h))
  clear hh v0 v1 v2 v3 v4 v5 hd2
  go_wp2_with fail
  go_ret
  exact ⟨rfl, HK2.out⟩
set_option maxHeartbeats 16000000 in
set_option maxRecDepth 100000 in
theorem planRow_any (many : Int) (last : Bool) (A : Option Addr) (n cap : Nat) (l : List Ir.Op) (w : World) (ea : Nat → Addr) (E : ErrsR w ea) (V : OpsAt w A n cap l) (hc : cap ≤ 9223372036854775807) :
    Calls Tryd.prog 51 #[.slice A n cap, .int .i64 many, .bool last] w fun e w' => e = .returned (errOf0 ea (Ir.rowErr many l last)) ∧ Keeps (fun _ => False) w w' := by
  have HEE := Lib.hid E
  have HV := Lib.hid V
  have HL := Lib.hid V.len
  have hnc := V.le
  have HR := Lib.hid (show Ir.rowErr many l last = (if n = 0 ∨ 4 < n then 3 else if Ir.opErrs many l ≠ 0 then Ir.opErrs many l
      else if 3 < Ir.cnt l 0 ∨ 1 < Ir.cnt l 1 ∨ 1 < Ir.cnt l 2 then 8 else if Ir.dupW l = true then 7 else if last ≠ decide (0 < Ir.outs l) then 3 else 0) by rw [← HL.out]; rfl)
  obtain ⟨re, hre⟩ : ∃ r, Ir.rowErr many l last = r := ⟨_, rfl⟩
  rw [hre] at HR ⊢
  clear V hre E
  by_cases h1 : n = 0 ∨ 4 < n
  · have HE := Lib.hid (show re = 3 by rw [HR.out, if_pos h1])
    have es := HEE.out.c.shape
    rcases h1 with h1 | h1
    · have t1 : ((n : Int) == 0) = true := by simp [h1]
      have H1 := Lib.hid h1
      clear h1
      go_enter Tryd.func51, Tryd.ntmps51
      go_wp2_with fail
      go_ret
      exact ⟨by rw [HE.out]; rfl, Keeps.refl _ _⟩
    · have t1 : ((n : Int) == 0) = false := by simp; omega
      have t2 : decide ((4 : Int) < (n : Int)) = true := decide_eq_true (by omega)
      clear h1
      go_enter Tryd.func51, Tryd.ntmps51
      go_wp2_with fail
      go_ret
      exact ⟨by rw [HE.out]; rfl, Keeps.refl _ _⟩
  have t1 : ((n : Int) == 0) = false := by simp; omega
  have t2 : decide ((4 : Int) < (n : Int)) = false := decide_eq_false (by omega)
  have hn4 : n ≤ 4 := by omega
  have HR1 := Lib.hid (show re = (if Ir.opErrs many l ≠ 0 then Ir.opErrs many l else if 3 < Ir.cnt l 0 ∨ 1 < Ir.cnt l 1 ∨ 1 < Ir.cnt l 2 then 8 else if Ir.dupW l = true then 7 else if last ≠ decide (0 < Ir.outs l) then 3 else 0) by rw [HR.out, if_neg h1])
  clear h1 HR
  go_enter Tryd.func51, Tryd.ntmps51
  go_wp2_with fail
  go_loopw [26] (fun s26 wr => ∃ i : Nat, i ≤ n ∧ s26 = .int .i64 i ∧ (∀ j, j < i → Ir.opErr (l.getD j Ir.nop) many = 0) ∧ Keeps (fun _ => False) w wr) (fun s26 _ => n - (intOf s26).toNat)
  case atStart => exact ⟨0, by omega, rfl, fun j hj => absurd hj (by omega), Keeps.refl _ _⟩
  case round =>
    obtain ⟨i, hi, rfl, hZ, hK⟩ := hrel
    have HZ := Lib.hid hZ
    have HK := Lib.hid hK
    clear hZ hK
    by_cases hlt : i < n
    · obtain ⟨ob, oo, rfl, e0, e1, e2, e3, e4, e5⟩ := (HV.out.quiet HK.out).get hlt
      have hil : i < l.length := by rw [HL.out]; exact hlt
      have HAT := Lib.hid (opErrs_at (many := many) l i hil HZ.out)
      have hi63 : (i : Int) < n := by omega
      obtain ⟨op, hop⟩ : ∃ op, l.getD i Ir.nop = op := ⟨_, rfl⟩
      rw [hop] at e0 e1 e2 e3 e4 e5 HAT
      have HOP := Lib.hid hop
      clear hop hil
      have HOE := Lib.hid (fun w E => checkOp_any op many w ea E)
      obtain ⟨c, hcc⟩ : ∃ c, Ir.opErr op many = c := ⟨_, rfl⟩
      rw [hcc] at HOE HAT
      have HCC := Lib.hid hcc
      clear hcc
      obtain ⟨ok, od, oa, ob2, oim, oat⟩ := op
      have HN := Lib.hid (op_new wr ok od oa ob2 oim oat 35)
      simp only at e0 e1 e2 e3 e4 e5
      go_upto_region 6 with fail
      obtain ⟨hV, hK⟩ := HN.out
      have HKn := Lib.hid (HK.out.trans hK (fun _ _ h => h))
      generalize wr.alloc _ = w4 at *
      generalize wr.heap.size = y at *
      clear e0 e1 e2 e3 e4 e5 hK HN
      obtain ⟨v0, v1, v2, v3, v4, v5⟩ := hV
      simp only at v0 v1 v2 v3 v4 v5
      go_wp2_with fail
      refine (HOE.out _ (HEE.out.c.quiet HKn.out)).mono ?_
      rintro e w5 ⟨rfl, hk5⟩
      have HK5 := Lib.hid (HKn.out.trans hk5 (fun _ _ h => h))
      clear hk5 v0 v1 v2 v3 v4 v5
      by_cases hc0 : c = 0
      · subst hc0
        rw [show errOf0 ea 0 = .nilIface from rfl]
        have HZ1 := Lib.hid (show ∀ j, j < i + 1 → Ir.opErr (l.getD j Ir.nop) many = 0 from fun j hj => by
          by_cases hji : j < i
          · exact HZ.out j hji
          · obtain rfl : j = i := by omega
            rw [HOP.out, HCC.out])
        go_wp2_with fail
        go_roundw
        case rel => exact ⟨i + 1, by omega, by go_num, HZ1.out, HK5.out⟩
        case measure => simp [intOf]; omega
      · have HE := Lib.hid (show re = c by rw [HR1.out, HAT.out hc0, if_pos hc0])
        rw [show errOf0 ea c = .iface 187 (.pointer (some (ea c))) from if_neg hc0]
        have HC0 := Lib.hid hc0
        clear hc0
        go_wp2_with fail
        go_ret
        exact ⟨by rw [HE.out, show errOf0 ea c = errV ea c from if_neg HC0.out]; rfl, HK5.out⟩
    · obtain rfl : i = n := by omega
      have HR2 := Lib.hid (show re = (if 3 < Ir.cnt l 0 ∨ 1 < Ir.cnt l 1 ∨ 1 < Ir.cnt l 2 then 8 else if Ir.dupW l = true then 7 else if last ≠ decide (0 < Ir.outs l) then 3 else 0) by
        rw [HR1.out, opErrs_all (fun j hj => HZ.out j (by rw [← HL.out]; exact hj)), if_neg (by decide)])
      have HNN := Lib.hid (fun j (hj : j < i) => Ir.writes_nn (HZ.out j hj))
      clear HZ HR1
      generalize i = n at *
      generalize wr = w3 at *
      have HCN := Lib.hid (fun w V => counts_any A n cap l w V hc hn4)
      obtain ⟨c0, hc0⟩ : ∃ c, Ir.cnt l 0 = c := ⟨_, rfl⟩
      obtain ⟨c1, hc1⟩ : ∃ c, Ir.cnt l 1 = c := ⟨_, rfl⟩
      obtain ⟨c2, hc2⟩ : ∃ c, Ir.cnt l 2 = c := ⟨_, rfl⟩
      rw [hc0, hc1, hc2] at HCN HR2
      clear hc0 hc1 hc2
      have i0 : ∀ w, (Instr.index 123 (.agg #[.int .i64 (c0 : Int), .int .i64 (c1 : Int), .int .i64 (c2 : Int)]) (.int .i64 0)).run Tryd.prog w = .ok (.int .i64 (c0 : Int)) w := fun _ => by kernel_rfl
      have i1 : ∀ w, (Instr.index 123 (.agg #[.int .i64 (c0 : Int), .int .i64 (c1 : Int), .int .i64 (c2 : Int)]) (.int .i64 1)).run Tryd.prog w = .ok (.int .i64 (c1 : Int)) w := fun _ => by kernel_rfl
      have i2 : ∀ w, (Instr.index 123 (.agg #[.int .i64 (c0 : Int), .int .i64 (c1 : Int), .int .i64 (c2 : Int)]) (.int .i64 2)).run Tryd.prog w = .ok (.int .i64 (c2 : Int)) w := fun _ => by kernel_rfl
      go_wp2_with fail
      refine (HCN.out _ (HV.out.quiet HK.out)).mono ?_
      rintro e w4 ⟨rfl, hk4⟩
      have HK4 := Lib.hid (HK.out.trans hk4 (fun _ _ h => h))
      clear hk4 HK HCN
      go_wp2_with fail
      go_loopw [39] (fun s39 wr => ∃ i : Nat, i ≤ 3 ∧ s39 = .int .i64 i ∧ (0 < i → c0 ≤ 3) ∧ (1 < i → c1 ≤ 1) ∧ (2 < i → c2 ≤ 1) ∧ Keeps (fun _ => False) w wr) (fun s39 _ => 3 - (intOf s39).toNat)
      case atStart => exact ⟨0, by omega, rfl, fun h => by omega, fun h => by omega, fun h => by omega, HK4.out⟩
      case round =>
        obtain ⟨i, hi, rfl, hz0, hz1, hz2, hK⟩ := hrel
        have HK := Lib.hid hK
        have HZ0 := Lib.hid hz0
        have HZ1 := Lib.hid hz1
        have HZ2 := Lib.hid hz2
        clear hK hz0 hz1 hz2 HK4
        obtain rfl | rfl | rfl | rfl : i = 0 ∨ i = 1 ∨ i = 2 ∨ i = 3 := by omega
        · have HRM : Hid (∀ w, Calls Tryd.prog 69 #[.int .i64 0] w fun e w' => e = .returned (.int .i64 3) ∧ w = w') := Lib.hid (fun w => room_any 0 w)
          by_cases h : 3 < c0
          · have t3 : decide ((3 : Int) < (c0 : Int)) = true := decide_eq_true (by omega)
            have HE := Lib.hid (show re = 8 by rw [HR2.out, if_pos (.inl h)])
            have es := (HEE.out.quiet HK.out).c.full
            clear h
            go_wp2_with fail
            refine (HRM.out _).mono ?_
            rintro e w6 ⟨rfl, rfl⟩
            go_wp2_with fail
            go_ret
            exact ⟨by rw [HE.out]; rfl, HK.out⟩
          · have t3 : decide ((3 : Int) < (c0 : Int)) = false := decide_eq_false (by omega)
            have HLE : Hid (c0 ≤ 3) := Lib.hid (by omega)
            clear h
            go_wp2_with fail
            refine (HRM.out _).mono ?_
            rintro e w6 ⟨rfl, rfl⟩
            go_wp2_with fail
            go_roundw
            case rel => exact ⟨1, by omega, by go_num, fun _ => HLE.out, fun h => absurd h (by omega), fun h => absurd h (by omega), HK.out⟩
            case measure => simp [intOf]
        · have HRM : Hid (∀ w, Calls Tryd.prog 69 #[.int .i64 1] w fun e w' => e = .returned (.int .i64 1) ∧ w = w') := Lib.hid (fun w => room_any 1 w)
          by_cases h : 1 < c1
          · have t3 : decide ((1 : Int) < (c1 : Int)) = true := decide_eq_true (by omega)
            have HE := Lib.hid (show re = 8 by rw [HR2.out, if_pos (.inr (.inl h))])
            have es := (HEE.out.quiet HK.out).c.full
            clear h
            go_wp2_with fail
            refine (HRM.out _).mono ?_
            rintro e w6 ⟨rfl, rfl⟩
            go_wp2_with fail
            go_ret
            exact ⟨by rw [HE.out]; rfl, HK.out⟩
          · have t3 : decide ((1 : Int) < (c1 : Int)) = false := decide_eq_false (by omega)
            have HLE : Hid (c1 ≤ 1) := Lib.hid (by omega)
            clear h
            go_wp2_with fail
            refine (HRM.out _).mono ?_
            rintro e w6 ⟨rfl, rfl⟩
            go_wp2_with fail
            go_roundw
            case rel => exact ⟨2, by omega, by go_num, fun h => HZ0.out (by omega), fun _ => HLE.out, fun h => absurd h (by omega), HK.out⟩
            case measure => simp [intOf]
        · have HRM : Hid (∀ w, Calls Tryd.prog 69 #[.int .i64 2] w fun e w' => e = .returned (.int .i64 1) ∧ w = w') := Lib.hid (fun w => room_any 2 w)
          by_cases h : 1 < c2
          · have t3 : decide ((1 : Int) < (c2 : Int)) = true := decide_eq_true (by omega)
            have HE := Lib.hid (show re = 8 by rw [HR2.out, if_pos (.inr (.inr h))])
            have es := (HEE.out.quiet HK.out).c.full
            clear h
            go_wp2_with fail
            refine (HRM.out _).mono ?_
            rintro e w6 ⟨rfl, rfl⟩
            go_wp2_with fail
            go_ret
            exact ⟨by rw [HE.out]; rfl, HK.out⟩
          · have t3 : decide ((1 : Int) < (c2 : Int)) = false := decide_eq_false (by omega)
            have HLE : Hid (c2 ≤ 1) := Lib.hid (by omega)
            clear h
            go_wp2_with fail
            refine (HRM.out _).mono ?_
            rintro e w6 ⟨rfl, rfl⟩
            go_wp2_with fail
            go_roundw
            case rel => exact ⟨3, by omega, by go_num, fun h => HZ0.out (by omega), fun h => HZ1.out (by omega), fun _ => HLE.out, HK.out⟩
            case measure => simp [intOf]
        · have hc0 := HZ0.out (by omega)
          have hc1 := HZ1.out (by omega)
          have hc2 := HZ2.out (by omega)
          have HR4 := Lib.hid (show re = (if Ir.dupW l = true then 7 else if last ≠ decide (0 < Ir.outs l) then 3 else 0) by
            rw [HR2.out, if_neg (by omega)])
          have HKB := Lib.hid HK.out
          clear HR2 hc0 hc1 hc2 HZ0 HZ1 HZ2 HK i0 i1 i2
          rw [show ((3 : Nat) : Int) = 3 from rfl]
          go_wp2_with fail
          go_loopw [51] (fun s51 wr => ∃ i : Nat, i ≤ n ∧ s51 = .int .i64 i ∧ (∀ a k, k < a → a < i → ¬ dupAt l a k) ∧ Keeps (fun _ => False) w wr) (fun s51 _ => n - (intOf s51).toNat)
          case atStart => exact ⟨0, by omega, rfl, fun a k h1 h2 => absurd h2 (by omega), HKB.out⟩
          case round =>
            obtain ⟨i, hi, rfl, hZ, hK⟩ := hrel
            have HZ := Lib.hid hZ
            have HK := Lib.hid hK
            clear hZ hK HKB
            by_cases hlt : i < n
            · obtain ⟨ob, oo, rfl, e0, e1, e2, e3, e4, e5⟩ := (HV.out.quiet HK.out).get hlt
              have hil : i < l.length := by rw [HL.out]; exact hlt
              have hi63 : (i : Int) < n := by omega
              have HNI := Lib.hid (HNN.out i hlt)
              have HAD := Lib.hid (fun h => any_dup l i hil h)
              obtain ⟨op, hop⟩ : ∃ op, l.getD i Ir.nop = op := ⟨_, rfl⟩
              rw [hop] at e0 e1 e2 e3 e4 e5 HNI HAD
              have HOP := Lib.hid hop
              clear hop
              have HWR := Lib.hid (fun w => writes_any op w)
              obtain ⟨x1, hx1⟩ : ∃ x1, Ir.writes op = x1 := ⟨_, rfl⟩
              rw [hx1] at HWR HNI HAD
              have HX1 := Lib.hid hx1
              have HIL := Lib.hid hil
              clear hx1 hil
              obtain ⟨ok, od, oa, ob2, oim, oat⟩ := op
              have HN := Lib.hid (op_new wr ok od oa ob2 oim oat 35)
              simp only at e0 e1 e2 e3 e4 e5
              go_upto_region 19 with fail
              obtain ⟨hV, hK⟩ := HN.out
              have HKn := Lib.hid (HK.out.trans hK (fun _ _ h => h))
              generalize wr.alloc _ = w5 at *
              generalize wr.heap.size = y at *
              clear e0 e1 e2 e3 e4 e5 hK HN
              obtain ⟨v0, v1, v2, v3, v4, v5⟩ := hV
              simp only at v0 v1 v2 v3 v4 v5
              go_wp2_with fail
              refine (HWR.out _).mono ?_
              rintro e w6 ⟨rfl, hk6⟩
              have HK6 := Lib.hid (HKn.out.trans hk6 (fun _ _ h => h))
              clear hk6 v0 v1 v2 v3 v4 v5
              go_upto_region 20 with fail
              have HDB := Lib.hid (show (w6.alloc (.cells #[.int .i64 x1] 3)).cell? ⟨w6.heap.size, 0, none⟩ = some (.int .i64 x1) by unfold World.cell?; rw [blk_alloc_new]; rfl)
              have HK7 := Lib.hid (HK6.out.alloc (.cells #[.int .i64 x1] 3))
              generalize w6.alloc _ = w7 at *
              generalize w6.heap.size = db at *
              have hdb := HDB.out
              by_cases hx0 : x1 = 0
              · have t7 : (x1 != 0) = false := by simp [hx0]
                have HND := Lib.hid (show ∀ a k, k < a → a < i + 1 → ¬ dupAt l a k from fun a k h1 h2 hd => by
                  by_cases e : a = i
                  · subst e
                    have := hd.1
                    rw [HOP.out, HX1.out] at this
                    omega
                  · exact HZ.out a k h1 (by omega) hd)
                clear hx0
                go_wp2_with fail
                go_roundw
                case rel => exact ⟨i + 1, by omega, by go_num, HND.out, HK7.out⟩
                case measure => simp [intOf]; omega
              · have t7 : (x1 != 0) = true := by simp [hx0]
                have HP := Lib.hid (rowDup_any x1 db w7 hdb)
                have hpos : 0 < x1 := by have := HNI.out; omega
                have HIF := Lib.hid (HAD.out hpos)
                have hic : i ≤ cap := by omega
                have HCF := Lib.hid (fun w V hp => containsFunc_any 72 #[.pointer (some ⟨db, 0, none⟩)] (fun o => Ir.writes o == x1) (enters_of Tryd.func72 (by kernel_rfl) rfl) (some ⟨ob, oo, none⟩) i cap (l.take i) w V hc hp)
                obtain ⟨q, hq⟩ : ∃ q, (l.take i).any (fun o => Ir.writes o == x1) = q := ⟨_, rfl⟩
                rw [hq] at HCF HIF
                clear hx0 hpos hq
                go_wp2_with fail
                refine (HCF.out _ ((HV.out.quiet HK7.out).take hi) HP.out).mono ?_
                rintro e w8 ⟨rfl, hk8⟩
                have HK8 := Lib.hid (HK7.out.trans hk8 (fun _ _ h => h))
                have es := (HEE.out.quiet HK8.out).exist
                clear hk8 hdb HDB
                cases q
                · have HND := Lib.hid (show ∀ a k, k < a → a < i + 1 → ¬ dupAt l a k from fun a k h1 h2 hd => by
                    by_cases e : a = i
                    · subst e
                      have := HIF.out.2 ⟨k, h1, hd⟩
                      cases this
                    · exact HZ.out a k h1 (by omega) hd)
                  go_wp2_with fail
                  go_roundw
                  case rel => exact ⟨i + 1, by omega, by go_num, HND.out, HK8.out⟩
                  case measure => simp [intOf]; omega
                · have HE := Lib.hid (show re = 7 by
                    obtain ⟨k, hk, hd⟩ := HIF.out.1 rfl
                    rw [HR4.out, if_pos ((dupW_iff l).2 ⟨i, k, hk, HIL.out, hd⟩)])
                  go_wp2_with fail
                  go_ret
                  exact ⟨by rw [HE.out]; rfl, HK8.out⟩
            · have hin : i = n := by omega
              have HR5 := Lib.hid (show re = (if last ≠ decide (0 < Ir.outs l) then 3 else 0) by
                rw [HR4.out, if_neg (fun h => by
                  obtain ⟨a, k, h1, h2, h3⟩ := (dupW_iff l).1 h
                  exact HZ.out a k h1 (by rw [← HL.out] at hin; omega) h3)])
              clear HR4 HZ
              subst hin
              have HCF := Lib.hid (fun w V hp => containsFunc_any 73 #[] (fun o => Ir.isOut (Ir.kn o.k)) (enters_of Tryd.func73 (by kernel_rfl) rfl) A i cap l w V hc hp)
              have HPF := Lib.hid (fun w => (show PredOp 73 #[] (fun o => Ir.isOut (Ir.kn o.k)) w from fun o W _ => final_any o W))
              rw [any_final] at HCF
              obtain ⟨q, hq⟩ : ∃ q, decide (0 < Ir.outs l) = q := ⟨_, rfl⟩
              rw [hq] at HCF HR5
              clear hq
              go_wp2_with fail
              refine (HCF.out _ (HV.out.quiet HK.out) (HPF.out _)).mono ?_
              rintro e w8 ⟨rfl, hk8⟩
              have HK8 := Lib.hid (HK.out.trans hk8 (fun _ _ h => h))
              have es := (HEE.out.quiet HK8.out).c.shape
              clear hk8
              cases q <;> cases last
              all_goals
                have HE := Lib.hid HR5.out
                clear HR5
                go_wp2_with fail
                go_ret
                exact ⟨by rw [HE.out]; rfl, HK8.out⟩
end Go.Proofs.YtlmnmncdoiealaaDoor
