
/- The walk of opt.dead. -/
import Derived.Test.YtgmbladcoikffaaGreatDoorContains
import Derived.Deep.RegionHeld3
namespace Go.Proofs.YtgmbladcoikffaaGreatDoor
open Go.RowKit Go.Deep
set_option linter.unusedVariables false
set_option linter.unusedSimpArgs false

theorem deadGo_step (d : Int) (l : List Ir.Op) (i : Nat) (hi : i < l.length) (seen : Bool) : Ir.deadGo d (l.drop i) seen =
    if (Ir.reads (l.getD i Ir.nop)).contains d then false else if Ir.writes (l.getD i Ir.nop) = d then (decide (33 < d) || !seen) else Ir.deadGo d (l.drop (i + 1)) (seen || (Ir.kn (l.getD i Ir.nop).k == 7)) := by
  have e : l.drop i = l.getD i Ir.nop :: l.drop (i + 1) := by
    rw [List.drop_eq_getElem_cons hi]
    congr 1
    simp [List.getD, hi]
  rw [e, nat_beq]
  rfl
theorem plainK_c (k : ByteArray) : Ir.plainK (Ir.kn k) = ((Ir.kn k == 1) || (Ir.kn k == 2) || Ir.isSum (Ir.kn k)) := by
  unfold Ir.plainK
  rw [nat_beq, nat_beq]
  simp [Bool.decide_or]
set_option maxHeartbeats 1000000 in
set_option maxRecDepth 100000 in
theorem dead_any (A : Option Addr) (n cap : Nat) (l : List Ir.Op) (i : Nat) (w : World) (V : OpsAt w A n cap l) (hi : i < n) (hc : cap ≤ 9223372036854775807) :
    Calls Tryz.prog 96 #[.slice A n cap, .int .i64 i] w fun e w' => e = .returned (.bool (Ir.dead l i)) ∧ Keeps (fun _ => False) w w' := by
  have HV := Lib.hid V
  have hn := V.le
  have HL := Lib.hid V.len
  obtain ⟨bb, oo, rfl, _⟩ := V.get hi
  have HVG := Lib.hid (fun (w' : World) (k : Keeps (fun _ => False) w w') p (hp : p < n) => (HV.out.quiet k).get hp)
  obtain ⟨_, _, hbb, e0, e1, e2, e3, e4, e5⟩ := V.get hi
  obtain ⟨rfl, rfl⟩ : bb = _ ∧ oo = _ := by injection hbb with h; injection h with h1 h2; exact ⟨h1, h2⟩
  clear hbb V
  obtain ⟨r, hr⟩ : ∃ r, Ir.dead l i = r := ⟨_, rfl⟩
  rw [hr]
  unfold Ir.dead at hr
  rw [plainK_c] at hr
  obtain ⟨op, hop⟩ : ∃ op, l.getD i Ir.nop = op := ⟨_, rfl⟩
  rw [hop] at e0 e1 e2 e3 e4 e5 hr
  clear hop
  obtain ⟨k, d, a, b, im, t⟩ := op
  simp only at e0 e1 e2 e3 e4 e5 hr
  have h1 := is_set k
  have h2 := is_copy k
  have HS := Lib.hid (fun w => sum_any k w)
  have HN := Lib.hid (op_new w k d a b im t 85)
  generalize Ir.isSum (Ir.kn k) = ps at *
  generalize (Ir.kn k == 1) = p1 at *
  generalize (Ir.kn k == 2) = p2 at *
  have h1n : (k.toList != [115, 101, 116]) = !p1 := by rw [bne, h1]
  have h2n : (k.toList != [99, 111, 112, 121]) = !p2 := by rw [bne, h2]
  have HR := Lib.hid hr
  clear hr
  go_enter Tryz.func96, Tryz.ntmps96
  go_upto_region 2 with fail
  obtain ⟨hV, hK⟩ := HN.out
  generalize w.alloc _ = w1 at *
  generalize w.heap.size = y at *
  obtain ⟨v0, v1, v2, v3, v4, v5⟩ := hV
  simp only at v0 v1 v2 v3 v4 v5
  have HK := Lib.hid hK
  clear hK HN e0 e1 e2 e3 e4 e5
  go_cut [26] (fun s26 wx => s26 = .bool (!(p1 || p2 || ps)) ∧ wx = w1)
  case first =>
    cases p1
    · cases p2
      · go_wp2_with fail
        refine (HS.out _).mono ?_
        rintro e w' ⟨rfl, rfl⟩
        go_wp2_with fail
        go_meet
        exact ⟨by simp, rfl⟩
      · go_wp2_with fail
        go_meet
        exact ⟨rfl, rfl⟩
    · go_wp2_with fail
      go_meet
      exact ⟨rfl, rfl⟩
  case rest =>
    obtain ⟨rfl, rfl⟩ := hcut
    clear h1 h2 h1n h2n
    generalize (p1 || p2 || ps) = pk at *
    cases pk
    · go_wp2_with fail
      go_ret
      exact ⟨by rw [← HR.out]; rfl, HK.out⟩
    · have hr := HR.out
      rw [Bool.true_and] at hr
      have HR2 := Lib.hid hr
      have HY := Lib.hid (show OpAt wc y ⟨k, d, a, b, im, t⟩ from ⟨v0, v1, v2, v3, v4, v5⟩)
      clear hr HR v0 v1 v2 v3 v4 v5
      by_cases hcp : cap = i + 1
      · obtain rfl : n = i + 1 := by omega
        subst hcp
        have HRE := Lib.hid (show r = decide (33 < d) by rw [← HR2.out, List.drop_eq_nil_of_le (by have := HL.out; omega)]; rfl)
        obtain ⟨v0, v1, v2, v3, v4, v5⟩ := HY.out
        simp only at v0 v1 v2 v3 v4 v5
        go_wp2_with fail
        go_loopw [32] (fun s32 wr => s32 = .int .i64 0 ∧ wc = wr) (fun _ _ => 0)
        case atStart => exact ⟨rfl, rfl⟩
        case round =>
          obtain ⟨rfl, rfl⟩ := hrel
          go_wp2_with fail
          go_ret
          exact ⟨by rw [HRE.out]; rfl, HK.out⟩
      go_upto_region 5 with fail
      go_cut [30, 31, 32] (fun s30 s31 s32 wx => ∃ C c2, s30 = .slice (some C) (n - (i + 1)) c2 ∧ s31 = .int .i64 ((n - (i + 1) : Nat) : Int) ∧ s32 = .int .i64 0 ∧ wx = wc ∧ (n - (i + 1) = 0 ∨ C = ⟨bb, oo + (i + 1) * 6, none⟩))
      case first =>
        go_wp2_with fail
        all_goals (go_meet; first | exact ⟨_, _, rfl, rfl, rfl, rfl, .inr rfl⟩ | exact ⟨_, _, rfl, rfl, rfl, rfl, .inl (by omega)⟩ | (trace_state; fail))
      case rest =>
        obtain ⟨C, c2, rfl, rfl, rfl, rfl, hC⟩ := hcut
        clear hcp
        have HC := Lib.hid hC
        clear hC
        go_wp2_with fail
        go_loopw [32, 6] (fun s32 s6 wr => ∃ (j : Nat) (seen : Bool), j ≤ n - (i + 1) ∧ s32 = .int .i64 j ∧ s6 = .bool seen ∧ r = Ir.deadGo d (l.drop (i + 1 + j)) seen ∧ Keeps (fun _ => False) wc wr) (fun s32 _ _ => (n - (i + 1)) - (intOf s32).toNat)
        case atStart => exact ⟨0, false, by omega, rfl, rfl, HR2.out.symm, Keeps.refl _ _⟩
        case round =>
          obtain ⟨j, seen, hj, rfl, rfl, hrj, hKj⟩ := hrel
          have HRJ := Lib.hid hrj
          have HKJ := Lib.hid (HK.out.trans hKj (fun _ _ h => h))
          have HKL := Lib.hid hKj
          clear hrj hKj
          by_cases hlt : j < n - (i + 1)
          · obtain rfl : C = ⟨bb, oo + (i + 1) * 6, none⟩ := by
              rcases HC.out with h | h
              · omega
              · exact h
            have HYJ := Lib.hid (HY.out.keep HKL.out (fun h => h))
            have HST := Lib.hid (deadGo_step d l (i + 1 + j) (by have := HL.out; omega) seen)
            obtain ⟨b3, o3, hbb, hx⟩ := HVG.out _ HKJ.out (i + 1 + j) (by omega)
            obtain ⟨rfl, rfl⟩ : bb = b3 ∧ oo = o3 := by injection hbb with h; injection h with h1 h2; exact ⟨h1, h2⟩
            rw [show oo + (i + 1 + j) * 6 = oo + (i + 1) * 6 + j * 6 by omega] at hx
            clear hbb
            obtain ⟨x, hxx⟩ : ∃ x, l.getD (i + 1 + j) Ir.nop = x := ⟨_, rfl⟩
            rw [hxx] at hx HST
            clear hxx
            obtain ⟨e0, e1, e2, e3, e4, e5⟩ := hx
            have HAL := Lib.hid ((Keeps.refl (fun _ => False) wr).alloc (.cells (opC x) 85))
            have HOA := Lib.hid (OpAt.new wr x 85)
            have HRD := Lib.hid (fun w => Reads_any x w)
            have HWT := Lib.hid (fun w => writes_any x w)
            have h7 := is_if x.k
            obtain ⟨ct, hct⟩ : ∃ b, (Ir.reads x).contains d = b := ⟨_, rfl⟩
            obtain ⟨wt, hwt⟩ : ∃ b, Ir.writes x = b := ⟨_, rfl⟩
            rw [hct, hwt] at HST
            have HCT := Lib.hid (fun v w wc (h : IntsAt w (Ir.reads x) v) (hk : Keeps (fun _ => False) w wc) => contains_at v (Ir.reads x) d wc (h.keep hk))
            rw [hct] at HCT
            rw [hwt] at HWT
            clear hct hwt
            generalize (Ir.kn x.k == 7) = p7 at *
            go_upto_region 8 with fail
            have hal := HAL.out
            have hoa := HOA.out
            simp only [opC] at hal hoa
            clear HAL HOA
            generalize wr.alloc _ = wx at *
            generalize wr.heap.size = z at *
            have HKX := Lib.hid (HKL.out.trans hal (fun _ _ h => h))
            have HZX := Lib.hid hoa
            have HYX := Lib.hid (HYJ.out.keep hal (fun h => h))
            obtain ⟨x0, x1, x2, x3, x4, x5⟩ := hoa
            have yd := HYX.out.v1
            simp only at yd
            clear hal e0 e1 e2 e3 e4 e5 HYJ
            go_region_held3 (fun w' => Keeps (fun _ => False) wx w' ∧ w'.cell? ⟨z, 0, none⟩ = some (.string x.k) ∧ w'.cell? ⟨z, 1, none⟩ = some (.int .i64 x.d) ∧ w'.cell? ⟨z, 2, none⟩ = some (.int .i64 x.a) ∧ w'.cell? ⟨z, 3, none⟩ = some (.int .i64 x.b) ∧ w'.cell? ⟨z, 4, none⟩ = some (.int .u32 x.imm) ∧ w'.cell? ⟨z, 5, none⟩ = some (.int .i64 x.at_) ∧ w'.cell? ⟨y, 1, none⟩ = some (.int .i64 d))
              (first | (refine ⟨?_, ?_, ?_, ?_, ?_, ?_, ?_, ?_⟩ <;> first | ((repeat (first | exact Keeps.refl _ _ | assumption | apply Keeps.drew | apply Keeps.drewN | apply Keeps.alloc | (refine Keeps.trans ?_ (by assumption) (fun _ _ h => h)))); done) | (refine Keeps.cell' (S := fun _ => False) (w := wx) ?_ (by assumption) (fun f => f); (repeat (first | exact Keeps.refl _ _ | assumption | apply Keeps.drew | apply Keeps.drewN | apply Keeps.alloc | (refine Keeps.trans ?_ (by assumption) (fun _ _ h => h)))); done)) | (trace_state; fail))
              (first | (go_at_call 103; refine (HRD.out _).mono ?_; rintro e w6 ⟨v, rfl, hv6, hk6⟩) | (go_at_call 136; refine (HCT.out v w6 _ hv6 ?_).mono ?_; ((repeat (first | exact Keeps.refl _ _ | assumption | apply Keeps.drew | apply Keeps.drewN | apply Keeps.alloc | (refine Keeps.trans ?_ (by assumption) (fun _ _ h => h))))); rintro e w7 ⟨rfl, rfl⟩))
            rename_i hh
            have hkr := hh.1
            have HKR := Lib.hid (HKX.out.trans hkr (fun _ _ h => h))
            have HZR := Lib.hid (HZX.out.keep hkr (fun h => h))
            have HYR := Lib.hid (HYX.out.keep hkr (fun h => h))
            clear hh x0 x1 x2 x3 x4 x5 yd hkr
            cases ct
            · have hst := HST.out
              rw [if_neg (by decide)] at hst
              have HS2 := Lib.hid hst
              clear hst HST
              go_upto_region 10 with fail
              obtain ⟨x0, x1, x2, x3, x4, x5⟩ := HZR.out
              have yd := HYR.out.v1
              simp only at yd
              go_region_held3 (fun w' => Keeps (fun _ => False) w7 w' ∧ w'.cell? ⟨z, 0, none⟩ = some (.string x.k) ∧ w'.cell? ⟨z, 1, none⟩ = some (.int .i64 x.d) ∧ w'.cell? ⟨z, 2, none⟩ = some (.int .i64 x.a) ∧ w'.cell? ⟨z, 3, none⟩ = some (.int .i64 x.b) ∧ w'.cell? ⟨z, 4, none⟩ = some (.int .u32 x.imm) ∧ w'.cell? ⟨z, 5, none⟩ = some (.int .i64 x.at_) ∧ w'.cell? ⟨y, 1, none⟩ = some (.int .i64 d))
                (first | (refine ⟨?_, ?_, ?_, ?_, ?_, ?_, ?_, ?_⟩ <;> first | ((repeat (first | exact Keeps.refl _ _ | assumption | apply Keeps.drew | apply Keeps.drewN | apply Keeps.alloc | (refine Keeps.trans ?_ (by assumption) (fun _ _ h => h)))); done) | (refine Keeps.cell' (S := fun _ => False) (w := w7) ?_ (by assumption) (fun f => f); (repeat (first | exact Keeps.refl _ _ | assumption | apply Keeps.drew | apply Keeps.drewN | apply Keeps.alloc | (refine Keeps.trans ?_ (by assumption) (fun _ _ h => h)))); done)) | (trace_state; fail))
                (first | (go_at_call 104; refine (HWT.out _).mono ?_; rintro e w8 ⟨rfl, hk8⟩))
              rename_i hh
              have hkr := hh.1
              have HKR2 := Lib.hid (HKR.out.trans hkr (fun _ _ h => h))
              clear hh x0 x1 x2 x3 x4 x5 yd
              obtain ⟨v0, v1, v2, v3, v4, v5⟩ := HYR.out.keep hkr (fun h => h)
              obtain ⟨x0, x1, x2, x3, x4, x5⟩ := HZR.out.keep hkr (fun h => h)
              simp only at v0 v1 v2 v3 v4 v5
              clear hkr
              by_cases hwd : wt = d
              · have HRE := Lib.hid (show r = (decide (33 < d) || !seen) by rw [HRJ.out, HS2.out, if_pos hwd])
                have t1 : (wt == d) = true := by simpa using hwd
                clear hwd
                by_cases h33 : 33 < d
                · have t3 : decide (33 < d) = true := decide_eq_true h33
                  have HRE2 := Lib.hid (show r = true by rw [HRE.out, t3]; rfl)
                  clear h33 HRE
                  go_wp2_with fail
                  go_ret
                  exact ⟨by rw [HRE2.out]; rfl, HK.out.trans HKR2.out (fun _ _ h => h)⟩
                · have t3 : decide (33 < d) = false := decide_eq_false h33
                  have HRE2 := Lib.hid (show r = !seen by rw [HRE.out, t3]; rfl)
                  clear h33 HRE
                  go_wp2_with fail
                  go_ret
                  exact ⟨by rw [HRE2.out]; rfl, HK.out.trans HKR2.out (fun _ _ h => h)⟩
              · have t1 : (wt == d) = false := by simpa using hwd
                have HRE := Lib.hid (show r = Ir.deadGo d (l.drop (i + 1 + (j + 1))) (seen || p7) by rw [HRJ.out, HS2.out, if_neg hwd]; rfl)
                clear hwd
                cases seen
                · go_wp2_with fail
                  go_roundw
                  case rel => exact ⟨j + 1, p7, by omega, by go_num, rfl, HRE.out, HKR2.out⟩
                  case measure => simp [intOf]; omega
                · go_wp2_with fail
                  go_roundw
                  case rel => exact ⟨j + 1, true, by omega, by go_num, rfl, HRE.out, HKR2.out⟩
                  case measure => simp [intOf]; omega
            · have HRE := Lib.hid (show r = false by rw [HRJ.out, HST.out]; rfl)
              go_wp2_with fail
              go_ret
              exact ⟨by rw [HRE.out]; rfl, HK.out.trans HKR.out (fun _ _ h => h)⟩
          · have hje : l.drop (i + 1 + j) = [] := List.drop_eq_nil_of_le (by have := HL.out; omega)
            have HRE := Lib.hid (show r = decide (33 < d) by rw [HRJ.out, hje]; rfl)
            obtain ⟨v0, v1, v2, v3, v4, v5⟩ := HY.out.keep HKL.out (fun h => h)
            simp only at v0 v1 v2 v3 v4 v5
            have hjn : j = n - (i + 1) := by omega
            clear hje HC
            subst hjn
            go_wp2_with fail
            go_ret
            exact ⟨by rw [HRE.out]; rfl, HKJ.out⟩
end Go.Proofs.YtgmbladcoikffaaGreatDoor
