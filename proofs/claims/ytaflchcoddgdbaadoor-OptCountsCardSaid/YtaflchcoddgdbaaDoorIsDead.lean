/- The walk of the reference's isDead. -/
import Derived.Test.YtaflchcoddgdbaaDoorDead
import Derived.Test.YtaflchcoddgdbaaDoorReadsOf
import Derived.Test.YtaflchcoddgdbaaDoorIsKnown
import Derived.Deep.RegionHeld3
namespace Go.Proofs.YtaflchcoddgdbaaDoor
open Go.RowKit Go.Deep
set_option linter.unusedVariables false
set_option linter.unusedSimpArgs false

theorem contains_not {l : List Int} {d : Int} (h : ∀ p, p < l.length → l.getD p 0 ≠ d) : l.contains d = false := by
  rw [Bool.eq_false_iff]
  intro hc
  rw [List.contains_iff_mem] at hc
  obtain ⟨p, hp, he⟩ := List.getElem_of_mem hc
  exact h p hp (by rw [List.getD_eq_getElem?_getD, List.getElem?_eq_getElem hp]; exact he)
theorem contains_yes {l : List Int} {d : Int} {p : Nat} (hp : p < l.length) (h : l.getD p 0 = d) : l.contains d = true := by
  rw [List.contains_iff_mem]
  rw [List.getD_eq_getElem?_getD, List.getElem?_eq_getElem hp] at h
  rw [← h]
  exact List.getElem_mem hp
set_option maxHeartbeats 2000000 in
set_option maxRecDepth 100000 in
theorem isDead_any (A : Option Addr) (n cap : Nat) (l : List Ir.Op) (i : Nat) (w : World) (V : OpsAt w A n cap l) (hi : i < n) (hc : cap ≤ 9223372036854775807) :
    Calls Tryd.prog 55 #[.slice A n cap, .int .i64 i] w fun e w' => e = .returned (.bool (Ir.dead l i)) ∧ Keeps (fun _ => False) w w' := by
  have HV := Lib.hid V
  have hn := V.le
  have HL := Lib.hid V.len
  obtain ⟨bb, oo, rfl, _⟩ := V.get hi
  have HVG := Lib.hid (fun (w' : World) (k : Keeps (fun _ => False) w w') p (hp : p < n) => (HV.out.quiet k).get hp)
  obtain ⟨_, _, hbb, e0, e1, e2, e3, e4, e5⟩ := V.get hi
  obtain ⟨rfl, rfl⟩ : bb = _ ∧ oo = _ := by injection hbb with h; injection h with h1 h2; exact ⟨h1, h2⟩
  clear hbb V
  obtain ⟨r, hr⟩ : ∃ r, Ir.dead l i = r := ⟨_, rfl⟩
  rw [hr]
  unfold Ir.dead at hr
  rw [plainK_c] at hr
  obtain ⟨op, hop⟩ : ∃ op, l.getD i Ir.nop = op := ⟨_, rfl⟩
  rw [hop] at e0 e1 e2 e3 e4 e5 hr
  clear hop
  obtain ⟨k, d, a, b, im, t⟩ := op
  simp only at e0 e1 e2 e3 e4 e5 hr
  have h1 := is_set k
  have h2 := is_copy k
  have HS := Lib.hid (fun w => isSum_any k w)
  have HN := Lib.hid (op_new w k d a b im t 60)
  generalize Ir.isSum (Ir.kn k) = ps at *
  generalize (Ir.kn k == 1) = p1 at *
  generalize (Ir.kn k == 2) = p2 at *
  have h1n : (k.toList != [115, 101, 116]) = !p1 := by rw [bne, h1]
  have h2n : (k.toList != [99, 111, 112, 121]) = !p2 := by rw [bne, h2]
  have HR := Lib.hid hr
  clear hr
  go_enter Tryd.func55, Tryd.ntmps55
  go_upto_region 2 with fail
  obtain ⟨hV, hK⟩ := HN.out
  generalize w.alloc _ = w1 at *
  generalize w.heap.size = y at *
  obtain ⟨v0, v1, v2, v3, v4, v5⟩ := hV
  simp only at v0 v1 v2 v3 v4 v5
  have HK := Lib.hid hK
  clear hK HN e0 e1 e2 e3 e4 e5
  go_wp2_with fail
  refine (HS.out _).mono ?_
  rintro e w' ⟨rfl, hw'⟩
  obtain rfl := hw'.symm
  go_upto_region 3 with fail
  go_cut [29] (fun s29 wx => s29 = .bool (!(p1 || p2 || ps)) ∧ wx = w1)
  case first =>
    cases p1 <;> cases p2 <;> cases ps
    all_goals
      go_wp2_with fail
      go_meet
      exact ⟨rfl, rfl⟩
  case rest =>
    obtain ⟨rfl, rfl⟩ := hcut
    clear h1 h2 h1n h2n
    generalize (p1 || p2 || ps) = pk at *
    cases pk
    · go_wp2_with fail
      go_ret
      exact ⟨by rw [← HR.out]; rfl, HK.out⟩
    · rw [show (Value.bool (!true)) = Value.bool false from rfl]
      have hr := HR.out
      rw [Bool.true_and] at hr
      have HR2 := Lib.hid hr
      have HY := Lib.hid (show OpAt wc y ⟨k, d, a, b, im, t⟩ from ⟨v0, v1, v2, v3, v4, v5⟩)
      clear hr HR v0 v1 v2 v3 v4 v5
      go_wp2_with fail
      go_loopw [7, 8] (fun s7 s8 wr => ∃ (j c : Nat), i + 1 ≤ j ∧ j ≤ n ∧ c ≤ j ∧ s8 = .int .i64 j ∧ s7 = .int .i64 c ∧ r = Ir.deadGo d (l.drop j) (!(c == 0)) ∧ Keeps (fun _ => False) wc wr) (fun _ s8 _ => n - (intOf s8).toNat)
      case atStart => exact ⟨i + 1, 0, by omega, by omega, by omega, by go_num, rfl, HR2.out.symm, Keeps.refl _ _⟩
      case round =>
        obtain ⟨j, c, hj1, hj2, hcj, rfl, rfl, hrj, hKj⟩ := hrel
        obtain ⟨wo, rfl⟩ : ∃ wo, wo = wr := ⟨wr, rfl⟩
        have HRJ := Lib.hid hrj
        have HKJ := Lib.hid (HK.out.trans hKj (fun _ _ h => h))
        have HKL := Lib.hid hKj
        clear hrj hKj
        by_cases hlt : j < n
        · have HYJ := Lib.hid (HY.out.keep HKL.out (fun h => h))
          have HST := Lib.hid (deadGo_step d l j (by have := HL.out; omega) (!(c == 0)))
          obtain ⟨b3, o3, hbb, hx⟩ := HVG.out _ HKJ.out j hlt
          obtain ⟨rfl, rfl⟩ : bb = b3 ∧ oo = o3 := by injection hbb with h; injection h with h1 h2; exact ⟨h1, h2⟩
          clear hbb
          obtain ⟨x, hxx⟩ : ∃ x, l.getD j Ir.nop = x := ⟨_, rfl⟩
          rw [hxx] at hx HST
          clear hxx
          have HXL := Lib.hid hx
          obtain ⟨e0, e1, e2, e3, e4, e5⟩ := hx
          have HRD := Lib.hid (fun w => readsOf_any x w)
          have HWT := Lib.hid (fun w => writeOf_any x w)
          have h7 := is_if x.k
          obtain ⟨wt, hwt⟩ : ∃ b, Ir.writes x = b := ⟨_, rfl⟩
          rw [hwt] at HST HWT
          clear hwt
          have HCN := Lib.hid (fun h => contains_not (l := Ir.reads x) (d := d) h)
          have HCY := Lib.hid (fun p hp h => contains_yes (l := Ir.reads x) (d := d) (p := p) hp h)
          have hle3 := reads_le x
          generalize (Ir.kn x.k == 7) = p7 at *
          go_wp2_with fail
          refine (HRD.out _).mono ?_
          rintro e w2 ⟨v, rfl, hv, hk2⟩
          obtain ⟨A2, cap2, rfl, hcap2, hrd⟩ := hv.reads
          have HRR := Lib.hid hrd
          have HK2 := Lib.hid hk2
          generalize Ir.reads x = rl at *
          obtain ⟨m, hm⟩ : ∃ m, rl.length = m := ⟨_, rfl⟩
          rw [hm] at HRR hle3 ⊢
          have HM := Lib.hid hm
          unfold maxLen at hcap2
          clear hv hrd hk2 hm e0 e1 e2 e3 e4 e5
          go_wp2_with fail
          go_loopw [10] (fun s10 wq => ∃ q : Nat, q ≤ m ∧ s10 = .int .i64 q ∧ (∀ p, p < q → rl.getD p 0 ≠ d) ∧ Keeps (fun _ => False) w2 wq) (fun s10 _ => m - (intOf s10).toNat)
          case atStart => exact ⟨0, by omega, rfl, fun p hp => absurd hp (Nat.not_lt_zero _), Keeps.refl _ _⟩
          case round =>
            obtain ⟨q, hq, rfl, hz, hKq⟩ := hrel
            have HZ := Lib.hid hz
            have HKQ2 := Lib.hid hKq
            have HKQ := Lib.hid (HK2.out.trans hKq (fun _ _ h => h))
            have HYQ := Lib.hid (HYJ.out.keep HKQ.out (fun h => h))
            clear hz
            by_cases hq2 : q < m
            · obtain ⟨hle, h0 | ⟨rb, ro, rfl, hb, hcells⟩⟩ := HRR.out.keep hKq (fun _ _ _ h => h)
              · omega
              have c0 := hcells q hq2
              have yd := HYQ.out.v1
              simp only at c0 yd
              have hqc : q < cap2 := by omega
              obtain ⟨u, hu⟩ : ∃ u, rl.getD q 0 = u := ⟨_, rfl⟩
              rw [hu] at c0
              have HU := Lib.hid hu
              clear hu hcells hb hKq
              go_upto_region 13 with fail
              go_region_held3 (fun w' => Keeps (fun _ => False) wr w' ∧ w'.cell? ⟨rb, ro + q, none⟩ = some (.int .i64 u) ∧ w'.cell? ⟨y, 1, none⟩ = some (.int .i64 d))
                (first | (refine ⟨?_, ?_, ?_⟩ <;> first | ((repeat (first | exact Keeps.refl _ _ | assumption | apply Keeps.drew | apply Keeps.drewN | apply Keeps.alloc | (refine Keeps.trans ?_ (by assumption) (fun _ _ h => h)))); done) | (refine Keeps.cell' (S := fun _ => False) (w := wr) ?_ (by assumption) (fun f => f); (repeat (first | exact Keeps.refl _ _ | assumption | apply Keeps.drew | apply Keeps.drewN | apply Keeps.alloc | (refine Keeps.trans ?_ (by assumption) (fun _ _ h => h)))); done)) | (trace_state; fail))
                (fail)
              rename_i hh
              have HKR := Lib.hid (HKQ2.out.trans hh.1 (fun _ _ h => h))
              clear hh c0 yd
              by_cases he : u = d
              · have t1 : (u == d) = true := by simpa using he
                have HRE := Lib.hid (show r = false by
                  rw [HRJ.out, HST.out, HCY.out q (by rw [HM.out]; exact hq2) (HU.out.trans he)]
                  rfl)
                clear he
                go_wp2_with fail
                go_ret
                exact ⟨by rw [HRE.out]; rfl, HKJ.out.trans (HK2.out.trans HKR.out (fun _ _ h => h)) (fun _ _ h => h)⟩
              · have t1 : (u == d) = false := by simpa using he
                have HNE := Lib.hid he
                clear he
                go_wp2_with fail
                go_roundw
                case rel => exact ⟨q + 1, by omega, by go_num, fun p hp => by
                  by_cases e : p = q
                  · subst e; rw [HU.out]; exact HNE.out
                  · exact HZ.out p (by omega), HKR.out⟩
                case measure => simp [intOf]; omega
            · obtain rfl : q = m := by omega
              have hst := HST.out
              rw [HCN.out (fun p hp => HZ.out p (by rw [HM.out] at hp; exact hp)), if_neg (by decide)] at hst
              have HS2 := Lib.hid hst
              clear hst HST hKq
              obtain ⟨e0, e1, e2, e3, e4, e5⟩ := HXL.out.keep HKQ.out (fun h => h)
              have yd := HYQ.out.v1
              simp only at yd
              go_upto_region 15 with fail
              go_region_held3 (fun w' => Keeps (fun _ => False) wr w' ∧ w'.cell? ⟨bb, oo + j * 6, none⟩ = some (.string x.k) ∧ w'.cell? ⟨bb, oo + j * 6 + 1, none⟩ = some (.int .i64 x.d) ∧ w'.cell? ⟨bb, oo + j * 6 + 2, none⟩ = some (.int .i64 x.a) ∧ w'.cell? ⟨bb, oo + j * 6 + 3, none⟩ = some (.int .i64 x.b) ∧ w'.cell? ⟨bb, oo + j * 6 + 4, none⟩ = some (.int .u32 x.imm) ∧ w'.cell? ⟨bb, oo + j * 6 + 5, none⟩ = some (.int .i64 x.at_) ∧ w'.cell? ⟨y, 1, none⟩ = some (.int .i64 d))
                (first | (refine ⟨?_, ?_, ?_, ?_, ?_, ?_, ?_, ?_⟩ <;> first | ((repeat (first | exact Keeps.refl _ _ | assumption | apply Keeps.drew | apply Keeps.drewN | apply Keeps.alloc | (refine Keeps.trans ?_ (by assumption) (fun _ _ h => h)))); done) | (refine Keeps.cell' (S := fun _ => False) (w := wr) ?_ (by assumption) (fun f => f); (repeat (first | exact Keeps.refl _ _ | assumption | apply Keeps.drew | apply Keeps.drewN | apply Keeps.alloc | (refine Keeps.trans ?_ (by assumption) (fun _ _ h => h)))); done)) | (trace_state; fail))
                (first | (go_at_call 28; refine (HWT.out _).mono ?_; rintro e w8 ⟨rfl, hk8⟩))
              rename_i hh
              have hkr := hh.1
              have HKW := Lib.hid (HKQ.out.trans hkr (fun _ _ h => h))
              clear hh e0 e1 e2 e3 e4 e5 yd hkr
              obtain ⟨v0, v1, v2, v3, v4, v5⟩ := HYJ.out.keep HKW.out (fun h => h)
              obtain ⟨e0, e1, e2, e3, e4, e5⟩ := HXL.out.keep HKW.out (fun h => h)
              simp only at v0 v1 v2 v3 v4 v5
              by_cases hwd : wt = d
              · have HRE := Lib.hid (show r = (decide (33 < d) || (c == 0)) by
                  rw [HRJ.out, HS2.out, if_pos hwd, Bool.not_not])
                have t1 : (wt == d) = true := by simpa using hwd
                clear hwd
                by_cases h33 : 33 < d
                · have t3 : decide (33 < d) = true := decide_eq_true h33
                  have HRE2 := Lib.hid (show r = true by rw [HRE.out, t3]; rfl)
                  clear h33 HRE
                  go_wp2_with fail
                  go_ret
                  exact ⟨by rw [HRE2.out]; rfl, HKJ.out.trans HKW.out (fun _ _ h => h)⟩
                · have t3 : decide (33 < d) = false := decide_eq_false h33
                  have t4 : ((c : Int) == 0) = (c == 0) := by
                    rw [Bool.eq_iff_iff]
                    simp
                    try omega
                  have HRE2 := Lib.hid (show r = (c == 0) by rw [HRE.out, t3]; rfl)
                  clear h33 HRE
                  generalize (c == 0) = cz at *
                  go_wp2_with fail
                  go_ret
                  exact ⟨by rw [HRE2.out]; rfl, HKJ.out.trans HKW.out (fun _ _ h => h)⟩
              · have t1 : (wt == d) = false := by simpa using hwd
                have HRE := Lib.hid (show r = Ir.deadGo d (l.drop (j + 1)) (!(c == 0) || p7) by rw [HRJ.out, HS2.out, if_neg hwd])
                clear hwd
                cases p7
                · go_wp2_with fail
                  go_roundw
                  case rel => exact ⟨j + 1, c, by omega, by omega, by omega, by go_num, rfl, by rw [HRE.out, Bool.or_false], HKL.out.trans HKW.out (fun _ _ h => h)⟩
                  case measure => simp [intOf]; omega
                · go_wp2_with fail
                  go_roundw
                  case rel => exact ⟨j + 1, c + 1, by omega, by omega, by omega, by go_num, by go_num, by rw [HRE.out, Bool.or_true]; rfl, HKL.out.trans HKW.out (fun _ _ h => h)⟩
                  case measure => simp [intOf]; omega
        · obtain rfl : j = n := by omega
          have hje : l.drop j = [] := List.drop_eq_nil_of_le (by have := HL.out; omega)
          have HRE := Lib.hid (show r = decide (33 < d) by rw [HRJ.out, hje]; rfl)
          obtain ⟨v0, v1, v2, v3, v4, v5⟩ := HY.out.keep HKL.out (fun h => h)
          simp only at v0 v1 v2 v3 v4 v5
          clear hje
          go_wp2_with fail
          go_ret
          exact ⟨by rw [HRE.out]; rfl, HKJ.out⟩
end Go.Proofs.YtaflchcoddgdbaaDoor
