import Derived.Test.YtlmnmncdoiealaaGreatDoorKaz25
import Derived.Test.YtlmnmncdoiealaaGreatDoorKaz26
import Derived.Deep.CutBlock
import Derived.Deep.DeepCutAuto

/- KeepActs -/
/- The walk of the law KeepActs. -/
namespace Go.Proofs.YtlmnmncdoiealaaGreatDoor
open Go.RowKit Go.Deep
set_option linter.unusedVariables false
set_option linter.unusedSimpArgs false

theorem ErrsAll.toRk {w : World} {ea : Nat → Addr} (E : ErrsAll w ea) : ErrsR w ea := ⟨E.toC, E.cell 7 (by omega) (by omega)⟩
theorem eraseIdx_mapK (f : ZV → K4) : ∀ (l : List ZV) (i : Nat), (l.map f).eraseIdx i = (l.eraseIdx i).map f
  | [], i => by simp
  | a :: r, 0 => by simp
  | a :: r, i + 1 => by simp [eraseIdx_mapK f r i]
theorem step_append_ik {ops : Array Oper} {o : Oper} {a : Act} {w : World} {K : Act → World → Prop} {Q : Exit → Act → World → Prop} {E : Prop}
    (hg : o.guard = none) (s x : Operand) (hop : o.op = Op.call { callee := Callee.builtin Builtin.append, args := #[s, x], argTypes := #[36, 36] })
    (B : Nat) (l1 : List Int) (v : Value) (hs : a.eval s = v) (h1 : IOwn w B l1 v) (A2 : Option Addr) (m c : Nat) (l2 : List Int) (hx : a.eval x = .slice A2 m c) (V2 : Reads w A2 m c (fun i => .int .i64 (l2.getD i 0))) (hl2 : m = l2.length) (hcn : A2 = none → c = 0) (hb : l1.length + m ≤ 1000000) (hbase : B ≤ w.heap.size)
    (hK : ∀ v' w', IOwn w' B (l1 ++ l2) v' → Keeps (fun k => v.ownBlock = some k) w w' → K (a.put o.dst v') w') :
    if Region.wanted o (yielded ops a.tmps) = true then Oper.wp Tryz.prog o a w K Q else E := by
  obtain ⟨i0, hi, hz0, hz1, hz2⟩ := info_parts Tryz.info_i
  obtain ⟨A1, c1, rfl, ho1⟩ := h1
  cases A2 with
  | none =>
    have hcap : c = 0 := hcn rfl
    have hm : m = 0 := by have := V2.1; omega
    subst hcap hm
    obtain rfl : l2 = [] := List.eq_nil_of_length_eq_zero hl2.symm
    have hw : Region.wanted o (yielded ops a.tmps) = true := by simp [Region.wanted, hg]
    rw [if_pos hw]
    have hrun := run_append_owned_none (w := w) (P := Tryz.prog) B 36 o.type 3 i0 1 Tryz.underlying36 hi _ _ _ ho1
    unfold Oper.wp
    simp [execOp, hop, resolve, invoke, builtin, hs, hx, hrun, Result.andThen]
    exact hK _ _ (by rw [List.append_nil]; exact ⟨A1, c1, rfl, ho1⟩) (Keeps.refl _ _)
  | some ad =>
    refine step_append_mine hg s x 36 hop B 3 i0 _ 1 8 Tryz.underlying36 hi hz0 hz1 hz2 rfl (by decide) (.slice A1 l1.length c1) l1.length (intL l1) hs ho1 ad m c (intL l2) hx (by unfold intL; rw [List.length_map]; omega) (V2.at_int hl2 rfl) (intL_one l2) (by unfold maxLen; omega) (by omega) hbase ?_
    intro v' w' hown hgrow hmv
    obtain ⟨A', cap', rfl⟩ := owns_slice hown
    refine hK _ _ ⟨A', cap', by rw [List.length_append, hl2], ?_⟩ ((Keeps.refl _ w).grown hgrow (fun k hk _ => hk))
    rw [List.map_append, List.length_append, ← hl2]
    exact hown
/-- both keeps as they lie -/
structure KSt (W w : World) (B kb mb : Nat) (mx : Int) (Z : List ZV) (pg : K4 → List Int) (rw : K4 → List (List Ir.Op)) : Prop where
  k : KeepAt w B kb mx (Z.map (·.p)) pg rw
  r : RefKeep w mb mx (Z.map (·.r))
  z : ZIs W pg rw Z
  len : (Z.length : Int) ≤ mx
theorem KSt.quiet {W w w' : World} {B kb mb : Nat} {mx : Int} {Z : List ZV} {pg : K4 → List Int} {rw : K4 → List (List Ir.Op)} (h : KSt W w B kb mb mx Z pg rw) (K : Keeps (fun _ => False) w w') : KSt W w' B kb mb mx Z pg rw :=
  ⟨h.k.quiet K, h.r.quiet K, h.z, h.len⟩
theorem ent_nemb {w : World} {mb : Nat} {mx : Int} {v : Value} (hm : ∃ L, RefKeep w mb mx L) : ∀ g cs t fz, w.heap[g]? = some (.cells cs t fz) → (t = 77 ∨ t = 67 ∨ EntT t) → ¬ g = mb := fun g cs t fz hg ht e => by
  obtain ⟨L, A, n, cap, h1, _⟩ := hm
  subst e
  have e2 := obj_ty hg h1
  rcases ht with rfl | rfl | rfl | rfl | rfl
  · exact rk_ne.2.2.2.1 e2.symm
  · exact rk_ne.2.2.2.2 e2.symm
  · exact absurd e2 (by decide)
  · exact absurd e2 (by decide)
  · exact absurd e2 (by decide)
theorem rkt_not {B : Nat} {w : World} : ∀ g cs t fz, w.heap[g]? = some (.cells cs t fz) → RKT t → ¬ KT B w g := fun g cs t fz hg ht => by
  rcases ht with rfl | rfl
  · exact KT.not hg rk_ne.2.1 rk_ne.2.2.1
  · exact KT.not hg rk_ne.2.2.2.1 rk_ne.2.2.2.2
set_option maxHeartbeats 32000000 in
set_option maxRecDepth 100000 in
theorem keepActs_any (mx : Int) (A : Option Addr) (n cap : Nat) (l : List AskV) (w : World) (ea : Nat → Addr) (E : ErrsAll w ea) (V : AsksAt w A n cap l) (hc : cap ≤ 9223372036854775807) :
    Calls Tryz.prog 3 #[.int .i64 mx, .slice A n cap] w fun e w' => e = .returned (.bool true) ∧ Keeps (fun _ => False) w w' := by
  have HE := Lib.hid E
  have HV := Lib.hid V
  have hnc := V.le
  have HKE := Lib.hid (kept_any w ea E.toRk)
  clear E V
  go_enter Tryz.func3, Tryz.ntmps3
  go_wp2_with fail
  refine (HKE.out).mono ?_
  rintro e w1 ⟨rfl, hk1⟩
  have HK1 := Lib.hid hk1
  clear hk1
  by_cases h80 : 80 < n
  · have t1 : decide ((80 : Int) < (n : Int)) = true := decide_eq_true (by omega)
    go_wp2_with fail
    go_ret
    exact ⟨rfl, HK1.out⟩
  have t1 : decide ((80 : Int) < (n : Int)) = false := decide_eq_false (by omega)
  by_cases hmx : ¬ (1 ≤ mx ∧ mx ≤ 40)
  · have HNB := Lib.hid (keepNew_bad mx w1 ea ((HE.out.quiet HK1.out).cell 2 (by omega) (by omega)) hmx)
    have HCD := Lib.hid (fun w2 (k : Keeps (fun _ => False) w1 w2) => show Calls Tryz.prog 6 #[errV ea 2, .int .i64 2] w2 (fun e w' => e = .returned (.bool true) ∧ Keeps (fun _ => False) w2 w') from coded_any 2 (by omega) (by omega) w2 ea (HE.out.quiet (HK1.out.trans k (fun _ _ h => h))))
    obtain ⟨ev, hev⟩ : ∃ v, errV ea 2 = v := ⟨_, rfl⟩
    rw [hev] at HNB HCD
    clear hev
    by_cases hm1 : mx < 1
    · have t2 : decide (mx < 1) = true := decide_eq_true hm1
      clear hmx
      go_wp2_with fail
      refine (HNB.out).mono ?_
      rintro e w2 ⟨rfl, hk2⟩
      have HK2 := Lib.hid hk2
      clear hk2
      go_wp2_with fail
      refine (HCD.out w2 HK2.out).mono ?_
      rintro e w3 ⟨rfl, hk3⟩
      have HKF := Lib.hid ((HK1.out.trans HK2.out (fun _ _ h => h)).trans hk3 (fun _ _ h => h))
      clear hk3
      go_wp2_with fail
      go_ret
      exact ⟨rfl, HKF.out⟩
    · have t2 : decide (mx < 1) = false := decide_eq_false hm1
      have t3 : decide (40 < mx) = true := decide_eq_true (by omega)
      clear hmx
      go_wp2_with fail
      refine (HNB.out).mono ?_
      rintro e w2 ⟨rfl, hk2⟩
      have HK2 := Lib.hid hk2
      clear hk2
      go_wp2_with fail
      refine (HCD.out w2 HK2.out).mono ?_
      rintro e w3 ⟨rfl, hk3⟩
      have HKF := Lib.hid ((HK1.out.trans HK2.out (fun _ _ h => h)).trans hk3 (fun _ _ h => h))
      clear hk3
      go_wp2_with fail
      go_ret
      exact ⟨rfl, HKF.out⟩
  have hmx := Classical.not_not.1 hmx
  have t2 : decide (mx < 1) = false := decide_eq_false (by omega)
  have t3 : decide (40 < mx) = false := decide_eq_false (by omega)
  have HMX := Lib.hid hmx
  have HNEW := Lib.hid (keepNew_any mx (fun _ => []) (fun _ => []) w1 (by omega) (by omega))
  go_wp2_with fail
  refine (HNEW.out).mono ?_
  rintro e w2 ⟨kb, rfl, hK, hk⟩
  have HK2 := Lib.hid (HK1.out.trans hk (fun _ _ h => h))
  have HKA := Lib.hid hK
  have HBW := Lib.hid (show w.heap.size ≤ w1.heap.size from HK1.out.size)
  clear hK hk h80 hmx
  obtain ⟨B, hB⟩ : ∃ B, w1.heap.size = B := ⟨_, rfl⟩
  rw [hB] at HKA HBW
  clear hB
  have HMA := Lib.hid ((Keeps.refl (fun _ => False) w2).alloc (.cells #[.int .i64 mx, .slice none 0 0] 33))
  have HS0 := Lib.hid (show KSt w (w2.alloc (.cells #[.int .i64 mx, .slice none 0 0] 33)) B kb w2.heap.size mx [] (fun _ => []) (fun _ => []) from ⟨HKA.out.quiet HMA.out, ⟨none, 0, 0, blk_alloc_new _ _, rfl, ⟨Nat.le_refl _, by omega⟩, .inl rfl⟩, ⟨fun z hz => (by cases hz), List.nodup_nil⟩, by have := HMX.out.1; simp; omega⟩)
  go_upto_region 10 with fail
  clear t1 t2 t3
  have HK3 := Lib.hid (HK2.out.trans HMA.out (fun _ _ h => h))
  have HMB := Lib.hid (show w.heap.size ≤ w2.heap.size from HK2.out.size)
  generalize w2.alloc _ = w3 at *
  generalize w2.heap.size = mb at *
  go_wp2_with fail
  go_loopw [4, 9] (fun s4 s9 wr => ∃ (i : Nat) (Z : List ZV) (pg : K4 → List Int) (rw_ : K4 → List (List Ir.Op)), i ≤ n ∧ s9 = .int .i64 i ∧ s4 = .bool false ∧ KSt w wr B kb mb mx Z pg rw_ ∧ Keeps (fun _ => False) w wr) (fun _ s9 _ => n - (intOf s9).toNat)
  case atStart => exact ⟨0, [], _, _, by omega, rfl, rfl, HS0.out, HK3.out⟩
  case round =>
    obtain ⟨i, Z, pg, rw_, hi, rfl, rfl, hS, hK⟩ := hrel
    have HS := Lib.hid hS
    have HK := Lib.hid hK
    clear hS hK
    by_cases hlt : i < n
    · obtain ⟨ab, ao, rfl, ha⟩ := (HV.out.quiet HK.out).get hlt
      obtain ⟨ab2, ao2, e, ha0⟩ := HV.out.get hlt
      injection e with e
      injection e with e1 e2 _
      subst e1 e2
      have hi63 : (i : Int) < n := by omega
      obtain ⟨⟨kd, pc, many, rows, pages, page⟩, haa⟩ : ∃ a, l.getD i ask0 = a := ⟨_, rfl⟩
      rw [haa] at ha ha0
      clear haa
      obtain ⟨f0, f1, f2, ⟨RA, rc, f3, hra, hrc⟩, ⟨PA, pc2, f4, hpa, hpc, hpn⟩, f5, hok⟩ := ha
      obtain ⟨_, _, _, ⟨RA2, rc2, g3, hra0, hrc0⟩, ⟨PA2, pc3, g4, hpa0, hpc0, hpn0⟩, _, _⟩ := ha0
      dsimp only at f0 f1 f2 f3 f4 f5 hra hpa hok g3 g4 hra0 hpa0
      have eq3 := (HK.out.cell' g3 (fun h => h)).symm.trans f3
      have eq4 := (HK.out.cell' g4 (fun h => h)).symm.trans f4
      injection eq3 with eq3
      injection eq3 with h31 _ h33
      injection eq4 with eq4
      injection eq4 with h41 _ h43
      subst h31 h33 h41 h43
      have HRW := Lib.hid (And.intro hra0 hrc)
      have HPG := Lib.hid (And.intro hpa0 (And.intro hpc hpn))
      obtain ⟨rn, hrn⟩ : ∃ z, rows.length = z := ⟨_, rfl⟩
      obtain ⟨pn, hpn2⟩ : ∃ z, pages.length = z := ⟨_, rfl⟩
      rw [hrn] at f3 HRW
      rw [hpn2] at f4 HPG
      have HRN := Lib.hid hrn
      have HPN := Lib.hid hpn2
      clear hra hpa hrc hpc hpn g3 g4 hra0 hrc0 hpa0 hpc0 hpn0 hrn hpn2 hok
      have HXB := Lib.hid (blk_alloc_new wr (.cells #[.string kd, .int .u32 pc, .int .i64 many, .slice RA2 rn rc2, .slice PA2 pn pc3, .int .i64 page] 38))
      have HXK := Lib.hid ((Keeps.refl (fun _ => False) wr).alloc (.cells #[.string kd, .int .u32 pc, .int .i64 many, .slice RA2 rn rc2, .slice PA2 pn pc3, .int .i64 page] 38))
      go_upto_region 14 with fail
      clear f0 f1 f2 f3 f4 f5
      have HS1 := Lib.hid (HS.out.quiet HXK.out)
      have HKK := Lib.hid (HK.out.trans HXK.out (fun _ _ h => h))
      generalize wr.alloc _ = w4 at *
      generalize wr.heap.size = xb at *
      have x3 : w4.cell? ⟨xb, 3, none⟩ = some (.slice RA2 rn rc2) := cell_atK HXB.out 3
      have x4 : w4.cell? ⟨xb, 4, none⟩ = some (.slice PA2 pn pc3) := cell_atK HXB.out 4
      by_cases hr4 : 4 < rn
      · have t1 : decide ((4 : Int) < (rn : Int)) = true := decide_eq_true (by omega)
        go_wp2_with fail
        go_ret
        exact ⟨rfl, HKK.out⟩
      have t1 : decide ((4 : Int) < (rn : Int)) = false := decide_eq_false (by omega)
      by_cases hp8 : 8 < pn
      · have t2 : decide ((8 : Int) < (pn : Int)) = true := decide_eq_true (by omega)
        go_wp2_with fail
        go_ret
        exact ⟨rfl, HKK.out⟩
      have t2 : decide ((8 : Int) < (pn : Int)) = false := decide_eq_false (by omega)
      have H48 := Lib.hid (show rn ≤ 4 ∧ pn ≤ 8 from ⟨by omega, by omega⟩)
      clear hr4 hp8
      go_wp2_with fail
      clear t1 t2
      have hrn4 := H48.out.1
      go_loopw [4, 11] (fun s4 s11 wi => ∃ j : Nat, j ≤ rn ∧ s11 = .int .i64 j ∧ s4 = .bool false ∧ (∀ q, q < j → (rows.getD q []).length ≤ 201) ∧ Keeps (fun _ => False) w4 wi) (fun _ s11 _ => rn - (intOf s11).toNat)
      case atStart => exact ⟨0, by omega, rfl, rfl, fun q hq => absurd hq (by omega), Keeps.refl _ _⟩
      case round =>
        obtain ⟨j, hj, rfl, rfl, hL, hkj⟩ := hrel
        have HLL := Lib.hid hL
        have HKJ := Lib.hid hkj
        clear hL hkj
        have x3j := HKJ.out.cell' x3 (fun h => h)
        by_cases hjl : j < rn
        · obtain ⟨rb, ro, Ri, rci, rfl, p0, p1, p2⟩ := (HRW.out.1.quiet (HKK.out.trans HKJ.out (fun _ _ h => h))).get hjl
          have hj63 : (j : Int) < rn := by omega
          obtain ⟨lr, hlr⟩ : ∃ z, rows.getD j [] = z := ⟨_, rfl⟩
          rw [hlr] at p0 p1
          have HLR := Lib.hid hlr
          have HLO := Lib.hid (longOps6_any Ri lr.length rci lr wr p1 p2)
          obtain ⟨ln, hln⟩ : ∃ z, lr.length = z := ⟨_, rfl⟩
          rw [hln] at p0 HLO
          have HLN := Lib.hid hln
          clear hlr hln p1
          go_wp2_with fail
          refine (HLO.out).mono ?_
          rintro e w5 ⟨rr, rfl, hrr, hk5⟩
          have HK5 := Lib.hid (HKJ.out.trans hk5 (fun _ _ h => h))
          rcases hrr with rfl | ⟨rfl, hle⟩
          · clear hk5
            go_wp2_with fail
            go_ret
            exact ⟨rfl, HKK.out.trans HK5.out (fun _ _ h => h)⟩
          · have HL2 := Lib.hid (show ∀ q, q < j + 1 → (rows.getD q []).length ≤ 201 from fun q hq => by
              by_cases e : q < j
              · exact HLL.out q e
              · obtain rfl : q = j := by omega
                rw [HLR.out, HLN.out]
                exact hle)
            clear hk5
            go_wp2_with fail
            go_roundw
            case rel => exact ⟨j + 1, by omega, by go_num, rfl, HL2.out, HK5.out⟩
            case measure => simp [intOf]; omega
        · obtain rfl : j = rn := by omega
          have HS5 := Lib.hid (HS1.out.quiet HKJ.out)
          have HX5 := Lib.hid ((HKJ.out.block xb (Array.getElem?_eq_some_iff.1 HXB.out).1 (fun h => h)).trans HXB.out)
          have HKW := Lib.hid (HKK.out.trans HKJ.out (fun _ _ h => h))
          clear HKJ HS1 HXB HKK HS HK HXK
          have x0 : wr.cell? ⟨xb, 0, none⟩ = some (.string kd) := cell_atK HX5.out 0
          go_upto_block 4 with fail
          clear x3j x3 x4 x0
          go_cut [4] (fun s4 wx => s4 = .bool false ∧ ∃ (Z' : List ZV) (pg' : K4 → List Int) (rw' : K4 → List (List Ir.Op)), KSt w wx B kb mb mx Z' pg' rw' ∧ Keeps (fun _ => False) w wx)
          case first =>
            have HZN := Lib.hid (show Z.length ≤ 40 from by
              have h1 := HS5.out.len
              have h2 := HMX.out.2
              omega)
            have x0 : wr.cell? ⟨xb, 0, none⟩ = some (.string kd) := cell_atK HX5.out 0
            have x1 : wr.cell? ⟨xb, 1, none⟩ = some (.int .u32 pc) := cell_atK HX5.out 1
            have x2 : wr.cell? ⟨xb, 2, none⟩ = some (.int .i64 many) := cell_atK HX5.out 2
            have x3 : wr.cell? ⟨xb, 3, none⟩ = some (.slice RA2 j rc2) := cell_atK HX5.out 3
            have x4 : wr.cell? ⟨xb, 4, none⟩ = some (.slice PA2 pn pc3) := cell_atK HX5.out 4
            have x5 : wr.cell? ⟨xb, 5, none⟩ = some (.int .i64 page) := cell_atK HX5.out 5
            cases hq1 : (kd.toList == ([112, 117, 116] : List UInt8))
            · cases hq2 : (kd.toList == ([103, 101, 116] : List UInt8))
              · have HDP := Lib.hid (keepDrop_any B kb mx _ pg rw_ page wr.drew (HS5.out.k.quiet ((Keeps.refl (fun _ => False) wr).drew)) (by rw [List.length_map]; have := HZN.out; omega))
                have HDZ := Lib.hid (HS5.out.z.drop page)
                have HXN := Lib.hid (show ¬ (KT B wr xb ∨ xb = mb) from fun h => h.elim (KT.not HX5.out (by decide) (by decide)) (fun e => by
                  obtain ⟨_, _, _, h1, _⟩ := HS5.out.r.box
                  have h2 := HX5.out
                  rw [e] at h2
                  exact absurd (obj_ty h2 h1) (by decide)))
                go_wp2_with fail
                refine wp_region_held_drew (S := fun w' => Keeps (fun b => KT B wr b ∨ b = mb) wr w') (by kernel_rfl) (Keeps.refl _ wr).drew (fun hH0 => ?_)
                refine wpAnyH_take (i := 0) (v := ?_) rfl (by kernel_rfl) (by kernel_rfl) (by kernel_rfl) (fun _ _ _ h => h) (Or.inl ⟨by go_simp, ?_⟩) hH0 ?_
                rotate_left
                · intro w' hSw
                  go_simp
                  try with_reducible rfl
                simp only [Act.put, List.getElem_toArray, List.getElem_cons_zero, List.getElem_cons_succ, List.setIfInBounds_toArray, List.set_cons_zero, List.set_cons_succ]
                refine wpAnyH_take (i := 1) (v := ?_) rfl (by kernel_rfl) (by kernel_rfl) (by kernel_rfl) (fun _ _ _ h => h) (Or.inl ⟨by go_simp, ?_⟩) hH0 ?_
                rotate_left
                · intro w' hSw
                  go_simp
                  try with_reducible rfl
                simp only [Act.put, List.getElem_toArray, List.getElem_cons_zero, List.getElem_cons_succ, List.setIfInBounds_toArray, List.set_cons_zero, List.set_cons_succ]
                refine wpAnyH_take (i := 2) (v := ?_) rfl (by kernel_rfl) (by kernel_rfl) (by kernel_rfl) (fun _ _ _ h => h) (Or.inl ⟨by go_simp, ?_⟩) hH0 ?_
                rotate_left
                · intro w' hSw
                  have q0 := Keeps.cell' hSw x5 HXN.out
                  go_simp
                  try with_reducible rfl
                simp only [Act.put, List.getElem_toArray, List.getElem_cons_zero, List.getElem_cons_succ, List.setIfInBounds_toArray, List.set_cons_zero, List.set_cons_succ]
                refine wpAnyH_take (i := 4) (v := ?_) rfl (by kernel_rfl) (by kernel_rfl) (by kernel_rfl) (fun _ _ _ h => h) (Or.inl ⟨by go_simp, ?_⟩) hH0 ?_
                rotate_left
                · intro w' hSw
                  go_simp
                  try with_reducible rfl
                simp only [Act.put, List.getElem_toArray, List.getElem_cons_zero, List.getElem_cons_succ, List.setIfInBounds_toArray, List.set_cons_zero, List.set_cons_succ]
                refine wpAnyH_take (i := 5) (v := ?_) rfl (by kernel_rfl) (by kernel_rfl) (by kernel_rfl) (fun _ _ _ h => h) (Or.inl ⟨by go_simp, ?_⟩) hH0 ?_
                rotate_left
                · intro w' hSw
                  go_simp
                  try with_reducible rfl
                simp only [Act.put, List.getElem_toArray, List.getElem_cons_zero, List.getElem_cons_succ, List.setIfInBounds_toArray, List.set_cons_zero, List.set_cons_succ]
                refine wpAnyH_take (i := 6) (v := ?_) rfl (by kernel_rfl) (by kernel_rfl) (by kernel_rfl) (fun _ _ _ h => h) (Or.inl ⟨by go_simp, ?_⟩) hH0 ?_
                rotate_left
                · intro w' hSw
                  have q0 := Keeps.cell' hSw x5 HXN.out
                  go_simp
                  try with_reducible rfl
                simp only [Act.put, List.getElem_toArray, List.getElem_cons_zero, List.getElem_cons_succ, List.setIfInBounds_toArray, List.set_cons_zero, List.set_cons_succ]
                refine wpAnyH_ready (rs := [3]) (by kernel_rfl) (by simp) ?_
                refine AllReadyH.cons rfl (fun K hK => ?_) AllReadyH.nil
                go_simp
                refine (HDP.out).mono ?_
                rintro e w6 ⟨v6, rfl, hu6, hK6, hk6⟩
                go_wp2_with fail
                have hktq : Keeps (KT B wr) wr w6 := ((Keeps.refl (KT B wr) wr).drew).trans hk6 (fun b _ h => h)
                have hH1 := hH0.trans (hk6.mono (T := fun b => KT B wr b ∨ b = mb) (fun b _ h => .inl h)) (fun _ _ h => h)
                have HR6 := Lib.hid (HS5.out.r.keep hktq rkt_not)
                have HU6 := Lib.hid hu6
                have HK6 := Lib.hid hK6
                have HKW6 := Lib.hid (KT.below hktq HKW.out HBW.out)
                have HRD := Lib.hid (rkDrop_any mb mx (zQ Z) page w6 (by rw [zQ_fst]; exact HR6.out) (fun q hq => by
                  obtain ⟨z, hz, rfl⟩ := List.mem_map.1 hq
                  exact ((HS5.out.z.each z hz).2.2.2.2.2.2.1).quiet HKW6.out) (by unfold zQ; rw [List.length_map]; have := HZN.out; omega))
                clear hu6 hK6 hk6 hktq
                refine hK.out _ _ hH1 (fun _ => ?_)
                clear hK K
                try simp only [Act.put, List.getElem_toArray, List.getElem_cons_zero, List.getElem_cons_succ, List.setIfInBounds_toArray, List.set_cons_zero, List.set_cons_succ]
                refine wpAnyH_ready (rs := [7]) (by kernel_rfl) (by simp) ?_
                refine AllReadyH.cons rfl (fun K hK => ?_) AllReadyH.nil
                go_simp
                refine (HRD.out).mono ?_
                rintro e w7 ⟨v7, rfl, hu7, hR7, hk7⟩
                go_wp2_with fail
                have hH2 := hH1.trans (hk7.mono (T := fun b => KT B wr b ∨ b = mb) (fun b _ h => .inr h)) (fun _ _ h => h)
                rw [HDZ.out.2.2.2] at hu7
                rw [HDZ.out.2.2.1] at hR7
                obtain ⟨dn, hdn⟩ : ∃ z, (((Z.map (·.p)).filter fun k => (pg k).contains page).map K4.pc).length = z := ⟨_, rfl⟩
                have HU67 := Lib.hid (HU6.out.keep hk7 (fun g hg e => by
                  have e : g = mb := e
                  obtain ⟨c2, t2⟩ := HU6.out.typed g hg
                  obtain ⟨_, _, _, h1, _⟩ := HR6.out.box
                  rw [e] at t2
                  exact absurd (obj_ty t2 h1) (by decide)))
                obtain ⟨A6, c6, hv6, _⟩ := id HU67.out
                rw [hdn] at hv6
                subst hv6
                obtain ⟨A7, c7, hv7, _⟩ := id hu7
                rw [hdn] at hv7
                subst hv7
                clear hdn
                have HAL := Lib.hid (alikeU_any A6 A7 dn c6 c7 (fun i => (((Z.map (·.p)).filter fun k => (pg k).contains page).map K4.pc).getD i 0) w7 HU67.out.reads.2.2 hu7.reads.2.2 HU67.out.reads.2.1 hu7.reads.2.1)
                have HS7 := Lib.hid (show KSt w w7 B kb mb mx (zKeep page Z) pg rw_ from ⟨by rw [← HDZ.out.2.1]; exact HK6.out.keepS hk7 (ent_nemb (v := .nilIface) ⟨_, HR6.out⟩), hR7, HDZ.out.1, Int.le_trans (by have : (zKeep page Z).length ≤ Z.length := List.length_filter_le _ _; omega) HS5.out.len⟩)
                have HKW7 := Lib.hid (HKW6.out.trans hk7 (fun b hb e => by have e : b = mb := e; have := HMB.out; omega))
                clear hu7 hR7 hk7
                refine hK.out _ _ hH2 (fun _ => ?_)
                clear hK K
                try simp only [Act.put, List.getElem_toArray, List.getElem_cons_zero, List.getElem_cons_succ, List.setIfInBounds_toArray, List.set_cons_zero, List.set_cons_succ]
                refine wpAnyH_ready (rs := [8]) (by kernel_rfl) (by simp) ?_
                refine AllReadyH.cons rfl (fun K hK => ?_) AllReadyH.nil
                go_simp
                refine (HAL.out).mono ?_
                rintro e w8 ⟨rfl, hk8⟩
                go_wp2_with fail
                have hH3 := hH2.trans (hk8.mono (T := fun b => KT B wr b ∨ b = mb) (fun b _ h => h.elim)) (fun _ _ h => h)
                have HS8 := Lib.hid (HS7.out.quiet hk8)
                have HKW8 := Lib.hid (HKW7.out.trans hk8 (fun _ _ h => h))
                clear hk8
                refine hK.out _ _ hH3 (fun _ => ?_)
                clear hK K
                try simp only [Act.put, List.getElem_toArray, List.getElem_cons_zero, List.getElem_cons_succ, List.setIfInBounds_toArray, List.set_cons_zero, List.set_cons_succ]
                refine wpAnyH_take (i := 9) (v := ?_) rfl (by kernel_rfl) (by kernel_rfl) (by kernel_rfl) (fun _ _ _ h => h) (Or.inl ⟨by go_simp, ?_⟩) hH3 ?_
                rotate_left
                · intro w' hSw
                  go_simp
                  try with_reducible rfl
                simp only [Act.put, List.getElem_toArray, List.getElem_cons_zero, List.getElem_cons_succ, List.setIfInBounds_toArray, List.set_cons_zero, List.set_cons_succ]
                refine wpAnyH_done (by kernel_rfl) ?_ _
                go_wp2_with fail
                go_meet
                exact ⟨rfl, _, _, _, HS8.out, HKW8.out⟩
              · have HGT := Lib.hid (keepGet_any B kb mx _ pg rw_ pc wr HS5.out.k (by rw [List.length_map]; have := HZN.out; omega))
                go_wp2_with fail
                refine (HGT.out).mono ?_
                rintro e w6 (⟨q, gg, gn, hq, hq1', hq2', rfl, hro, hK6, hk6⟩ | ⟨hno, rfl, hk6⟩)
                · rw [List.length_map] at hq
                  have HQ := Lib.hid hq
                  obtain ⟨z, hz⟩ : ∃ z, Z.getD q zv0 = z := ⟨_, rfl⟩
                  have HZQ := Lib.hid hz
                  have HZM := Lib.hid (show z ∈ Z from by rw [← hz]; exact zv_mem hq)
                  have hgp := (zv_getD Z q hq).1
                  have hgr := (zv_getD Z q hq).2
                  rw [hz] at hgp hgr
                  rw [hgp] at hq1' hro hK6
                  have HGR := Lib.hid hgr
                  have HQ1 := Lib.hid hq1'
                  have HQ2 := Lib.hid hq2'
                  have HZE := Lib.hid (HS5.out.z.each z HZM.out)
                  have HPP := Lib.hid (zPut_get HS5.out.z.nodup hq HS5.out.len)
                  rw [hz] at HPP
                  have HK6 := Lib.hid (show KeepAt w6 B kb mx ((zPut mx Z z).map (·.p)) pg rw_ from by
                    rw [HPP.out, List.map_append, List.map_cons, List.map_nil]
                    have e : (Z.map (·.p)).eraseIdx q = (Z.eraseIdx q).map (·.p) := eraseIdx_mapK _ Z q
                    rw [← e]
                    exact hK6)
                  have HRO := Lib.hid (show RowsOwn w6 0 (.slice (some ⟨gg, 0, none⟩) gn gn) z.rs from by
                    have h := hro.base (Nat.zero_le _)
                    rwa [HZE.out.2.2.2.1] at h)
                  have HR6 := Lib.hid (HS5.out.r.keep hk6 rkt_not)
                  have HKW6 := Lib.hid (KT.below hk6 HKW.out HBW.out)
                  have HX6 := Lib.hid ((hk6.block xb (Array.getElem?_eq_some_iff.1 HX5.out).1 (KT.not HX5.out (by decide) (by decide))).trans HX5.out)
                  rw [hgp]
                  rw [HZE.out.1, HZE.out.2.1]
                  obtain ⟨rpc, hrpc⟩ : ∃ a, z.r.pc = a := ⟨_, rfl⟩
                  obtain ⟨rmany, hrmany⟩ : ∃ a, z.r.many = a := ⟨_, rfl⟩
                  rw [hrpc, hrmany]
                  have HRP := Lib.hid (And.intro hrpc hrmany)
                  clear hz hgp hgr hq1' hq2' hro hK6 hk6 hq hrpc hrmany x0 x1 x2 x3 x4 x5
                  have HPB := Lib.hid (PlanBox.new w6 rpc rmany (some ⟨gg, 0, none⟩) gn gn)
                  have HPA := Lib.hid ((Keeps.refl (fun _ => False) w6).alloc (.cells #[.int .u32 rpc, .int .i64 rmany, .slice (some ⟨gg, 0, none⟩) gn gn] 48))
                  go_upto_region 33 with fail
                  have HK7 := Lib.hid (HK6.out.quiet HPA.out)
                  have HRO7 := Lib.hid (HRO.out.quiet HPA.out)
                  have HR7 := Lib.hid (HR6.out.quiet HPA.out)
                  have HKW7 := Lib.hid (HKW6.out.trans HPA.out (fun _ _ h => h))
                  have HX7 := Lib.hid ((HPA.out.block xb (Array.getElem?_eq_some_iff.1 HX6.out).1 (fun h => h)).trans HX6.out)
                  generalize w6.alloc _ = w7 at *
                  generalize w6.heap.size = pb at *
                  have x1 : w7.cell? ⟨xb, 1, none⟩ = some (.int .u32 pc) := cell_atK HX7.out 1
                  have HFD := Lib.hid (rkFind_any mb mx _ pc w7 HR7.out (by rw [List.length_map]; have := HZN.out; omega))
                  go_wp2_with fail
                  refine (HFD.out).mono ?_
                  rintro e w8 ⟨(⟨q2, h1, h2, h3, rfl⟩ | ⟨h1, rfl⟩), hk8⟩
                  · rw [List.length_map] at h1
                    obtain rfl : q2 = q := by
                      have ep : ∀ j, j < Z.length → ((Z.map (·.p)).getD j k40).pc = ((Z.map (·.r)).getD j k40).pc := fun j hj => by
                        rw [(zv_getD Z j hj).1, (zv_getD Z j hj).2]
                        exact (HS5.out.z.each _ (zv_mem hj)).1
                      by_cases e1 : q2 < q
                      · have a1 := HQ2.out q2 e1
                        rw [ep q2 h1, h2] at a1
                        cases a1
                      · by_cases e2 : q < q2
                        · have a1 := h3 q e2
                          rw [HGR.out, ← HZE.out.1, HQ1.out] at a1
                          cases a1
                        · omega
                    have HK8 := Lib.hid hk8
                    obtain ⟨LA, ln, lc, hlb, hlr⟩ := HR7.out.box
                    have HLB := Lib.hid ((hk8.block mb (Array.getElem?_eq_some_iff.1 hlb).1 (fun h => h)).trans hlb)
                    have hql : q2 < ln := by have h5 := hlr.len; rw [List.length_map] at h5; omega
                    have hlc := hlr.le
                    obtain ⟨lb, lo, rfl, hcell⟩ := (hlr.quiet hk8).get hql
                    rw [HGR.out] at hcell
                    have HRR := Lib.hid (HR7.out.quiet hk8)
                    have HKW8 := Lib.hid (HKW7.out.trans hk8 (fun _ _ h => h))
                    have HK8K := Lib.hid (HK7.out.quiet hk8)
                    have HRO8 := Lib.hid (HRO7.out.quiet hk8)
                    have HPB8 := Lib.hid (HPB.out.keep hk8 (fun h => h))
                    clear h1 h2 h3 hk8 hlb hlr
                    obtain ⟨⟨y1, y2, yA, yn, yc, yP, ypn, ypc⟩, hy⟩ : ∃ y, z.r = y := ⟨_, rfl⟩
                    have hy1 : y1 = rpc := by rw [← HRP.out.1, hy]
                    have hy2 : y2 = rmany := by rw [← HRP.out.2, hy]
                    subst hy1 hy2
                    rw [hy] at hcell
                    have HY := Lib.hid hy
                    clear hy
                    have e0 : w8.cell? ⟨lb, lo + q2 * 4, none⟩ = some (.int .u32 y1) := hcell 0 _ (by omega) rfl
                    have e1 : w8.cell? ⟨lb, lo + q2 * 4 + 1, none⟩ = some (.int .i64 y2) := hcell 1 _ (by omega) rfl
                    have e2 : w8.cell? ⟨lb, lo + q2 * 4 + 2, none⟩ = some (.slice yA yn yc) := hcell 2 _ (by omega) rfl
                    have e3 : w8.cell? ⟨lb, lo + q2 * 4 + 3, none⟩ = some (.slice yP ypn ypc) := hcell 3 _ (by omega) rfl
                    have c0 : w8.cell? ⟨mb, 1, none⟩ = some (.slice (some ⟨lb, lo, none⟩) ln lc) := cell_atK HLB.out 1
                    have hq63 : (q2 : Int) < ln := by omega
                    have HYB := Lib.hid (blk_alloc_new w8 (.cells #[.int .u32 y1, .int .i64 y2, .slice yA yn yc, .slice yP ypn ypc] 51))
                    have HYA := Lib.hid ((Keeps.refl (fun _ => False) w8).alloc (.cells #[.int .u32 y1, .int .i64 y2, .slice yA yn yc, .slice yP ypn ypc] 51))
                    clear hcell
                    go_upto_region 40 with fail
                    clear e0 e1 e2 e3 c0 x1
                    have HR9 := Lib.hid (HRR.out.quiet HYA.out)
                    have HKW9 := Lib.hid (HKW8.out.trans HYA.out (fun _ _ h => h))
                    have HK9 := Lib.hid (HK8K.out.quiet HYA.out)
                    have HRO9 := Lib.hid (HRO8.out.quiet HYA.out)
                    have HPB9 := Lib.hid (HPB8.out.keep HYA.out (fun h => h))
                    generalize w8.alloc _ = w9 at *
                    generalize w8.heap.size = yb at *
                    have b0 : w9.cell? ⟨yb, 0, none⟩ = some (.int .u32 y1) := cell_atK HYB.out 0
                    have b1 : w9.cell? ⟨yb, 1, none⟩ = some (.int .i64 y2) := cell_atK HYB.out 1
                    have b2 : w9.cell? ⟨yb, 2, none⟩ = some (.slice yA yn yc) := cell_atK HYB.out 2
                    have b3 : w9.cell? ⟨yb, 3, none⟩ = some (.slice yP ypn ypc) := cell_atK HYB.out 3
                    have HPT := Lib.hid (show Calls Tryz.prog 12 #[.pointer (some ⟨mb, 0, none⟩), .agg #[.int .u32 y1, .int .i64 y2, .slice yA yn yc, .slice yP ypn ypc]] w9 (fun e w' => e = .returned (.tuple #[]) ∧ RefKeep w' mb mx (putL mx (Z.map (·.r)) z.r) ∧ Keeps (· = mb) w9 w') from by
                      rw [HY.out]
                      exact rkPut_any mb mx _ ⟨y1, y2, yA, yn, yc, yP, ypn, ypc⟩ w9 HR9.out (by rw [List.length_map]; have := HZN.out; omega) HMX.out.1)
                    go_wp2_with fail
                    refine (HPT.out).mono ?_
                    rintro e w10 ⟨rfl, hR10, hk10⟩
                    have HMBX := Lib.hid (show ∃ L, RefKeep w9 mb mx L from ⟨_, HR9.out⟩)
                    have HK10 := Lib.hid (HK9.out.keepS hk10 (ent_nemb (v := .nilIface) HMBX.out))
                    have HRO10 := Lib.hid (HRO9.out.keepP hk10 (fun g cs t fz hg ht => ent_nemb (v := .nilIface) HMBX.out g cs t fz hg (.inr (.inr (.inr ht)))))
                    have HNP := Lib.hid (show ¬ pb = mb from fun e => by
                      obtain ⟨_, _, _, h1, _⟩ := HR9.out.box
                      have h2 := HPB9.out.blk
                      rw [e] at h2
                      exact absurd (obj_ty h2 h1) (by decide))
                    have HNY := Lib.hid (show ¬ yb = mb from fun e => by
                      obtain ⟨_, _, _, h1, _⟩ := HR9.out.box
                      have h2 := HYB.out
                      rw [e] at h2
                      exact absurd (obj_ty h2 h1) (by decide))
                    have HPB10 := Lib.hid (HPB9.out.keep hk10 HNP.out)
                    have b0' := hk10.cell' b0 HNY.out
                    have b1' := hk10.cell' b1 HNY.out
                    have b2' := hk10.cell' b2 HNY.out
                    have HKW10 := Lib.hid (HKW9.out.trans hk10 (fun b hb e => by have e : b = mb := e; have := HMB.out; omega))
                    have HR10 := Lib.hid (show RefKeep w10 mb mx ((zPut mx Z z).map (·.r)) from by
                      rw [← putL_r mx Z z (fun y hy => (HS5.out.z.each y hy).1) HZE.out.1]
                      exact hR10)
                    have HS10 := Lib.hid (show KSt w w10 B kb mb mx (zPut mx Z z) pg rw_ from ⟨HK10.out, HR10.out, HS5.out.z.put mx z (fun _ _ => ⟨rfl, rfl⟩) HZE.out, zPut_len z HMX.out.1 HS5.out.len⟩)
                    have HYR := Lib.hid (show RowsAt w10 yA yn yc z.rs ∧ yc ≤ 9223372036854775807 from by
                      have h1 := HZE.out.2.2.2.2.1
                      have h2 := HZE.out.2.2.2.2.2.1
                      rw [HY.out] at h1 h2
                      exact ⟨h1.quiet HKW10.out, h2⟩)
                    obtain ⟨p0, p1, p2, _⟩ := HPB10.out.cells
                    have hgy : gn = yn := by
                      have h1 := HRO10.out.atK.1.len
                      have h2 := HYR.out.1.len
                      omega
                    subst hgy
                    have HSR := Lib.hid (sameRowsK_any (some ⟨gg, 0, none⟩) yA gn gn yc z.rs w10 HRO10.out.atK.1 HYR.out.1 HRO10.out.atK.2 HYR.out.2)
                    clear hR10 hk10 b0 b1 b2 b3
                    go_wp2_with fail
                    refine (HSR.out).mono ?_
                    rintro e w11 ⟨rfl, hk11⟩
                    have HS11 := Lib.hid (HS10.out.quiet hk11)
                    have HKW11 := Lib.hid (HKW10.out.trans hk11 (fun _ _ h => h))
                    clear hk11 p0 p1 p2 b0' b1' b2'
                    go_wp2_with fail
                    go_meet
                    exact ⟨rfl, _, _, _, HS11.out, HKW11.out⟩
                  · exfalso
                    have a1 := h1 q (by rw [List.length_map]; exact HQ.out)
                    rw [HGR.out, ← HZE.out.1, HQ1.out] at a1
                    cases a1
                · have HR6 := Lib.hid (HS5.out.quiet hk6)
                  have HKW6 := Lib.hid (HKW.out.trans hk6 (fun _ _ h => h))
                  have HX6 := Lib.hid ((hk6.block xb (Array.getElem?_eq_some_iff.1 HX5.out).1 (fun h => h)).trans HX5.out)
                  have HNO := Lib.hid (show ∀ j, j < (Z.map (·.r)).length → (((Z.map (·.r)).getD j k40).pc == pc) = false from fun j hj => by
                    rw [List.length_map] at hj
                    have h1 := hno j (by rw [List.length_map]; exact hj)
                    rw [(zv_getD Z j hj).1, (HS5.out.z.each _ (zv_mem hj)).1] at h1
                    rw [(zv_getD Z j hj).2]
                    exact h1)
                  clear hno hk6 x0 x1 x2 x3 x4 x5
                  have HPB := Lib.hid (PlanBox.new w6 0 0 none 0 0)
                  have HPA := Lib.hid ((Keeps.refl (fun _ => False) w6).alloc (.cells #[.int .u32 0, .int .i64 0, .slice none 0 0] 48))
                  go_upto_region 33 with fail
                  have HS7 := Lib.hid (HR6.out.quiet HPA.out)
                  have HKW7 := Lib.hid (HKW6.out.trans HPA.out (fun _ _ h => h))
                  have HX7 := Lib.hid ((HPA.out.block xb (Array.getElem?_eq_some_iff.1 HX6.out).1 (fun h => h)).trans HX6.out)
                  generalize w6.alloc _ = w7 at *
                  generalize w6.heap.size = pb at *
                  have x1 : w7.cell? ⟨xb, 1, none⟩ = some (.int .u32 pc) := cell_atK HX7.out 1
                  have HFD := Lib.hid (rkFind_any mb mx _ pc w7 HS7.out.r (by rw [List.length_map]; have := HZN.out; omega))
                  go_wp2_with fail
                  refine (HFD.out).mono ?_
                  rintro e w8 ⟨(⟨q2, h1, h2, h3, rfl⟩ | ⟨h1, rfl⟩), hk8⟩
                  · exfalso
                    have a1 := HNO.out q2 h1
                    rw [h2] at a1
                    cases a1
                  · have HS8 := Lib.hid (HS7.out.quiet hk8)
                    have HKW8 := Lib.hid (HKW7.out.trans hk8 (fun _ _ h => h))
                    have HPB8 := Lib.hid (HPB.out.keep hk8 (fun h => h))
                    obtain ⟨p0, p1, p2, _⟩ := HPB8.out.cells
                    clear h1 hk8 x1
                    go_wp2_with fail
                    go_roundw
                    case rel => exact ⟨i + 1, Z, pg, rw_, by omega, by go_num, rfl, HS8.out, HKW8.out⟩
                    case measure => simp [intOf]; omega
            · have HPF := Lib.hid (planFault_any many RA2 j rc2 rows wr (HRW.out.1.quiet HKW.out) HRW.out.2)
              obtain ⟨⟨fc, fat⟩, hf⟩ : ∃ f, Ir.planFault many rows = f := ⟨_, rfl⟩
              rw [hf] at HPF
              have HF := Lib.hid hf
              clear hf
              have HPF2 := Lib.hid (show Calls Tryz.prog 8 #[.int .i64 many, .slice RA2 j rc2] wr (fun e w' => e = .returned (.agg #[.int .i64 (fc : Int), .int .i64 fat]) ∧ Keeps (fun _ => False) wr w') from HPF.out)
              clear HPF
              go_wp2_with fail
              refine (HPF2.out).mono ?_
              rintro e w6 ⟨rfl, hk6⟩
              have HK6 := Lib.hid hk6
              have HFB := Lib.hid (FaultBox.new w6 fc fat)
              have HFA := Lib.hid ((Keeps.refl (fun _ => False) w6).alloc (.cells #[.int .i64 (fc : Int), .int .i64 fat] 42))
              clear hk6 x0 x1 x2 x3 x4 x5
              go_upto_region 27 with fail
              have HS7 := Lib.hid (HS5.out.quiet (HK6.out.trans HFA.out (fun _ _ h => h)))
              have HKW7 := Lib.hid (HKW.out.trans (HK6.out.trans HFA.out (fun _ _ h => h)) (fun _ _ h => h))
              have HX7 := Lib.hid (((HK6.out.trans HFA.out (fun _ _ h => h)).block xb (Array.getElem?_eq_some_iff.1 HX5.out).1 (fun h => h)).trans HX5.out)
              generalize w6.alloc _ = w7 at *
              generalize w6.heap.size = fb at *
              have x1 : w7.cell? ⟨xb, 1, none⟩ = some (.int .u32 pc) := cell_atK HX7.out 1
              have x2 : w7.cell? ⟨xb, 2, none⟩ = some (.int .i64 many) := cell_atK HX7.out 2
              have x3 : w7.cell? ⟨xb, 3, none⟩ = some (.slice RA2 j rc2) := cell_atK HX7.out 3
              have x4 : w7.cell? ⟨xb, 4, none⟩ = some (.slice PA2 pn pc3) := cell_atK HX7.out 4
              obtain ⟨c0, c1, _, _⟩ := HFB.out.cells
              have HXN := Lib.hid (show ¬ KT B w7 xb from KT.not HX7.out (by decide) (by decide))
              have HFN := Lib.hid (show ¬ KT B w7 fb from KT.not HFB.out.blk (by decide) (by decide))
              have hq7 := (Keeps.refl (fun _ => False) w7).drew
              have HOW := Lib.hid (fun w' (k : Keeps (fun _ => False) w7 w') => (ownRows_any RA2 j rc2 rows w' (HRW.out.1.quiet (HKW7.out.trans k (fun _ _ h => h))) HRW.out.2 (by have := H48.out.1; omega) (fun q hq => by have := HLL.out q hq; omega)).mono (fun e w8 h => show ∃ v, e = .returned v ∧ RowsOwn w8 0 v rows ∧ Keeps (fun _ => False) w' w8 from by
                obtain ⟨v, h1, h2, h3⟩ := h
                exact ⟨v, h1, h2.base (Nat.zero_le _), h3⟩))
              by_cases hc0 : fc = 0
              · have HC0 := Lib.hid hc0
                clear hc0
                refine wp_region_held_drew (S := fun w' => Keeps (KT B w7) w7 w') (by kernel_rfl) (Keeps.refl _ w7).drew (fun hH0 => ?_)
                refine wpAnyH_take (i := 0) (v := ?_) rfl (by kernel_rfl) (by kernel_rfl) (by kernel_rfl) (fun _ _ _ h => h) (Or.inl ⟨by go_simp, ?_⟩) hH0 ?_
                rotate_left
                · intro w' hSw
                  go_simp
                  try with_reducible rfl
                simp only [Act.put, List.getElem_toArray, List.getElem_cons_zero, List.getElem_cons_succ, List.setIfInBounds_toArray, List.set_cons_zero, List.set_cons_succ]
                refine wpAnyH_take (i := 1) (v := ?_) rfl (by kernel_rfl) (by kernel_rfl) (by kernel_rfl) (fun _ _ _ h => h) (Or.inl ⟨by go_simp, ?_⟩) hH0 ?_
                rotate_left
                · intro w' hSw
                  go_simp
                  try with_reducible rfl
                simp only [Act.put, List.getElem_toArray, List.getElem_cons_zero, List.getElem_cons_succ, List.setIfInBounds_toArray, List.set_cons_zero, List.set_cons_succ]
                refine wpAnyH_take (i := 2) (v := ?_) rfl (by kernel_rfl) (by kernel_rfl) (by kernel_rfl) (fun _ _ _ h => h) (Or.inl ⟨by go_simp, ?_⟩) hH0 ?_
                rotate_left
                · intro w' hSw
                  have q0 := Keeps.cell' hSw x1 HXN.out
                  go_simp
                  try with_reducible rfl
                simp only [Act.put, List.getElem_toArray, List.getElem_cons_zero, List.getElem_cons_succ, List.setIfInBounds_toArray, List.set_cons_zero, List.set_cons_succ]
                refine wpAnyH_take (i := 3) (v := ?_) rfl (by kernel_rfl) (by kernel_rfl) (by kernel_rfl) (fun _ _ _ h => h) (Or.inl ⟨by go_simp, ?_⟩) hH0 ?_
                rotate_left
                · intro w' hSw
                  go_simp
                  try with_reducible rfl
                simp only [Act.put, List.getElem_toArray, List.getElem_cons_zero, List.getElem_cons_succ, List.setIfInBounds_toArray, List.set_cons_zero, List.set_cons_succ]
                refine wpAnyH_take (i := 4) (v := ?_) rfl (by kernel_rfl) (by kernel_rfl) (by kernel_rfl) (fun _ _ _ h => h) (Or.inl ⟨by go_simp, ?_⟩) hH0 ?_
                rotate_left
                · intro w' hSw
                  have q0 := Keeps.cell' hSw x2 HXN.out
                  go_simp
                  try with_reducible rfl
                simp only [Act.put, List.getElem_toArray, List.getElem_cons_zero, List.getElem_cons_succ, List.setIfInBounds_toArray, List.set_cons_zero, List.set_cons_succ]
                refine wpAnyH_take (i := 5) (v := ?_) rfl (by kernel_rfl) (by kernel_rfl) (by kernel_rfl) (fun _ _ _ h => h) (Or.inl ⟨by go_simp, ?_⟩) hH0 ?_
                rotate_left
                · intro w' hSw
                  go_simp
                  try with_reducible rfl
                simp only [Act.put, List.getElem_toArray, List.getElem_cons_zero, List.getElem_cons_succ, List.setIfInBounds_toArray, List.set_cons_zero, List.set_cons_succ]
                refine wpAnyH_take (i := 6) (v := ?_) rfl (by kernel_rfl) (by kernel_rfl) (by kernel_rfl) (fun _ _ _ h => h) (Or.inl ⟨by go_simp, ?_⟩) hH0 ?_
                rotate_left
                · intro w' hSw
                  have q0 := Keeps.cell' hSw x3 HXN.out
                  go_simp
                  try with_reducible rfl
                simp only [Act.put, List.getElem_toArray, List.getElem_cons_zero, List.getElem_cons_succ, List.setIfInBounds_toArray, List.set_cons_zero, List.set_cons_succ]
                refine wpAnyH_take (i := 9) (v := ?_) rfl (by kernel_rfl) (by kernel_rfl) (by kernel_rfl) (fun _ _ _ h => h) (Or.inl ⟨by go_simp, ?_⟩) hH0 ?_
                rotate_left
                · intro w' hSw
                  go_simp
                  try with_reducible rfl
                simp only [Act.put, List.getElem_toArray, List.getElem_cons_zero, List.getElem_cons_succ, List.setIfInBounds_toArray, List.set_cons_zero, List.set_cons_succ]
                refine wpAnyH_take (i := 10) (v := ?_) rfl (by kernel_rfl) (by kernel_rfl) (by kernel_rfl) (fun _ _ _ h => h) (Or.inl ⟨by go_simp, ?_⟩) hH0 ?_
                rotate_left
                · intro w' hSw
                  go_simp
                  try with_reducible rfl
                simp only [Act.put, List.getElem_toArray, List.getElem_cons_zero, List.getElem_cons_succ, List.setIfInBounds_toArray, List.set_cons_zero, List.set_cons_succ]
                refine wpAnyH_take (i := 11) (v := ?_) rfl (by kernel_rfl) (by kernel_rfl) (by kernel_rfl) (fun _ _ _ h => h) (Or.inl ⟨by go_simp, ?_⟩) hH0 ?_
                rotate_left
                · intro w' hSw
                  have q0 := Keeps.cell' hSw x4 HXN.out
                  go_simp
                  try with_reducible rfl
                simp only [Act.put, List.getElem_toArray, List.getElem_cons_zero, List.getElem_cons_succ, List.setIfInBounds_toArray, List.set_cons_zero, List.set_cons_succ]
                refine wpAnyH_take (i := 14) (v := ?_) rfl (by kernel_rfl) (by kernel_rfl) (by kernel_rfl) (fun _ _ _ h => h) (Or.inl ⟨by go_simp, ?_⟩) hH0 ?_
                rotate_left
                · intro w' hSw
                  have q0 := Keeps.cell' hSw c0 HFN.out
                  have q1 := Keeps.cell' hSw c1 HFN.out
                  go_simp
                  try with_reducible rfl
                simp only [Act.put, List.getElem_toArray, List.getElem_cons_zero, List.getElem_cons_succ, List.setIfInBounds_toArray, List.set_cons_zero, List.set_cons_succ]
                refine wpAnyH_ready (rs := [7]) (by kernel_rfl) (by simp) ?_
                refine AllReadyH.cons rfl (fun K hK => ?_) AllReadyH.nil
                go_simp
                refine (HOW.out _ hq7).mono ?_
                rintro e w8 ⟨v8, rfl, hr8, hk8⟩
                go_wp2_with fail
                have hH1 := hH0.trans (hk8.mono (fun _ _ h => h.elim)) (fun _ _ h => h)
                have HK78 := Lib.hid (hq7.trans hk8 (fun _ _ h => h))
                obtain ⟨A8, c8, hv8⟩ : ∃ A c, v8 = .slice A j c := by
                  obtain ⟨A, c, h, _⟩ := hr8.rows
                  exact ⟨A, c, by rw [h, HRN.out]⟩
                subst hv8
                have HR8 := Lib.hid hr8
                clear hr8 hk8
                refine hK.out _ _ hH1 (fun _ => ?_)
                clear hK K
                try simp only [Act.put, List.getElem_toArray, List.getElem_cons_zero, List.getElem_cons_succ, List.setIfInBounds_toArray, List.set_cons_zero, List.set_cons_succ]
                refine wpAnyH_take (i := 8) (v := ?_) rfl (by kernel_rfl) (by kernel_rfl) (by kernel_rfl) (fun _ _ _ h => h) (Or.inl ⟨by go_simp, ?_⟩) hH1 ?_
                rotate_left
                · intro w' hSw
                  go_simp
                  try with_reducible rfl
                simp only [Act.put, List.getElem_toArray, List.getElem_cons_zero, List.getElem_cons_succ, List.setIfInBounds_toArray, List.set_cons_zero, List.set_cons_succ]
                refine wpAnyH_ready (rs := [12]) (by kernel_rfl) (by simp) ?_
                refine AllReadyH.cons rfl (fun K hK => ?_) AllReadyH.nil
                have hrd : Reads w8 PA2 pn pc3 (fun i => .int .i64 (pages.getD i 0)) := HPG.out.1.keep (HKW7.out.trans HK78.out (fun _ _ h => h)) (fun _ _ _ h => h)
                have hl8 : ([] : List Int).length + pn ≤ 1000000 := by
                  have h1 := H48.out.2
                  simp
                  omega
                have hnl := IOwn.nil w8 0
                refine step_append_ik rfl _ _ rfl 0 [] (.slice none 0 0) (by rfl) hnl PA2 pn pc3 pages (by rfl) hrd HPN.out.symm HPG.out.2.2 hl8 (Nat.zero_le _) ?_
                intro v' w9 hi9 hk9
                have hkq : Keeps (fun _ => False) w7 w9 := HK78.out.trans hk9 (fun b hb h => by cases h)
                have hH2 := hH1.trans (hk9.mono (T := KT B w7) (fun b _ h => by cases h)) (fun _ _ h => h)
                obtain ⟨A9, c9, hv9, _⟩ := id hi9
                obtain ⟨n9, hn9⟩ : ∃ x, ([] ++ pages).length = x := ⟨_, rfl⟩
                rw [hn9] at hv9
                subst hv9
                clear hn9
                have HI9 := Lib.hid (show IOwn w9 0 pages (.slice A9 n9 c9) from hi9)
                have HKQ := Lib.hid hkq
                have HR9 := Lib.hid (HR8.out.quiet (hk9.mono (T := fun _ => False) (fun b _ h => by cases h)))
                have HS9 := Lib.hid (HS7.out.quiet hkq)
                have HKW9 := Lib.hid (HKW7.out.trans hkq (fun _ _ h => h))
                clear hi9 hkq hk9 hrd hnl
                refine hK.out _ _ hH2 (fun _ => ?_)
                clear hK K
                try simp only [Act.put, List.getElem_toArray, List.getElem_cons_zero, List.getElem_cons_succ, List.setIfInBounds_toArray, List.set_cons_zero, List.set_cons_succ]
                have HPT := Lib.hid (keepPut_any B kb mx _ pg rw_ pc many A8 j c8 rows A9 n9 c9 pages w9 ea ((HE.out.quiet HKW9.out).toRk) HS9.out.k (by rw [List.length_map]; have := HZN.out; omega) HR9.out (by rw [HF.out]; exact HC0.out) HI9.out (by have h1 := HPN.out; have h2 := H48.out.2; omega))
                refine wpAnyH_ready (rs := [13]) (by kernel_rfl) (by simp) ?_
                refine AllReadyH.cons rfl (fun K hK => ?_) AllReadyH.nil
                go_simp
                refine (HPT.out).mono ?_
                rintro e w10 ⟨rfl, kn, pg', rw', g1, g2, g3, g4, g5, hK10, hk10⟩
                go_wp2_with fail
                have hH3 := hH2.trans hk10 (fun b hb ⟨h1, cs, t, fz, h2, h3⟩ => ⟨h1, cs, t, fz, (HKQ.out.block b hb (fun h => h)).symm.trans h2, h3⟩)
                have HG := Lib.hid (And.intro g1 (And.intro g2 (And.intro g3 (And.intro g4 g5))))
                have HK10 := Lib.hid hK10
                have HR10 := Lib.hid (HS9.out.r.keep hk10 rkt_not)
                have HKW10 := Lib.hid (KT.below hk10 HKW9.out HBW.out)
                have HFT := Lib.hid (show Calls Tryz.prog 9 #[.nilIface, .agg #[.int .i64 (fc : Int), .int .i64 fat]] w10 (fun e w' => e = .returned (.bool true) ∧ Keeps (fun _ => False) w10 w') from faulted_any (fc, fat) (.inl HC0.out) .nilIface w10 ea (HE.out.quiet HKW10.out) (.inl ⟨HC0.out, rfl⟩))
                clear g1 g2 g3 g4 g5 hK10 hk10
                refine hK.out _ _ hH3 (fun _ => ?_)
                clear hK K
                try simp only [Act.put, List.getElem_toArray, List.getElem_cons_zero, List.getElem_cons_succ, List.setIfInBounds_toArray, List.set_cons_zero, List.set_cons_succ]
                refine wpAnyH_ready (rs := [15]) (by kernel_rfl) (by simp) ?_
                refine AllReadyH.cons rfl (fun K hK => ?_) AllReadyH.nil
                go_simp
                refine (HFT.out).mono ?_
                rintro e w11 ⟨rfl, hk11⟩
                go_wp2_with fail
                have hH4 := hH3.trans (hk11.mono (fun _ _ h => h.elim)) (fun _ _ h => h)
                have HK11 := Lib.hid hk11
                clear hk11
                refine hK.out _ _ hH4 (fun _ => ?_)
                clear hK K
                try simp only [Act.put, List.getElem_toArray, List.getElem_cons_zero, List.getElem_cons_succ, List.setIfInBounds_toArray, List.set_cons_zero, List.set_cons_succ]
                refine wpAnyH_take (i := 16) (v := ?_) rfl (by kernel_rfl) (by kernel_rfl) (by kernel_rfl) (fun _ _ _ h => h) (Or.inl ⟨by go_simp, ?_⟩) hH4 ?_
                rotate_left
                · intro w' hSw
                  go_simp
                  try with_reducible rfl
                simp only [Act.put, List.getElem_toArray, List.getElem_cons_zero, List.getElem_cons_succ, List.setIfInBounds_toArray, List.set_cons_zero, List.set_cons_succ]
                refine wpAnyH_done (by kernel_rfl) ?_ _
                have HFB11 := Lib.hid (HFB.out.keep hH4 HFN.out)
                have HX11 := Lib.hid ((hH4.block xb (Array.getElem?_eq_some_iff.1 HX7.out).1 HXN.out).trans HX7.out)
                have HKW11 := Lib.hid (HKW10.out.trans HK11.out (fun _ _ h => h))
                clear hH0 hH1 hH2 hH3 hH4 x1 x2 x3 x4 c0 c1 hq7 hl8
                obtain ⟨c0, c1, _, _⟩ := HFB11.out.cells
                have x1 : w11.cell? ⟨xb, 1, none⟩ = some (.int .u32 pc) := cell_atK HX11.out 1
                have x2 : w11.cell? ⟨xb, 2, none⟩ = some (.int .i64 many) := cell_atK HX11.out 2
                have x3 : w11.cell? ⟨xb, 3, none⟩ = some (.slice RA2 j rc2) := cell_atK HX11.out 3
                have x4 : w11.cell? ⟨xb, 4, none⟩ = some (.slice PA2 pn pc3) := cell_atK HX11.out 4
                have t0 : ((fc : Int) == 0) = true := by
                  have := HC0.out
                  simp [this]
                have HR11 := Lib.hid (HR10.out.quiet HK11.out)
                have HK11' := Lib.hid (HK10.out.quiet HK11.out)
                have HPX := Lib.hid (show Calls Tryz.prog 12 #[.pointer (some ⟨mb, 0, none⟩), .agg #[.int .u32 pc, .int .i64 many, .slice RA2 j rc2, .slice PA2 pn pc3]] w11 (fun e w' => e = .returned (.tuple #[]) ∧ RefKeep w' mb mx (putL mx (Z.map (·.r)) ⟨pc, many, RA2, j, rc2, PA2, pn, pc3⟩) ∧ Keeps (· = mb) w11 w') from rkPut_any mb mx _ ⟨pc, many, RA2, j, rc2, PA2, pn, pc3⟩ w11 HR11.out (by rw [List.length_map]; have := HZN.out; omega) HMX.out.1)
                go_wp2_with fail
                refine (HPX.out).mono ?_
                rintro e w12 ⟨rfl, hR12, hk12⟩
                have HS12 := Lib.hid (show KSt w w12 B kb mb mx (zPut mx Z ⟨kn, ⟨pc, many, RA2, j, rc2, PA2, pn, pc3⟩, pages, rows⟩) pg' rw' from by
                  have hz1 : kn.pc = pc := HG.out.1
                  refine ⟨?_, ?_, HS5.out.z.put mx _ HG.out.2.2.2.2 ⟨HG.out.1, HG.out.2.1, HG.out.2.2.1, HG.out.2.2.2.1, HRW.out.1, HRW.out.2, ⟨HPG.out.1, HPN.out.symm, HPG.out.2.1⟩, by have h1 := HPN.out; have h2 := H48.out.2; show pages.length ≤ 1000; omega⟩, zPut_len _ HMX.out.1 HS5.out.len⟩
                  · have h := HK11'.out.keepS hk12 (ent_nemb (v := .nilIface) ⟨_, HR11.out⟩)
                    rw [← putL_p mx Z ⟨kn, ⟨pc, many, RA2, j, rc2, PA2, pn, pc3⟩, pages, rows⟩]
                    exact h
                  · rw [← putL_r mx Z ⟨kn, ⟨pc, many, RA2, j, rc2, PA2, pn, pc3⟩, pages, rows⟩ (fun y hy => (HS5.out.z.each y hy).1) HG.out.1]
                    exact hR12)
                have HKW12 := Lib.hid (HKW11.out.trans hk12 (fun b hb e => by have e : b = mb := e; have := HMB.out; omega))
                clear hR12 hk12 x1 x2 x3 x4 c0 c1 t0
                go_wp2_with fail
                go_meet
                exact ⟨rfl, _, _, _, HS12.out, HKW12.out⟩
              · have HC0 := Lib.hid (show fc ≠ 0 from hc0)
                have HFR := Lib.hid (show fc = 0 ∨ (1 ≤ fc ∧ fc ≤ 10) from .inr (by
                  have h := Ir.planFault_le many rows
                  rw [HF.out] at h
                  have h2 : fc ≤ 8 := h
                  have h3 := HC0.out
                  omega))
                clear hc0
                refine wp_region_held_drew (S := fun w' => Keeps (KT B w7) w7 w') (by kernel_rfl) (Keeps.refl _ w7).drew (fun hH0 => ?_)
                refine wpAnyH_take (i := 0) (v := ?_) rfl (by kernel_rfl) (by kernel_rfl) (by kernel_rfl) (fun _ _ _ h => h) (Or.inl ⟨by go_simp, ?_⟩) hH0 ?_
                rotate_left
                · intro w' hSw
                  go_simp
                  try with_reducible rfl
                simp only [Act.put, List.getElem_toArray, List.getElem_cons_zero, List.getElem_cons_succ, List.setIfInBounds_toArray, List.set_cons_zero, List.set_cons_succ]
                refine wpAnyH_take (i := 1) (v := ?_) rfl (by kernel_rfl) (by kernel_rfl) (by kernel_rfl) (fun _ _ _ h => h) (Or.inl ⟨by go_simp, ?_⟩) hH0 ?_
                rotate_left
                · intro w' hSw
                  go_simp
                  try with_reducible rfl
                simp only [Act.put, List.getElem_toArray, List.getElem_cons_zero, List.getElem_cons_succ, List.setIfInBounds_toArray, List.set_cons_zero, List.set_cons_succ]
                refine wpAnyH_take (i := 2) (v := ?_) rfl (by kernel_rfl) (by kernel_rfl) (by kernel_rfl) (fun _ _ _ h => h) (Or.inl ⟨by go_simp, ?_⟩) hH0 ?_
                rotate_left
                · intro w' hSw
                  have q0 := Keeps.cell' hSw x1 HXN.out
                  go_simp
                  try with_reducible rfl
                simp only [Act.put, List.getElem_toArray, List.getElem_cons_zero, List.getElem_cons_succ, List.setIfInBounds_toArray, List.set_cons_zero, List.set_cons_succ]
                refine wpAnyH_take (i := 3) (v := ?_) rfl (by kernel_rfl) (by kernel_rfl) (by kernel_rfl) (fun _ _ _ h => h) (Or.inl ⟨by go_simp, ?_⟩) hH0 ?_
                rotate_left
                · intro w' hSw
                  go_simp
                  try with_reducible rfl
                simp only [Act.put, List.getElem_toArray, List.getElem_cons_zero, List.getElem_cons_succ, List.setIfInBounds_toArray, List.set_cons_zero, List.set_cons_succ]
                refine wpAnyH_take (i := 4) (v := ?_) rfl (by kernel_rfl) (by kernel_rfl) (by kernel_rfl) (fun _ _ _ h => h) (Or.inl ⟨by go_simp, ?_⟩) hH0 ?_
                rotate_left
                · intro w' hSw
                  have q0 := Keeps.cell' hSw x2 HXN.out
                  go_simp
                  try with_reducible rfl
                simp only [Act.put, List.getElem_toArray, List.getElem_cons_zero, List.getElem_cons_succ, List.setIfInBounds_toArray, List.set_cons_zero, List.set_cons_succ]
                refine wpAnyH_take (i := 5) (v := ?_) rfl (by kernel_rfl) (by kernel_rfl) (by kernel_rfl) (fun _ _ _ h => h) (Or.inl ⟨by go_simp, ?_⟩) hH0 ?_
                rotate_left
                · intro w' hSw
                  go_simp
                  try with_reducible rfl
                simp only [Act.put, List.getElem_toArray, List.getElem_cons_zero, List.getElem_cons_succ, List.setIfInBounds_toArray, List.set_cons_zero, List.set_cons_succ]
                refine wpAnyH_take (i := 6) (v := ?_) rfl (by kernel_rfl) (by kernel_rfl) (by kernel_rfl) (fun _ _ _ h => h) (Or.inl ⟨by go_simp, ?_⟩) hH0 ?_
                rotate_left
                · intro w' hSw
                  have q0 := Keeps.cell' hSw x3 HXN.out
                  go_simp
                  try with_reducible rfl
                simp only [Act.put, List.getElem_toArray, List.getElem_cons_zero, List.getElem_cons_succ, List.setIfInBounds_toArray, List.set_cons_zero, List.set_cons_succ]
                refine wpAnyH_take (i := 9) (v := ?_) rfl (by kernel_rfl) (by kernel_rfl) (by kernel_rfl) (fun _ _ _ h => h) (Or.inl ⟨by go_simp, ?_⟩) hH0 ?_
                rotate_left
                · intro w' hSw
                  go_simp
                  try with_reducible rfl
                simp only [Act.put, List.getElem_toArray, List.getElem_cons_zero, List.getElem_cons_succ, List.setIfInBounds_toArray, List.set_cons_zero, List.set_cons_succ]
                refine wpAnyH_take (i := 10) (v := ?_) rfl (by kernel_rfl) (by kernel_rfl) (by kernel_rfl) (fun _ _ _ h => h) (Or.inl ⟨by go_simp, ?_⟩) hH0 ?_
                rotate_left
                · intro w' hSw
                  go_simp
                  try with_reducible rfl
                simp only [Act.put, List.getElem_toArray, List.getElem_cons_zero, List.getElem_cons_succ, List.setIfInBounds_toArray, List.set_cons_zero, List.set_cons_succ]
                refine wpAnyH_take (i := 11) (v := ?_) rfl (by kernel_rfl) (by kernel_rfl) (by kernel_rfl) (fun _ _ _ h => h) (Or.inl ⟨by go_simp, ?_⟩) hH0 ?_
                rotate_left
                · intro w' hSw
                  have q0 := Keeps.cell' hSw x4 HXN.out
                  go_simp
                  try with_reducible rfl
                simp only [Act.put, List.getElem_toArray, List.getElem_cons_zero, List.getElem_cons_succ, List.setIfInBounds_toArray, List.set_cons_zero, List.set_cons_succ]
                refine wpAnyH_take (i := 14) (v := ?_) rfl (by kernel_rfl) (by kernel_rfl) (by kernel_rfl) (fun _ _ _ h => h) (Or.inl ⟨by go_simp, ?_⟩) hH0 ?_
                rotate_left
                · intro w' hSw
                  have q0 := Keeps.cell' hSw c0 HFN.out
                  have q1 := Keeps.cell' hSw c1 HFN.out
                  go_simp
                  try with_reducible rfl
                simp only [Act.put, List.getElem_toArray, List.getElem_cons_zero, List.getElem_cons_succ, List.setIfInBounds_toArray, List.set_cons_zero, List.set_cons_succ]
                refine wpAnyH_ready (rs := [7]) (by kernel_rfl) (by simp) ?_
                refine AllReadyH.cons rfl (fun K hK => ?_) AllReadyH.nil
                go_simp
                refine (HOW.out _ hq7).mono ?_
                rintro e w8 ⟨v8, rfl, hr8, hk8⟩
                go_wp2_with fail
                have hH1 := hH0.trans (hk8.mono (fun _ _ h => h.elim)) (fun _ _ h => h)
                have HK78 := Lib.hid (hq7.trans hk8 (fun _ _ h => h))
                obtain ⟨A8, c8, hv8⟩ : ∃ A c, v8 = .slice A j c := by
                  obtain ⟨A, c, h, _⟩ := hr8.rows
                  exact ⟨A, c, by rw [h, HRN.out]⟩
                subst hv8
                have HR8 := Lib.hid hr8
                clear hr8 hk8
                refine hK.out _ _ hH1 (fun _ => ?_)
                clear hK K
                try simp only [Act.put, List.getElem_toArray, List.getElem_cons_zero, List.getElem_cons_succ, List.setIfInBounds_toArray, List.set_cons_zero, List.set_cons_succ]
                refine wpAnyH_take (i := 8) (v := ?_) rfl (by kernel_rfl) (by kernel_rfl) (by kernel_rfl) (fun _ _ _ h => h) (Or.inl ⟨by go_simp, ?_⟩) hH1 ?_
                rotate_left
                · intro w' hSw
                  go_simp
                  try with_reducible rfl
                simp only [Act.put, List.getElem_toArray, List.getElem_cons_zero, List.getElem_cons_succ, List.setIfInBounds_toArray, List.set_cons_zero, List.set_cons_succ]
                refine wpAnyH_ready (rs := [12]) (by kernel_rfl) (by simp) ?_
                refine AllReadyH.cons rfl (fun K hK => ?_) AllReadyH.nil
                have hrd : Reads w8 PA2 pn pc3 (fun i => .int .i64 (pages.getD i 0)) := HPG.out.1.keep (HKW7.out.trans HK78.out (fun _ _ h => h)) (fun _ _ _ h => h)
                have hl8 : ([] : List Int).length + pn ≤ 1000000 := by
                  have h1 := H48.out.2
                  simp
                  omega
                have hnl := IOwn.nil w8 0
                refine step_append_ik rfl _ _ rfl 0 [] (.slice none 0 0) (by rfl) hnl PA2 pn pc3 pages (by rfl) hrd HPN.out.symm HPG.out.2.2 hl8 (Nat.zero_le _) ?_
                intro v' w9 hi9 hk9
                have hkq : Keeps (fun _ => False) w7 w9 := HK78.out.trans hk9 (fun b hb h => by cases h)
                have hH2 := hH1.trans (hk9.mono (T := KT B w7) (fun b _ h => by cases h)) (fun _ _ h => h)
                obtain ⟨A9, c9, hv9, _⟩ := id hi9
                obtain ⟨n9, hn9⟩ : ∃ x, ([] ++ pages).length = x := ⟨_, rfl⟩
                rw [hn9] at hv9
                subst hv9
                clear hn9
                have HI9 := Lib.hid (show IOwn w9 0 pages (.slice A9 n9 c9) from hi9)
                have HKQ := Lib.hid hkq
                have HR9 := Lib.hid (HR8.out.quiet (hk9.mono (T := fun _ => False) (fun b _ h => by cases h)))
                have HS9 := Lib.hid (HS7.out.quiet hkq)
                have HKW9 := Lib.hid (HKW7.out.trans hkq (fun _ _ h => h))
                clear hi9 hkq hk9 hrd hnl
                refine hK.out _ _ hH2 (fun _ => ?_)
                clear hK K
                try simp only [Act.put, List.getElem_toArray, List.getElem_cons_zero, List.getElem_cons_succ, List.setIfInBounds_toArray, List.set_cons_zero, List.set_cons_succ]
                have HPT := Lib.hid (keepPut_bad B kb mx _ pg rw_ pc many A8 j c8 rows (.slice A9 n9 c9) w9 ea ((HE.out.quiet HKW9.out).toRk) HS9.out.k HR9.out.atK.1 HR9.out.atK.2 (by rw [HF.out]; exact HC0.out))
                refine wpAnyH_ready (rs := [13]) (by kernel_rfl) (by simp) ?_
                refine AllReadyH.cons rfl (fun K hK => ?_) AllReadyH.nil
                go_simp
                refine (HPT.out).mono ?_
                rintro e w10 ⟨v10, rfl, hfi, hk10⟩
                go_wp2_with fail
                rw [HF.out] at hfi
                have hH3 := hH2.trans (hk10.mono (fun _ _ h => h.elim)) (fun _ _ h => h)
                have HKW10 := Lib.hid (HKW9.out.trans hk10 (fun _ _ h => h))
                have HS10 := Lib.hid (HS9.out.quiet hk10)
                have HFT := Lib.hid (show Calls Tryz.prog 9 #[v10, .agg #[.int .i64 (fc : Int), .int .i64 fat]] w10 (fun e w' => e = .returned (.bool true) ∧ Keeps (fun _ => False) w10 w') from faulted_any (fc, fat) (HFR.out) v10 w10 ea (HE.out.quiet HKW10.out) hfi)
                clear hfi hk10
                refine hK.out _ _ hH3 (fun _ => ?_)
                clear hK K
                try simp only [Act.put, List.getElem_toArray, List.getElem_cons_zero, List.getElem_cons_succ, List.setIfInBounds_toArray, List.set_cons_zero, List.set_cons_succ]
                refine wpAnyH_ready (rs := [15]) (by kernel_rfl) (by simp) ?_
                refine AllReadyH.cons rfl (fun K hK => ?_) AllReadyH.nil
                go_simp
                refine (HFT.out).mono ?_
                rintro e w11 ⟨rfl, hk11⟩
                go_wp2_with fail
                have hH4 := hH3.trans (hk11.mono (fun _ _ h => h.elim)) (fun _ _ h => h)
                have HK11 := Lib.hid hk11
                clear hk11
                refine hK.out _ _ hH4 (fun _ => ?_)
                clear hK K
                try simp only [Act.put, List.getElem_toArray, List.getElem_cons_zero, List.getElem_cons_succ, List.setIfInBounds_toArray, List.set_cons_zero, List.set_cons_succ]
                refine wpAnyH_take (i := 16) (v := ?_) rfl (by kernel_rfl) (by kernel_rfl) (by kernel_rfl) (fun _ _ _ h => h) (Or.inl ⟨by go_simp, ?_⟩) hH4 ?_
                rotate_left
                · intro w' hSw
                  go_simp
                  try with_reducible rfl
                simp only [Act.put, List.getElem_toArray, List.getElem_cons_zero, List.getElem_cons_succ, List.setIfInBounds_toArray, List.set_cons_zero, List.set_cons_succ]
                refine wpAnyH_done (by kernel_rfl) ?_ _
                have HFB11 := Lib.hid (HFB.out.keep hH4 HFN.out)
                have HX11 := Lib.hid ((hH4.block xb (Array.getElem?_eq_some_iff.1 HX7.out).1 HXN.out).trans HX7.out)
                have HKW11 := Lib.hid (HKW10.out.trans HK11.out (fun _ _ h => h))
                clear hH0 hH1 hH2 hH3 hH4 x1 x2 x3 x4 c0 c1 hq7 hl8
                obtain ⟨c0, c1, _, _⟩ := HFB11.out.cells
                have t0 : ((fc : Int) == 0) = false := by
                  have := HC0.out
                  simp at this ⊢
                  omega
                have HS11 := Lib.hid (HS10.out.quiet HK11.out)
                go_wp2_with fail
                go_meet
                exact ⟨rfl, Z, pg, rw_, HS11.out, HKW11.out⟩
          case rest =>
            obtain ⟨rfl, Z2, pg2, rw2, hS2, hk2⟩ := hcut
            have HS2 := Lib.hid hS2
            have HKC := Lib.hid hk2
            obtain ⟨LA, ln, lc, hlb, hlr⟩ := hS2.r.box
            have HLB := Lib.hid hlb
            have HLR := Lib.hid hlr
            have HZL := Lib.hid (show Z2.length = ln from by have := hlr.len; rwa [List.length_map] at this)
            have hlc := hlr.le
            have hln : ln ≤ 40 := by
              have h1 := hS2.len
              have h2 := HMX.out.2
              have h3 := HZL.out
              omega
            have HLN := Lib.hid hln
            have HPL := Lib.hid (show ((Z2.map (·.r)).map K4.pc).length = ln from by rw [List.length_map, List.length_map]; exact HZL.out)
            obtain ⟨P, hP⟩ : ∃ P, (Z2.map (·.r)).map K4.pc = P := ⟨_, rfl⟩
            rw [hP] at HPL
            have HPE := Lib.hid hP
            obtain ⟨B3, hB3⟩ : ∃ b, wc.heap.size = b := ⟨_, rfl⟩
            have HB3 := Lib.hid hB3
            clear hS2 hk2 hlb hlr hB3 hP
            go_wp2_with fail
            go_loopw [18, 19] (fun s18 s19 wi => ∃ j : Nat, j ≤ ln ∧ s19 = .int .i64 j ∧ UOwn wi B3 (P.take j) s18 ∧ Keeps (fun _ => False) wc wi) (fun _ s19 _ => ln - (intOf s19).toNat)
            case atStart => exact ⟨0, by omega, rfl, UOwn.nil _ _, Keeps.refl _ _⟩
            case round =>
              obtain ⟨j, hj, rfl, hU, hkj⟩ := hrel
              have HU := Lib.hid hU
              have HKJ := Lib.hid hkj
              clear hU hkj
              have c0 : wr.cell? ⟨mb, 1, none⟩ = some (.slice LA ln lc) := HKJ.out.cell' (cell_atK HLB.out 1) (fun h => h)
              by_cases hjl : j < ln
              · obtain ⟨lb, lo, rfl, hcell⟩ := (HLR.out.quiet HKJ.out).get hjl
                have hj63 : (j : Int) < ln := by omega
                have HPJ := Lib.hid (show P.getD j 0 = ((Z2.map (·.r)).getD j k40).pc from by
                  rw [← HPE.out]
                  simp [List.getD_eq_getElem?_getD, List.getElem?_map, List.getElem?_eq_getElem (show j < Z2.length by rw [HZL.out]; exact hjl)])
                have HTP := Lib.hid (take_getD P j (by rw [HPL.out]; exact hjl) 0)
                obtain ⟨k, hk⟩ : ∃ k, (Z2.map (·.r)).getD j k40 = k := ⟨_, rfl⟩
                rw [hk] at hcell HPJ
                rw [HPJ.out] at HTP
                have e0 : wr.cell? ⟨lb, lo + j * 4, none⟩ = some (.int .u32 k.pc) := hcell 0 _ (by omega) rfl
                clear hcell hk
                obtain ⟨A5, c5, hv5, _⟩ := id HU.out
                obtain ⟨un, hun⟩ : ∃ z, (P.take j).length = z := ⟨_, rfl⟩
                rw [hun] at hv5
                subst hv5
                have HUB := Lib.hid (show (P.take j).length ≤ 1000000 from by rw [List.length_take]; have := HPL.out; have := HLN.out; omega)
                clear hun
                have HKA := Lib.hid ((Keeps.refl (fun _ => False) wr).alloc (.cells #[.int .u32 k.pc] 34))
                have HCN := Lib.hid (fun j u hj => cells_new wr [.int .u32 k.pc] 34 j u hj)
                have HUA := Lib.hid (HU.out.keep HKA.out (fun _ _ h => h))
                have HBS := Lib.hid (show B3 ≤ (wr.alloc (.cells #[.int .u32 k.pc] 34)).heap.size by
                  have h1 := HKJ.out.size
                  have h2 := HKA.out.size
                  have h4 := HB3.out
                  omega)
                have HLOW := Lib.hid (show ∀ g, (Value.slice A5 un c5).ownBlock = some g → B3 ≤ g from fun g hg => by
                  obtain ⟨A, c, e, ho⟩ := HU.out
                  rw [e] at hg ho
                  exact (ho.lt g hg).1)
                clear HU
                go_wp2_with (at_builtin; go_loud (refine wpList_append_u rfl _ _ rfl B3 (P.take j) (.slice A5 un c5) rfl HUA.out wr.heap.size k.pc rfl HCN.out HUB.out HBS.out ?c0))
                case c0 =>
                  intro v' w5 hown hk5
                  have HU5 := Lib.hid (show UOwn w5 B3 (P.take (j + 1)) v' by rw [HTP.out]; exact hown)
                  have HK5 := Lib.hid (show Keeps (fun _ => False) wc w5 from (HKJ.out.trans HKA.out (fun _ _ h => h)).trans hk5 (fun b hb e => by
                    have h1 := HLOW.out b e
                    have h2 := HB3.out
                    omega))
                  clear hown hk5 c0 e0
                  go_wp2_with fail
                  go_roundw
                  case rel => exact ⟨j + 1, by omega, by go_num, HU5.out, HK5.out⟩
                  case measure => simp [intOf]; omega
              · obtain rfl : j = ln := by omega
                have HUF := Lib.hid (show UOwn wr B3 P _ from by
                  have := HU.out
                  rwa [List.take_of_length_le (by rw [HPL.out]; exact Nat.le_refl _)] at this)
                clear HU
                obtain ⟨A5, c5, hv5, _⟩ := id HUF.out
                rw [HPL.out] at hv5
                subst hv5
                have HS6 := Lib.hid (HS2.out.quiet HKJ.out)
                have HK6 := Lib.hid (HKC.out.trans HKJ.out (fun _ _ h => h))
                have HML := Lib.hid (show (Z2.map (·.p)).length ≤ 100 from by rw [List.length_map, HZL.out]; have := HLN.out; omega)
                have HPC := Lib.hid (keepPCs_any B kb mx _ pg2 rw2 wr HS6.out.k (by have := HML.out; omega))
                go_wp2_with fail
                refine (HPC.out).mono ?_
                rintro e w7 ⟨v7, rfl, ho7, hk7⟩
                rw [← HS2.out.z.pcs, HPE.out] at ho7
                obtain ⟨A7, c7, hv7, _⟩ := id ho7
                rw [HPL.out] at hv7
                subst hv7
                have HK7 := Lib.hid hk7
                have HAL := Lib.hid (alikeU_any A7 A5 j c7 c5 (fun i => P.getD i 0) w7 ho7.reads.2.2 (HUF.out.keep hk7 (fun _ _ h => h)).reads.2.2 ho7.reads.2.1 HUF.out.reads.2.1)
                clear ho7 hk7 c0
                go_wp2_with fail
                refine (HAL.out).mono ?_
                rintro e w8 ⟨rfl, hk8⟩
                have HK68 := Lib.hid (HK7.out.trans hk8 (fun _ _ h => h))
                have HS8 := Lib.hid (HS6.out.quiet HK68.out)
                have HPG2 := Lib.hid (keepPages_any B kb mx _ pg2 rw2 w8 HS8.out.k HML.out)
                clear hk8
                go_wp2_with fail
                refine (HPG2.out).mono ?_
                rintro e w9 ⟨v9, rfl, ho9, hk9⟩
                have HO9 := Lib.hid ho9
                have HS9 := Lib.hid (HS8.out.quiet hk9)
                have HK69 := Lib.hid (HK68.out.trans hk9 (fun _ _ h => h))
                have HRP := Lib.hid (rkPages_any mb mx (zQ Z2) w9 (by rw [zQ_fst]; exact HS9.out.r) (fun q hq => by
                  obtain ⟨z, hz, rfl⟩ := List.mem_map.1 hq
                  exact ((HS2.out.z.each z hz).2.2.2.2.2.2.1).quiet (HK6.out.trans HK69.out (fun _ _ h => h))) (by unfold zQ; rw [List.length_map, HZL.out]; have := HLN.out; omega) (fun q hq => by
                  obtain ⟨z, hz, rfl⟩ := List.mem_map.1 hq
                  exact (HS2.out.z.each z hz).2.2.2.2.2.2.2))
                rw [HS2.out.z.pages] at HRP
                clear ho9 hk9
                go_wp2_with fail
                refine (HRP.out).mono ?_
                rintro e w10 ⟨v10, rfl, ho10, hk10⟩
                obtain ⟨un, hun⟩ : ∃ z, (uniqI ((Z2.map (·.p)).flatMap pg2)).length = z := ⟨_, rfl⟩
                have HO9' := Lib.hid (HO9.out.keep hk10 (fun _ _ _ _ h => h))
                obtain ⟨A9, c9, hv9, _⟩ := id HO9'.out
                rw [hun] at hv9
                subst hv9
                obtain ⟨A10, c10, hv10, _⟩ := id ho10
                rw [hun] at hv10
                subst hv10
                clear hun
                have HSM := Lib.hid (sameRows_any A9 A10 un c9 c10 (fun i => (uniqI ((Z2.map (·.p)).flatMap pg2)).getD i 0) w10 HO9'.out.reads.2.2 ho10.reads.2.2 HO9'.out.reads.2.1 ho10.reads.2.1)
                have HS10 := Lib.hid (HS9.out.quiet hk10)
                have HK10 := Lib.hid ((HK6.out.trans HK69.out (fun _ _ h => h)).trans hk10 (fun _ _ h => h))
                clear ho10 hk10
                go_wp2_with fail
                refine (HSM.out).mono ?_
                rintro e w11 ⟨rfl, hk11⟩
                have HS11 := Lib.hid (HS10.out.quiet hk11)
                have HK11 := Lib.hid (HK10.out.trans hk11 (fun _ _ h => h))
                clear hk11
                go_wp2_with fail
                go_roundw
                case rel => exact ⟨i + 1, Z2, pg2, rw2, by omega, by go_num, rfl, HS11.out, HK11.out⟩
                case measure => simp [intOf]; omega
    · obtain rfl : i = n := by omega
      go_wp2_with fail
      go_ret
      exact ⟨rfl, HK.out⟩
end Go.Proofs.YtlmnmncdoiealaaGreatDoor
