import Derived.Test.YtlmnmncdoiealaaDoorKdz24
import Derived.Test.YtlmnmncdoiealaaDoorKdz26
import Derived.Test.YtlmnmncdoiealaaDoorErr
import Derived.LaidLaws
import Derived.MakeChecks
import Derived.Stop.LaidErr
import Derived.LaidMore

/- KeepDrops -/
/- The walk of the law KeepDrops. -/
namespace Go.Proofs.YtlmnmncdoiealaaDoor
open Go.RowKit Go.Deep
set_option linter.unusedVariables false
set_option linter.unusedSimpArgs false

theorem step_append_i {ops : Array Oper} {o : Oper} {a : Act} {w : World} {K : Act → World → Prop} {Q : Exit → Act → World → Prop} {E : Prop}
    (hg : o.guard = none) (s x : Operand) (hop : o.op = Op.call { callee := Callee.builtin Builtin.append, args := #[s, x], argTypes := #[31, 31] })
    (B : Nat) (l1 : List Int) (v : Value) (hs : a.eval s = v) (h1 : IOwn w B l1 v) (A2 : Option Addr) (m c : Nat) (l2 : List Int) (hx : a.eval x = .slice A2 m c) (V2 : Reads w A2 m c (fun i => .int .i64 (l2.getD i 0))) (hl2 : m = l2.length) (hcn : A2 = none → c = 0) (hb : l1.length + m ≤ 1000000) (hbase : B ≤ w.heap.size)
    (hK : ∀ v' w', IOwn w' B (l1 ++ l2) v' → Keeps (fun k => v.ownBlock = some k) w w' → K (a.put o.dst v') w') :
    if Region.wanted o (yielded ops a.tmps) = true then Oper.wp Tryd.prog o a w K Q else E := by
  obtain ⟨i0, hi, hz0, hz1, hz2⟩ := info_parts Tryd.info_i
  obtain ⟨A1, c1, rfl, ho1⟩ := h1
  cases A2 with
  | none =>
    have hcap : c = 0 := hcn rfl
    have hm : m = 0 := by have := V2.1; omega
    subst hcap hm
    obtain rfl : l2 = [] := List.eq_nil_of_length_eq_zero hl2.symm
    have hw : Region.wanted o (yielded ops a.tmps) = true := by simp [Region.wanted, hg]
    rw [if_pos hw]
    have hrun := run_append_owned_none (w := w) (P := Tryd.prog) B 31 o.type 3 i0 1 Tryd.underlying31 hi _ _ _ ho1
    unfold Oper.wp
    simp [execOp, hop, resolve, invoke, builtin, hs, hx, hrun, Result.andThen]
    exact hK _ _ (by rw [List.append_nil]; exact ⟨A1, c1, rfl, ho1⟩) (Keeps.refl _ _)
  | some ad =>
    refine step_append_mine hg s x 31 hop B 3 i0 _ 1 8 Tryd.underlying31 hi hz0 hz1 hz2 rfl (by decide) (.slice A1 l1.length c1) l1.length (intL l1) hs ho1 ad m c (intL l2) hx (by unfold intL; rw [List.length_map]; omega) (V2.at_int hl2 rfl) (intL_one l2) (by unfold maxLen; omega) (by omega) hbase ?_
    intro v' w' hown hgrow hmv
    obtain ⟨A', cap', rfl⟩ := owns_slice hown
    refine hK _ _ ⟨A', cap', by rw [List.length_append, hl2], ?_⟩ ((Keeps.refl _ w).grown hgrow (fun k hk _ => hk))
    rw [List.map_append, List.length_append, ← hl2]
    exact hown
theorem npK_split (p : K4 → Bool) (l : List K4) : l.length = (l.filter p).length + (npK p l).length := by
  unfold npK
  induction l with
  | nil => rfl
  | cons a r ih =>
    simp only [List.filter_cons]
    cases p a <;> simp <;> omega
theorem putL_len {mx : Int} {l : List K4} (h1 : 1 ≤ mx) (hl : (l.length : Int) ≤ mx) (k : K4) : ((putL mx l k).length : Int) ≤ mx := by
  have h2 := npK_split (fun q => q.pc == k.pc) l
  unfold putL
  split
  · rw [List.length_eraseIdx_of_lt (by simp), List.length_append, List.length_singleton]
    omega
  · rw [List.length_append, List.length_singleton]
    omega
theorem npK_none_left (p : K4 → Bool) (l : List K4) : (npK p l).filter p = [] := by
  unfold npK
  rw [List.filter_filter]
  refine List.filter_eq_nil_iff.2 fun a _ h => ?_
  cases hp : p a <;> rw [hp] at h <;> simp at h
/-- what stays is no page that was dropped, and was there -/
theorem left_is {l : List K4} {pg : K4 → List Int} {page x : Int} (h : x ∈ uniqI ((npK (fun k => (pg k).contains page) l).flatMap pg)) : x ≠ page ∧ x ∈ uniqI (l.flatMap pg) := by
  obtain ⟨k, hk, hx⟩ := List.mem_flatMap.1 (mem_uniqI.1 h)
  unfold npK at hk
  obtain ⟨h1, h2⟩ := List.mem_filter.1 hk
  refine ⟨fun e => ?_, mem_uniqI.2 (List.mem_flatMap.2 ⟨k, h1, hx⟩)⟩
  subst e
  simp at h2
  exact h2 hx
theorem getD_memI {l : List Int} {i : Nat} (h : i < l.length) : l.getD i 0 ∈ l := by
  rw [List.getD_eq_getElem?_getD, List.getElem?_eq_getElem h]
  exact List.getElem_mem h
theorem IOwn.at {w : World} {B : Nat} {l : List Int} {A : Option Addr} {n cap : Nat} (h : IOwn w B l (.slice A n cap)) {i : Nat} (hi : i < n) : ∃ b o, A = some ⟨b, o, none⟩ ∧ w.cell? ⟨b, o + i, none⟩ = some (.int .i64 (l.getD i 0)) := by
  obtain ⟨h1, h2 | ⟨b, o, h5, h6, h7⟩⟩ := h.reads.2.2
  · omega
  · exact ⟨b, o, h5, h7 i hi⟩
theorem take_contains (P : List Int) (j : Nat) (h : j < P.length) (x : Int) : (P.take (j + 1)).contains x = ((P.take j).contains x || P.getD j 0 == x) := by
  rw [take_getD P j h 0, Bool.eq_iff_iff, Bool.or_eq_true, List.contains_iff_mem, List.contains_iff_mem, List.mem_append, List.mem_singleton, beq_iff_eq]
  exact or_congr Iff.rfl ⟨fun h => h.symm, fun h => h.symm⟩
set_option maxHeartbeats 16000000 in
set_option maxRecDepth 100000 in
theorem keepDrops_any (mx : Int) (A : Option Addr) (n cap : Nat) (l : List AskV) (page : Int) (w : World) (ea : Nat → Addr) (E : ErrsR w ea) (V : AsksAt w A n cap l) (hc : cap ≤ 9223372036854775807) :
    Calls Tryd.prog 3 #[.int .i64 mx, .slice A n cap, .int .i64 page] w fun e w' => e = .returned (.bool true) ∧ Keeps (fun _ => False) w w' := by
  have HE := Lib.hid E
  have HV := Lib.hid V
  have hnc := V.le
  have HKE := Lib.hid (kept_any w ea E)
  clear E V
  go_enter Tryd.func3, Tryd.ntmps3
  go_wp2_with fail
  refine (HKE.out).mono ?_
  rintro e w1 ⟨rfl, hk1⟩
  have HK1 := Lib.hid hk1
  clear hk1
  by_cases h60 : 60 < n
  · have t1 : decide ((60 : Int) < (n : Int)) = true := decide_eq_true (by omega)
    go_wp2_with fail
    go_ret
    exact ⟨rfl, HK1.out⟩
  have t1 : decide ((60 : Int) < (n : Int)) = false := decide_eq_false (by omega)
  by_cases hm1 : mx < 1
  · have t2 : decide (mx < 1) = true := decide_eq_true hm1
    go_wp2_with fail
    go_ret
    exact ⟨rfl, HK1.out⟩
  have t2 : decide (mx < 1) = false := decide_eq_false hm1
  by_cases hm2 : 40 < mx
  · have t3 : decide (40 < mx) = true := decide_eq_true hm2
    go_wp2_with fail
    go_ret
    exact ⟨rfl, HK1.out⟩
  have t3 : decide (40 < mx) = false := decide_eq_false hm2
  have HMX := Lib.hid (show 1 ≤ mx ∧ mx ≤ 40 from ⟨by omega, by omega⟩)
  have HNEW := Lib.hid (keepNew_any mx (fun _ => []) (fun _ => []) w1 (by omega) (by omega))
  go_wp2_with fail
  refine (HNEW.out).mono ?_
  rintro e w2 ⟨kb, rfl, hK, hk⟩
  have HK2 := Lib.hid (HK1.out.trans hk (fun _ _ h => h))
  have HKA := Lib.hid hK
  have HBW := Lib.hid (show w.heap.size ≤ w1.heap.size from HK1.out.size)
  clear hK hk t1 t2 t3 h60 hm1 hm2
  obtain ⟨B, hB⟩ : ∃ B, w1.heap.size = B := ⟨_, rfl⟩
  rw [hB] at HKA HBW
  clear hB
  go_wp2_with fail
  have HNN := Lib.hid hnc
  go_loopw [6, 10] (fun s6 s10 wr => ∃ (i : Nat) (L : List K4) (pg : K4 → List Int) (rw_ : K4 → List (List Ir.Op)), i ≤ n ∧ s10 = .int .i64 i ∧ s6 = .bool false ∧ KeepAt wr B kb mx L pg rw_ ∧ ((L.length : Int) ≤ mx) ∧ Keeps (fun _ => False) w wr) (fun _ s10 _ => n - (intOf s10).toNat)
  case atStart => exact ⟨0, [], _, _, by omega, rfl, rfl, HKA.out, by have := HMX.out.1; simp; omega, HK2.out⟩
  case round =>
    obtain ⟨i, L, pg, rw_, hi, rfl, rfl, hKr, hLr, hkr⟩ := hrel
    have HKR := Lib.hid hKr
    have HLR := Lib.hid hLr
    have HKK := Lib.hid hkr
    clear hKr hLr hkr
    by_cases hlt : i < n
    · obtain ⟨ab, ao, rfl, ha⟩ := (HV.out.quiet HKK.out).get hlt
      obtain ⟨ab2, ao2, e, ha0⟩ := HV.out.get hlt
      injection e with e
      injection e with e1 e2 _
      subst e1 e2
      have HAB := Lib.hid (show ab < B from Nat.lt_of_lt_of_le (World.block_lt_of_cell? w _ ha0.pc) HBW.out)
      clear ha0
      have hi63 : (i : Int) < n := by omega
      obtain ⟨a, haa⟩ : ∃ a, l.getD i ask0 = a := ⟨_, rfl⟩
      rw [haa] at ha
      clear haa
      have HAA := Lib.hid ha
      obtain ⟨PA, pcap, hp4, hpr, hpc, hpn⟩ := ha.pages
      have e1 := ha.pc
      have HPR := Lib.hid (And.intro hpr (And.intro hpc hpn))
      obtain ⟨pn, hpn2⟩ : ∃ x, a.pages.length = x := ⟨_, rfl⟩
      rw [hpn2] at hp4
      have HPN := Lib.hid hpn2
      clear ha hpr hpc hpn hpn2
      by_cases h8 : 8 < pn
      · have t8 : decide ((8 : Int) < (pn : Int)) = true := decide_eq_true (by omega)
        go_wp2_with fail
        go_ret
        exact ⟨rfl, HKK.out⟩
      · have t8 : decide ((8 : Int) < (pn : Int)) = false := decide_eq_false (by omega)
        have H8 := Lib.hid h8
        clear h8
        go_upto_region 13 with fail
        have HRW := Lib.hid (show RowsOwn ((wr.alloc (.cells #[.string ⟨#[111, 117, 116]⟩, .int .i64 0, .int .i64 0, .int .i64 0, .int .u32 0, .int .i64 0] 35)).alloc (.cells #[.slice (some ⟨wr.heap.size, 0, none⟩) 1 1] 36)) 0 (.slice (some ⟨wr.heap.size + 1, 0, none⟩) 1 1) [[keptOp 0]] from RowsOwn.one wr (keptOp 0))
        have HA := Lib.hid (show Keeps (fun _ => False) wr ((wr.alloc (.cells #[.string ⟨#[111, 117, 116]⟩, .int .i64 0, .int .i64 0, .int .i64 0, .int .u32 0, .int .i64 0] 35)).alloc (.cells #[.slice (some ⟨wr.heap.size, 0, none⟩) 1 1] 36)) from ((Keeps.refl (fun _ => False) wr).alloc _).alloc _)
        have HSZ := Lib.hid (show wr.heap.size + 1 + 1 = ((wr.alloc (.cells #[.string ⟨#[111, 117, 116]⟩, .int .i64 0, .int .i64 0, .int .i64 0, .int .u32 0, .int .i64 0] 35)).alloc (.cells #[.slice (some ⟨wr.heap.size, 0, none⟩) 1 1] 36)).heap.size from by rw [nblk_alloc, nblk_alloc])
        go_upto_region 14 with fail
        rw [HSZ.out]
        clear HSZ
        generalize (wr.alloc _).alloc _ = w4 at *
        generalize wr.heap.size + 1 = g at *
        have HPB := Lib.hid (PlanBox.new w4 a.pc 1 (some ⟨g, 0, none⟩) 1 1)
        have hA5 := (Keeps.refl (fun _ => False) w4).alloc (.cells #[.int .u32 a.pc, .int .i64 1, .slice (some ⟨g, 0, none⟩) 1 1] 38)
        have HA5 := Lib.hid (HA.out.trans hA5 (fun _ _ h => h))
        have HR5 := Lib.hid (HRW.out.quiet hA5)
        clear hA5
        generalize w4.alloc _ = w5 at *
        generalize w4.heap.size = pb at *
        have HKK5 := Lib.hid (HKK.out.trans HA5.out (fun _ _ h => h))
        have HKR5 := Lib.hid (HKR.out.quiet HA5.out)
        have HPR5 := Lib.hid (HPR.out.1.keep HA5.out (fun _ _ _ h => h))
        obtain ⟨d0, d1, d2, _⟩ := HPB.out.cells
        have e4 := HA5.out.cell' hp4 (fun h => h)
        have HNP := Lib.hid (show ¬ KT B w5 pb from KT.not HPB.out.blk (by decide) (by decide))
        have HNA := Lib.hid (show ¬ KT B w5 ab from fun h => by
          have h1 := h.1
          have h2 := HAB.out
          omega)
        clear e1 hp4 t8
        have HPUT := Lib.hid (fun wx A9 n9 c9 (k : Keeps (fun _ => False) w5 wx) V R => keepPut_any B kb mx L pg rw_ a.pc 1 (some ⟨g, 0, none⟩) 1 1 [[keptOp 0]] A9 n9 c9 a.pages wx ea (HE.out.quiet (HKK5.out.trans k (fun _ _ h => h))) (HKR5.out.quiet k) (by have h1 := HLR.out; have h2 := HMX.out.2; omega) V kept_fault0 R (by have h1 := HPN.out; have h2 := H8.out; omega))
        refine wp_region_held_drew (S := fun w' => Keeps (KT B w5) w5 w') (by kernel_rfl) (Keeps.refl _ w5).drew (fun hH0 => ?_)
        refine wpAnyH_take (i := 0) (v := ?_) rfl (by kernel_rfl) (by kernel_rfl) (by kernel_rfl) (fun _ _ _ h => h) (Or.inl ⟨by go_simp, ?_⟩) hH0 ?_
        rotate_left
        · intro w' hSw
          go_simp
          try with_reducible rfl
        simp only [Act.put, List.getElem_toArray, List.getElem_cons_zero, List.getElem_cons_succ, List.setIfInBounds_toArray, List.set_cons_zero, List.set_cons_succ]
        refine wpAnyH_take (i := 1) (v := ?_) rfl (by kernel_rfl) (by kernel_rfl) (by kernel_rfl) (fun _ _ _ h => h) (Or.inl ⟨by go_simp, ?_⟩) hH0 ?_
        rotate_left
        · intro w' hSw
          have q0 := Keeps.cell' hSw d0 HNP.out
          have q1 := Keeps.cell' hSw d1 HNP.out
          have q2 := Keeps.cell' hSw d2 HNP.out
          go_simp
          try with_reducible rfl
        simp only [Act.put, List.getElem_toArray, List.getElem_cons_zero, List.getElem_cons_succ, List.setIfInBounds_toArray, List.set_cons_zero, List.set_cons_succ]
        refine wpAnyH_take (i := 2) (v := ?_) rfl (by kernel_rfl) (by kernel_rfl) (by kernel_rfl) (fun _ _ _ h => h) (Or.inl ⟨by go_simp, ?_⟩) hH0 ?_
        rotate_left
        · intro w' hSw
          go_simp
          try with_reducible rfl
        simp only [Act.put, List.getElem_toArray, List.getElem_cons_zero, List.getElem_cons_succ, List.setIfInBounds_toArray, List.set_cons_zero, List.set_cons_succ]
        refine wpAnyH_take (i := 3) (v := ?_) rfl (by kernel_rfl) (by kernel_rfl) (by kernel_rfl) (fun _ _ _ h => h) (Or.inl ⟨by go_simp, ?_⟩) hH0 ?_
        rotate_left
        · intro w' hSw
          go_simp
          try with_reducible rfl
        simp only [Act.put, List.getElem_toArray, List.getElem_cons_zero, List.getElem_cons_succ, List.setIfInBounds_toArray, List.set_cons_zero, List.set_cons_succ]
        refine wpAnyH_take (i := 4) (v := ?_) rfl (by kernel_rfl) (by kernel_rfl) (by kernel_rfl) (fun _ _ _ h => h) (Or.inl ⟨by go_simp, ?_⟩) hH0 ?_
        rotate_left
        · intro w' hSw
          go_simp
          try with_reducible rfl
        simp only [Act.put, List.getElem_toArray, List.getElem_cons_zero, List.getElem_cons_succ, List.setIfInBounds_toArray, List.set_cons_zero, List.set_cons_succ]
        refine wpAnyH_take (i := 5) (v := ?_) rfl (by kernel_rfl) (by kernel_rfl) (by kernel_rfl) (fun _ _ _ h => h) (Or.inl ⟨by go_simp, ?_⟩) hH0 ?_
        rotate_left
        · intro w' hSw
          go_simp
          try with_reducible rfl
        simp only [Act.put, List.getElem_toArray, List.getElem_cons_zero, List.getElem_cons_succ, List.setIfInBounds_toArray, List.set_cons_zero, List.set_cons_succ]
        refine wpAnyH_take (i := 6) (v := ?_) rfl (by kernel_rfl) (by kernel_rfl) (by kernel_rfl) (fun _ _ _ h => h) (Or.inl ⟨by go_simp, ?_⟩) hH0 ?_
        rotate_left
        · intro w' hSw
          go_simp
          try with_reducible rfl
        simp only [Act.put, List.getElem_toArray, List.getElem_cons_zero, List.getElem_cons_succ, List.setIfInBounds_toArray, List.set_cons_zero, List.set_cons_succ]
        refine wpAnyH_take (i := 7) (v := ?_) rfl (by kernel_rfl) (by kernel_rfl) (by kernel_rfl) (fun _ _ _ h => h) (Or.inl ⟨by go_simp, ?_⟩) hH0 ?_
        rotate_left
        · intro w' hSw
          have q4 := Keeps.cell' hSw e4 HNA.out
          go_simp
          try with_reducible rfl
        simp only [Act.put, List.getElem_toArray, List.getElem_cons_zero, List.getElem_cons_succ, List.setIfInBounds_toArray, List.set_cons_zero, List.set_cons_succ]
        have hq5 := (Keeps.refl (fun _ => False) w5).drew
        refine wpAnyH_ready (rs := [8]) (by kernel_rfl) (by simp) ?_
        refine AllReadyH.cons rfl (fun K hK => ?_) AllReadyH.nil
        have hrd : Reads w5.drew PA pn pcap (fun i => .int .i64 (a.pages.getD i 0)) := by
          rw [← HPN.out]
          exact HPR5.out.keep hq5 (fun _ _ _ h => h)
        have hl8 : ([] : List Int).length + pn ≤ 1000000 := by
          have h1 := H8.out
          simp
          omega
        have hpl : pn = a.pages.length := HPN.out.symm
        have hnl := IOwn.nil w5.drew 0
        refine step_append_i rfl _ _ rfl 0 [] (.slice none 0 0) (by rfl) hnl PA pn pcap a.pages (by rfl) hrd hpl HPR.out.2.2 hl8 (Nat.zero_le _) ?_
        intro v' w6 hi6 hk6
        have hkq := hq5.trans hk6 (fun b hb h => by cases h)
        have hH1 := hkq.mono (T := KT B w5) (fun _ _ h => h.elim)
        obtain ⟨A9, c9, hv9, _⟩ := id hi6
        obtain ⟨n9, hn9⟩ : ∃ x, ([] ++ a.pages).length = x := ⟨_, rfl⟩
        rw [hn9] at hv9
        subst hv9
        clear hn9
        have HI6 := Lib.hid hi6
        have HKQ := Lib.hid hkq
        clear hi6 hkq hk6
        refine hK.out _ _ hH1 (fun _ => ?_)
        clear hK K
        try simp only [Act.put, List.getElem_toArray, List.getElem_cons_zero, List.getElem_cons_succ, List.setIfInBounds_toArray, List.set_cons_zero, List.set_cons_succ]
        refine wpAnyH_ready (rs := [9]) (by kernel_rfl) (by simp) ?_
        refine AllReadyH.cons rfl (fun K hK => ?_) AllReadyH.nil
        go_simp
        refine (HPUT.out w6 A9 n9 c9 HKQ.out (HR5.out.quiet HKQ.out) HI6.out).mono ?_
        rintro e w7 ⟨rfl, k, pg', rw', _, _, _, _, _, hK7, hk7⟩
        go_wp2_with fail
        have hH2 := hH1.trans hk7 (fun b hb ⟨h1, cs, t, fz, h2, h3⟩ => ⟨h1, cs, t, fz, (HKQ.out.block b hb (fun h => h)).symm.trans h2, h3⟩)
        have HK7 := Lib.hid hK7
        have HKK7 := Lib.hid (KT.below hk7 (HKK5.out.trans HKQ.out (fun _ _ h => h)) HBW.out)
        clear hK7 hk7
        refine hK.out _ _ hH2 (fun _ => ?_)
        clear hK K
        try simp only [Act.put, List.getElem_toArray, List.getElem_cons_zero, List.getElem_cons_succ, List.setIfInBounds_toArray, List.set_cons_zero, List.set_cons_succ]
        refine wpAnyH_take (i := 10) (v := ?_) rfl (by kernel_rfl) (by kernel_rfl) (by kernel_rfl) (fun _ _ _ h => h) (Or.inl ⟨by go_simp, ?_⟩) hH2 ?_
        rotate_left
        · intro w' hSw
          go_simp
          try with_reducible rfl
        simp only [Act.put, List.getElem_toArray, List.getElem_cons_zero, List.getElem_cons_succ, List.setIfInBounds_toArray, List.set_cons_zero, List.set_cons_succ]
        refine wpAnyH_done (by kernel_rfl) ?_ _
        go_wp2_with fail
        go_roundw
        case rel => exact ⟨i + 1, _, pg', rw', by omega, by go_num, rfl, HK7.out, putL_len HMX.out.1 HLR.out k, HKK7.out⟩
        case measure => simp [intOf]; omega
    · obtain rfl : i = n := by omega
      have HLB := Lib.hid (show L.length ≤ 100 from by have h1 := HLR.out; have h2 := HMX.out.2; omega)
      have HPC := Lib.hid (keepPCs_any B kb mx L pg rw_ wr HKR.out (by have := HLB.out; omega))
      go_wp2_with fail
      refine (HPC.out).mono ?_
      rintro e w3 ⟨v3, rfl, ho3, hk3⟩
      obtain ⟨A3, c3, hv3, _⟩ := id ho3
      obtain ⟨n3, hn3⟩ : ∃ x, (L.map K4.pc).length = x := ⟨_, rfl⟩
      rw [hn3] at hv3
      subst hv3
      have HN3 := Lib.hid (show L.length = n3 from by rw [← hn3, List.length_map])
      have HK3 := Lib.hid (HKR.out.quiet hk3)
      have HKK3 := Lib.hid (HKK.out.trans hk3 (fun _ _ h => h))
      have HPG := Lib.hid (keepPages_any B kb mx L pg rw_ w3 HK3.out HLB.out)
      clear ho3 hk3 hn3
      go_wp2_with fail
      refine (HPG.out).mono ?_
      rintro e w4 ⟨v4, rfl, ho4, hk4⟩
      obtain ⟨A4, c4, hv4, _⟩ := id ho4
      obtain ⟨P, hP⟩ : ∃ x, uniqI (L.flatMap pg) = x := ⟨_, rfl⟩
      rw [hP] at hv4 ho4
      have HPE := Lib.hid hP
      obtain ⟨pn, hpn⟩ : ∃ x, P.length = x := ⟨_, rfl⟩
      rw [hpn] at hv4
      subst hv4
      have HPN := Lib.hid hpn
      have HO4 := Lib.hid ho4
      have HK4 := Lib.hid (HK3.out.quiet hk4)
      have HKK4 := Lib.hid (HKK3.out.trans hk4 (fun _ _ h => h))
      have HDR := Lib.hid (keepDrop_any B kb mx L pg rw_ page w4 HK4.out (by have := HLB.out; omega))
      clear ho4 hk4 hpn hP
      go_wp2_with fail
      refine (HDR.out).mono ?_
      rintro e w5 ⟨v5, rfl, ho5, hK5, hk5⟩
      obtain ⟨A5, c5, hv5, _⟩ := id ho5
      obtain ⟨n5, hn5⟩ : ∃ x, ((L.filter fun k => (pg k).contains page).map K4.pc).length = x := ⟨_, rfl⟩
      rw [hn5] at hv5
      subst hv5
      have HN5 := Lib.hid (show (L.filter fun k => (pg k).contains page).length = n5 from by rw [← hn5, List.length_map])
      have HK5 := Lib.hid hK5
      have HKK5 := Lib.hid (KT.below hk5 HKK4.out HBW.out)
      have HO5 := Lib.hid (HO4.out.keep hk5 (fun g cs fz hg => KT.not hg (by decide) (by decide)))
      have HPC5 := Lib.hid (keepPCs_any B kb mx _ pg rw_ w5 HK5.out (Nat.le_trans (List.length_filter_le _ _) (by have := HLB.out; omega)))
      clear ho5 hK5 hk5 hn5
      go_wp2_with fail
      refine (HPC5.out).mono ?_
      rintro e w6 ⟨v6, rfl, ho6, hk6⟩
      obtain ⟨A6, c6, hv6, _⟩ := id ho6
      obtain ⟨n6, hn6⟩ : ∃ x, ((npK (fun k => (pg k).contains page) L).map K4.pc).length = x := ⟨_, rfl⟩
      rw [hn6] at hv6
      subst hv6
      have HN6 := Lib.hid (show (npK (fun k => (pg k).contains page) L).length = n6 from by rw [← hn6, List.length_map])
      have HK6 := Lib.hid (HK5.out.quiet hk6)
      have HKK6 := Lib.hid (HKK5.out.trans hk6 (fun _ _ h => h))
      have HO6 := Lib.hid (HO5.out.keep hk6 (fun _ _ _ _ h => h))
      have HPG6 := Lib.hid (keepPages_any B kb mx _ pg rw_ w6 HK6.out (Nat.le_trans (List.length_filter_le _ _) HLB.out))
      clear ho6 hk6 hn6
      go_wp2_with fail
      refine (HPG6.out).mono ?_
      rintro e w7 ⟨v7, rfl, ho7, hk7⟩
      obtain ⟨A7, c7, hv7, _⟩ := id ho7
      obtain ⟨Q, hQ⟩ : ∃ x, uniqI ((npK (fun k => (pg k).contains page) L).flatMap pg) = x := ⟨_, rfl⟩
      rw [hQ] at hv7 ho7
      have HLEFT := Lib.hid (show ∀ x, x ∈ Q → x ≠ page ∧ x ∈ P from fun x hx => by
        rw [← hQ] at hx
        rw [← HPE.out]
        exact left_is hx)
      obtain ⟨qn, hqn⟩ : ∃ x, Q.length = x := ⟨_, rfl⟩
      rw [hqn] at hv7
      subst hv7
      have HQN := Lib.hid hqn
      have HO7 := Lib.hid ho7
      have HK7 := Lib.hid (HK6.out.quiet hk7)
      have HKK7 := Lib.hid (HKK6.out.trans hk7 (fun _ _ h => h))
      have HP7 := Lib.hid (HO6.out.keep hk7 (fun _ _ _ _ h => h))
      clear ho7 hk7 hqn hQ
      have HSUM := Lib.hid (show n3 = n5 + n6 from by
        rw [← HN3.out, ← HN5.out, ← HN6.out]
        exact npK_split _ _)
      have hn3b : n3 ≤ 100 := by rw [← HN3.out]; exact HLB.out
      have hn5b : n5 + n6 ≤ 100 := by rw [← HSUM.out]; exact hn3b
      have ts : (n3 : Int) = (n5 : Int) + (n6 : Int) := by have := HSUM.out; omega
      have tm : (n5 : Int) + (n6 : Int) ≤ mx := by have h1 := HLR.out; have h2 := HN3.out; omega
      go_upto_region 23 with fail
      clear ts tm hn3b hn5b
      have hqn : qn ≤ 9223372036854775807 := by have := HO7.out.reads.1; have := HO7.out.reads.2.2.1; have := HO7.out.reads.2.1; omega
      have hpn : pn ≤ 9223372036854775807 := by have := HP7.out.reads.1; have := HP7.out.reads.2.2.1; have := HP7.out.reads.2.1; omega
      have HQB := Lib.hid hqn
      have HPB := Lib.hid hpn
      go_wp2_with fail
      go_loopw [6, 18] (fun s6 s18 wr => ∃ i : Nat, i ≤ qn ∧ s18 = .int .i64 i ∧ s6 = .bool false ∧ Keeps (fun _ => False) w7 wr) (fun _ s18 _ => qn - (intOf s18).toNat)
      case atStart => exact ⟨0, by omega, rfl, rfl, Keeps.refl _ _⟩
      case round =>
        obtain ⟨i, hi, rfl, rfl, hkr⟩ := hrel
        have HKI := Lib.hid hkr
        clear hkr
        by_cases hlt : i < qn
        · obtain ⟨qb, qo, rfl, hx⟩ := (HO7.out.keep HKI.out (fun _ _ _ _ h => h)).at hlt
          have HXL := Lib.hid (HLEFT.out _ (getD_memI (l := Q) (i := i) (by rw [HQN.out]; exact hlt)))
          obtain ⟨x, hxx⟩ : ∃ x, Q.getD i 0 = x := ⟨_, rfl⟩
          rw [hxx] at hx HXL
          have HXE := Lib.hid hxx
          clear hxx
          have hi63 : (i : Int) < qn := by omega
          have tx : (x == page) = false := beq_eq_false_iff_ne.2 HXL.out.1
          go_wp2_with fail
          clear hx tx
          go_loopw [19, 20] (fun s19 s20 wi => ∃ j : Nat, j ≤ pn ∧ s20 = .int .i64 j ∧ s19 = .bool ((P.take j).contains x) ∧ Keeps (fun _ => False) w7 wi) (fun _ s20 _ => pn - (intOf s20).toNat)
          case atStart => exact ⟨0, by omega, rfl, rfl, HKI.out⟩
          case round =>
            obtain ⟨j, hj, rfl, rfl, hkj⟩ := hrel
            have HKJ := Lib.hid hkj
            clear hkj
            by_cases hjl : j < pn
            · obtain ⟨pb, po, rfl, hpj⟩ := (HP7.out.keep HKJ.out (fun _ _ _ _ h => h)).at hjl
              obtain ⟨qb2, qo2, e, hx⟩ := (HO7.out.keep HKJ.out (fun _ _ _ _ h => h)).at hlt
              injection e with e
              injection e with e1 e2 _
              subst e1 e2
              rw [HXE.out] at hx
              have HTC := Lib.hid (take_contains P j (by rw [HPN.out]; exact hjl) x)
              obtain ⟨fb, hfb⟩ : ∃ b, (P.take j).contains x = b := ⟨_, rfl⟩
              rw [hfb] at HTC ⊢
              obtain ⟨y, hy⟩ : ∃ y, P.getD j 0 = y := ⟨_, rfl⟩
              rw [hy] at hpj HTC
              clear hfb hy
              have hj63 : (j : Int) < pn := by omega
              by_cases hxy : y = x
              · have tq : (y == x) = true := beq_iff_eq.2 hxy
                have HTT := Lib.hid (show (P.take (j + 1)).contains x = true by rw [HTC.out, tq, Bool.or_true])
                clear hxy
                go_wp2_with fail
                go_quiet (fail)
                go_wp2_with fail
                go_roundw
                case rel => exact ⟨j + 1, by omega, by go_num, congrArg Value.bool HTT.out.symm, HKJ.out.drewN _⟩
                case measure => simp [intOf]; omega
              · have tq : (y == x) = false := beq_eq_false_iff_ne.2 hxy
                have HTT := Lib.hid (show (P.take (j + 1)).contains x = fb by rw [HTC.out, tq, Bool.or_false])
                clear hxy
                go_wp2_with fail
                go_quiet (fail)
                go_wp2_with fail
                go_roundw
                case rel => exact ⟨j + 1, by omega, by go_num, congrArg Value.bool HTT.out.symm, HKJ.out.drewN _⟩
                case measure => simp [intOf]; omega
            · obtain rfl : j = pn := by omega
              rw [show (P.take j).contains x = true from by
                rw [List.take_of_length_le (by rw [HPN.out]; exact Nat.le_refl _)]
                exact List.contains_iff_mem.2 HXL.out.2]
              go_wp2_with fail
              go_roundw
              case rel => exact ⟨i + 1, by omega, by go_num, rfl, HKJ.out⟩
              case measure => simp [intOf]; omega
        · obtain rfl : i = qn := by omega
          have HK8 := Lib.hid (HK7.out.quiet HKI.out)
          have HDR8 := Lib.hid (keepDrop_any B kb mx _ pg rw_ page _ HK8.out (Nat.le_trans (List.length_filter_le _ _) (by have := HLB.out; omega)))
          go_wp2_with fail
          refine (HDR8.out).mono ?_
          rintro e w9 ⟨v9, rfl, ho9, _, hk9⟩
          rw [npK_none_left] at ho9
          obtain ⟨A9, c9, hv9, _⟩ := id ho9
          have hv9 : v9 = .slice A9 0 c9 := hv9
          subst hv9
          have HKK9 := Lib.hid (KT.below hk9 (HKK7.out.trans HKI.out (fun _ _ h => h)) HBW.out)
          clear ho9 hk9
          go_wp2_with fail
          go_ret
          exact ⟨rfl, HKK9.out⟩
end Go.Proofs.YtlmnmncdoiealaaDoor

/- Sent -/
/- What the row's list of errors gives the walks: each variable's cell. -/
namespace Go.Proofs.YtlmnmncdoiealaaDoor
open Go.ChangeShapes Go.WideShapes Go.RowKit
set_option linter.unusedVariables false

theorem Tryd.own : ownKnob Tryd.prog.godebug = none := by kernel_rfl
theorem Tryd.laidOut : laidOutB Tryd.prog = true := by kernel_rfl
theorem Tryd.cells_str : Tryd.prog.cellsOf 9 = 1 := by kernel_rfl
theorem Tryd.cells_es : Tryd.prog.cellsOf 208 = 1 := by kernel_rfl
theorem Tryd.cells_u32 : Tryd.prog.cellsOf 29 = 1 := by kernel_rfl
theorem Tryd.rowES (u : TypeId) (h : Tryd.prog.typeName? 3 u = some "*errors.errorString") : u = 187 :=
  typeName_ptr_named (nm := "errors.errorString") (by kernel_rfl) (by kernel_rfl) (by decide) u h
theorem Tryd.gShape : Tryd.prog.globalNamed "changeling/api.ErrShape" = some 2 := by kernel_rfl
theorem Tryd.gAlign : Tryd.prog.globalNamed "changeling/api.ErrAlign" = some 3 := by kernel_rfl
theorem Tryd.gFar : Tryd.prog.globalNamed "changeling/api.ErrFar" = some 4 := by kernel_rfl
theorem Tryd.tShape : (Tryd.prog.globals[2]?).map (·.type) = some 26 := by kernel_rfl
theorem Tryd.tAlign : (Tryd.prog.globals[3]?).map (·.type) = some 26 := by kernel_rfl
theorem Tryd.tFar : (Tryd.prog.globals[4]?).map (·.type) = some 26 := by kernel_rfl

/-- one listed error: its variable's cell -/
theorem sentinel_cell {n : String} {text : List UInt8} {r : List (String × DataW Unit)} {W : World} {g : Nat}
    (h : laidMet Tryd.prog ((n, .iface "*errors.errorString" (.ptr (.agg [.lit (.string text)]))) :: r) W) (hg : Tryd.prog.globalNamed n = some g) (ht : (Tryd.prog.globals[g]?).map (·.type) = some 26) :
    ∃ a : Addr, W.cell? ⟨g, 0, none⟩ = some (.iface 187 (.pointer (some a))) := by
  obtain ⟨a, s, hv, _⟩ := laid_sentinel h hg ht Tryd.underlying26 Tryd.rowES Tryd.underlying187 Tryd.underlying208 rfl rfl Tryd.underlying9 Tryd.cells_es Tryd.cells_str
  exact ⟨a, by simpa using World.var?_cell hg hv 0⟩

theorem errs3 {W : World} (h : laidMetH Tryd.prog [("changeling/api.ErrShape", Rows.laid_changeling_api_ErrShape), ("changeling/api.ErrAlign", Rows.laid_changeling_api_ErrAlign), ("changeling/api.ErrFar", Rows.laid_changeling_api_ErrFar)] W) : ∃ ea, Errs3 W ea := by
  rw [MakeChecks.laidMetH_plain _ _ _ (by kernel_rfl)] at h
  obtain ⟨a3, h3⟩ := sentinel_cell h Tryd.gShape Tryd.tShape
  obtain ⟨a9, h9⟩ := sentinel_cell h.tail Tryd.gAlign Tryd.tAlign
  obtain ⟨a10, h10⟩ := sentinel_cell h.tail.tail Tryd.gFar Tryd.tFar
  exact ⟨fun c => if c = 3 then a3 else if c = 9 then a9 else a10, h3, h9, h10⟩
end Go.Proofs.YtlmnmncdoiealaaDoor
