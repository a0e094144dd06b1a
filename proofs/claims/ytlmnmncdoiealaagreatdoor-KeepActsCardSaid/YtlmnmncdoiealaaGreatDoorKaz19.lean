import Derived.Test.YtlmnmncdoiealaaGreatDoorKaz17
import Derived.Laws.ResultCell

/- KeepGet -/
/- The walk of keep's Get. -/
namespace Go.Proofs.YtlmnmncdoiealaaGreatDoor
open Go.RowKit Go.Deep
set_option linter.unusedVariables false
set_option linter.unusedSimpArgs false

theorem results_planK {fn : Func} {p u : Tmp} (h : fn.results = #[.cell p 48, .tmp u]) (tmps : Array Value) (w : World) (g : Nat) (pc many : Int) (A : Option Addr) (n cap : Nat) (hp : tmps.getD p undef = .pointer (some ⟨g, 0, none⟩)) (hg : PlanBox w g pc many A n cap) :
    (results fn tmps).run Tryz.prog w = .ok (.tuple #[.agg #[.int .u32 pc, .int .i64 many, .slice A n cap], tmps.getD u undef]) w := by
  rw [results_cell_tmp h, hp]
  have := run_loadVar_row (P := Tryz.prog) w g 48 48 (codeC pc many A n cap) (0, 0) _ hg.blk Tryz.underlying48 rfl size_plan
  simp [asAddr, this]
  rfl
/-- a list written anew, with the entries it had -/
theorem get_close {w3 w7 : World} {B kb : Nat} {mx : Int} {l l' : List K4} {pg : K4 → List Int} {rw : K4 → List (List Ir.Op)} (K : KeepAt w3 B kb mx l pg rw) {A : Option Addr} {n cap : Nat} (hbx : w3.heap[kb]? = some (.cells #[.int .i64 mx, .slice A n cap] 67 (0, 0)))
    (ho : KOwn w3 B l (.slice A n cap)) (hsub : ∀ q ∈ l', q ∈ l) (k : Keeps (fun b => (Value.slice A n cap).ownBlock = some b) w3 w7) {v' : Value} (hu7 : KOwn w7 B l' v') :
    w7.heap[kb]? = some (.cells #[.int .i64 mx, .slice A n cap] 67 (0, 0)) ∧ KeepAt (w7.setCell ⟨kb, 1, none⟩ v') B kb mx l' pg rw ∧ Keeps (fun b => (Value.slice A n cap).ownBlock = some b ∨ b = kb) w3 (w7.setCell ⟨kb, 1, none⟩ v') := by
  have hown : ∀ b cs t fz, w3.heap[b]? = some (.cells cs t fz) → t ≠ 77 → ¬ (Value.slice A n cap).ownBlock = some b := fun b cs t fz hb hne e => by
    obtain ⟨c2, h2⟩ := ho.typed b e
    exact hne (obj_ty hb h2)
  have hbx7 := (k.block kb (Array.getElem?_eq_some_iff.1 hbx).1 (hown _ _ _ _ hbx keep_ne2.2.2.1)).trans hbx
  have hput := KeepAt.putList (v' := v') (pg := pg) (rw := rw) ⟨_, hbx7⟩ K.low hu7 (fun q hq => (K.ents q (hsub q hq)).keep k (fun g cs t fz hg ht => hown g cs t fz hg (ent_ne ht).1))
  exact ⟨hbx7, hput.1, (k.mono (T := fun b => (Value.slice A n cap).ownBlock = some b ∨ b = kb) (fun b _ h => .inl h)).trans hput.2 (fun b _ h => .inr h)⟩
/-- what Get answers -/
def GetIs (B kb : Nat) (mx : Int) (l : List K4) (pg : K4 → List Int) (rw : K4 → List (List Ir.Op)) (pc : Int) (w : World) (e : Ending) (w' : World) : Prop :=
  (∃ i g n, i < l.length ∧ ((l.getD i k40).pc == pc) = true ∧ (∀ j, j < i → ((l.getD j k40).pc == pc) = false) ∧ e = .returned (.tuple #[.agg #[.int .u32 (l.getD i k40).pc, .int .i64 (l.getD i k40).many, .slice (some ⟨g, 0, none⟩) n n], .bool true]) ∧
    RowsOwn w' w.heap.size (.slice (some ⟨g, 0, none⟩) n n) (rw (l.getD i k40)) ∧ KeepAt w' B kb mx (l.eraseIdx i ++ [l.getD i k40]) pg rw ∧ Keeps (KT B w) w w') ∨
  ((∀ j, j < l.length → ((l.getD j k40).pc == pc) = false) ∧ e = .returned (.tuple #[.agg #[.int .u32 0, .int .i64 0, .slice none 0 0], .bool false]) ∧ Keeps (fun _ => False) w w')
set_option maxHeartbeats 8000000 in
set_option maxRecDepth 100000 in
theorem keepGet_any (B kb : Nat) (mx : Int) (l : List K4) (pg : K4 → List Int) (rw : K4 → List (List Ir.Op)) (pc : Int) (w : World) (K : KeepAt w B kb mx l pg rw) (hl : l.length ≤ 100000) :
    Calls Tryz.prog 13 #[.pointer (some ⟨kb, 0, none⟩), .int .u32 pc] w (GetIs B kb mx l pg rw pc w) := by
  have HK := Lib.hid K
  have HLT := Lib.hid K.lt
  have HLN := Lib.hid hl
  have HFD := Lib.hid (fun w1 (k : Keeps (fun _ => False) w w1) => keepFind_any B kb mx l pg rw pc w1 (K.quiet k) hl)
  have HANS := Lib.hid (fun (e : Ending) (w' : World) (h : GetIs B kb mx l pg rw pc w e w') => h)
  have HPB := Lib.hid (PlanBox.new w 0 0 none 0 0)
  have HA := Lib.hid ((Keeps.refl (fun _ => False) w).alloc (.cells #[.int .u32 0, .int .i64 0, .slice none 0 0] 48))
  clear K hl
  go_enter Tryz.func13, Tryz.ntmps13
  go_upto_region 1 with fail
  generalize w.alloc _ = w1 at *
  obtain ⟨rb, hrb⟩ : ∃ b, w.heap.size = b := ⟨_, rfl⟩
  have HRBE := Lib.hid hrb
  rw [hrb] at HPB ⊢
  clear hrb
  go_wp2_with fail
  refine (HFD.out w1 HA.out).mono ?_
  rintro e w2 ⟨(⟨i, hi, h1, h2, rfl⟩ | ⟨hno, rfl⟩), hk2⟩
  · have HF := Lib.hid (And.intro hi (And.intro h1 h2))
    have HK2 := Lib.hid (HA.out.trans hk2 (fun _ _ h => h))
    have HPB2 := Lib.hid (HPB.out.keep hk2 (fun h => h))
    have HKP2 := Lib.hid (HK.out.quiet HK2.out)
    have t1 : decide ((i : Int) < 0) = false := decide_eq_false (by omega)
    clear h1 h2 hk2
    obtain ⟨v, hb, hko⟩ := HKP2.out.box
    obtain ⟨A, cap, hv, _⟩ := id hko
    obtain ⟨n, hn⟩ : ∃ n, l.length = n := ⟨_, rfl⟩
    rw [hn] at hv
    subst hv
    have HBX2 := Lib.hid hb
    have HKO2 := Lib.hid hko
    have HLE := Lib.hid hn
    have hin : i < n := by omega
    have hnb : n ≤ 100000 := by have := HLN.out; omega
    have HIN := Lib.hid (And.intro hin hnb)
    clear hb hko hn hi
    have c0 : w2.cell? ⟨kb, 1, none⟩ = some (.slice A n cap) := cell_atK HBX2.out 1
    obtain ⟨g, go, cg, hvg, hgo, hcell⟩ := HKO2.out.get (i := i) HF.out.1
    rw [HLE.out] at hvg
    injection hvg with e1 e2 e3
    subst e1 e3 hgo
    have hi63 : (i : Int) < n := by omega
    have HME := Lib.hid (getD_memK HF.out.1)
    obtain ⟨k, hk⟩ : ∃ k, l.getD i k40 = k := ⟨_, rfl⟩
    rw [hk] at hcell HME
    have HKE := Lib.hid hk
    clear hk
    have e0 : w2.cell? ⟨g, 0 + i * 4, none⟩ = some (.int .u32 k.pc) := hcell 0 _ (by omega) rfl
    have e1 : w2.cell? ⟨g, 0 + i * 4 + 1, none⟩ = some (.int .i64 k.many) := hcell 1 _ (by omega) rfl
    have e2 : w2.cell? ⟨g, 0 + i * 4 + 2, none⟩ = some (.slice k.A k.n k.c) := hcell 2 _ (by omega) rfl
    have e3 : w2.cell? ⟨g, 0 + i * 4 + 3, none⟩ = some (.slice k.P k.pn k.pcap) := hcell 3 _ (by omega) rfl
    rw [Nat.zero_add] at e0 e1 e2 e3
    have HXB := Lib.hid (blk_alloc_new w2 (.cells #[.int .u32 k.pc, .int .i64 k.many, .slice k.A k.n k.c, .slice k.P k.pn k.pcap] 77))
    have HXK := Lib.hid ((Keeps.refl (fun _ => False) w2).alloc (.cells #[.int .u32 k.pc, .int .i64 k.many, .slice k.A k.n k.c, .slice k.P k.pn k.pcap] 77))
    have HXG := Lib.hid (show (w2.heap.size ≠ g ∧ w2.heap.size ≠ kb) ∧ w.heap.size ≤ w2.heap.size from ⟨⟨fun e => by
      have h1 := (HKO2.out.low g rfl).2
      omega, fun e => by
      have h1 := HKP2.out.lt
      omega⟩, HK2.out.size⟩)
    clear hcell
    go_upto_region 5 with fail
    clear c0 e0 e1 e2 e3 t1
    have HK3 := Lib.hid (HK2.out.trans HXK.out (fun _ _ h => h))
    have HPB3 := Lib.hid (HPB2.out.keep HXK.out (fun h => h))
    have HKP3 := Lib.hid (HKP2.out.quiet HXK.out)
    have HBX3 := Lib.hid ((HXK.out.block kb (Array.getElem?_eq_some_iff.1 HBX2.out).1 (fun h => h)).trans HBX2.out)
    have HKO3 := Lib.hid (HKO2.out.quiet HXK.out)
    generalize w2.alloc _ = w3 at *
    generalize w2.heap.size = xb at *
    have c4 : w3.cell? ⟨kb, 1, none⟩ = some (.slice (some ⟨g, 0, none⟩) n cap) := cell_atK HBX3.out 1
    have x0 : w3.cell? ⟨xb, 0, none⟩ = some (.int .u32 k.pc) := cell_atK HXB.out 0
    have x1 : w3.cell? ⟨xb, 1, none⟩ = some (.int .i64 k.many) := cell_atK HXB.out 1
    have x2 : w3.cell? ⟨xb, 2, none⟩ = some (.slice k.A k.n k.c) := cell_atK HXB.out 2
    have x3 : w3.cell? ⟨xb, 3, none⟩ = some (.slice k.P k.pn k.pcap) := cell_atK HXB.out 3
    have HGL := Lib.hid (show g < w3.heap.size from (HKO3.out.low g rfl).2)
    have HLT3 := Lib.hid (show kb < w3.heap.size from HKP3.out.lt)
    have HNGK := Lib.hid (show ¬ (Value.slice (some ⟨g, 0, none⟩) n cap).ownBlock = some kb from fun e => by
      obtain ⟨cs, h⟩ := HKO3.out.typed kb e
      exact keep_ne2.2.2.1 (obj_ty HBX3.out h))
    have HXN := Lib.hid (show ¬ ((Value.slice (some ⟨g, 0, none⟩) n cap).ownBlock = some xb ∨ xb = kb) from fun h => h.elim (fun e => by
      injection e with e
      exact HXG.out.1.1 e.symm) HXG.out.1.2)
    have HKQ := Lib.hid ((Keeps.refl (fun b => (Value.slice (some ⟨g, 0, none⟩) n cap).ownBlock = some b) w3).drew)
    have HNL := Lib.hid (show (l.eraseIdx i).length ≤ 1000000 from Nat.le_trans (List.length_eraseIdx_le _ _) (by have := HLN.out; omega))
    have HWR := Lib.hid (show IntKind.i64.wrap ((i : Int) + 1) = ((i + 1 : Nat) : Int) from by
      have h1 := HIN.out.1
      have h2 := HIN.out.2
      rw [IntKind.wrap_i64]
      omega)
    have HDEL := Lib.hid (fun w' (q : Keeps (fun _ => False) w3 w') => show Calls Tryz.prog 33 #[.slice (some ⟨g, 0, none⟩) n cap, .int .i64 (i : Int), .int .i64 (IntKind.i64.wrap ((i : Int) + 1))] w' (fun e w5 => e = .returned (.slice (some ⟨g, 0, none⟩) (n - 1) cap) ∧ KOwn w5 B (l.eraseIdx i) (.slice (some ⟨g, 0, none⟩) (n - 1) cap) ∧ Keeps (fun b => (Value.slice (some ⟨g, 0, none⟩) n cap).ownBlock = some b) w' w5) from by
      rw [HWR.out]
      exact ((deleteFirstK B kb mx l pg rw (some ⟨g, 0, none⟩) n cap w' (HKP3.out.quiet q) ((q.block kb HLT3.out (fun h => h)).trans HBX3.out) (HKO3.out.quiet q) i HF.out.1 (by have := HLN.out; omega)).2).mono (fun e w5 h => ⟨h.1, h.2.1, h.2.2.2.2⟩))
    have HCLOSE := Lib.hid (fun (w7 : World) (v' : Value) (q : Keeps (fun b => (Value.slice (some ⟨g, 0, none⟩) n cap).ownBlock = some b) w3 w7) (hu7 : KOwn w7 B (l.eraseIdx i ++ [k]) v') => get_close HKP3.out HBX3.out HKO3.out (fun q hq => by
      rcases List.mem_append.1 hq with h | h
      · exact List.mem_of_mem_eraseIdx h
      · rw [List.mem_singleton.1 h]
        exact HME.out) q hu7)
    go_cut [4, 7] (fun s4 s7 wx => s4 = .pointer (some ⟨rb, 0, none⟩) ∧ s7 = .pointer (some ⟨xb, 0, none⟩) ∧ KeepAt wx B kb mx (l.eraseIdx i ++ [k]) pg rw ∧ Keeps (fun b => (Value.slice (some ⟨g, 0, none⟩) n cap).ownBlock = some b ∨ b = kb) w3 wx)
    case first =>
      refine wp_region_held_drew (S := fun w' => Keeps (fun b => (Value.slice (some ⟨g, 0, none⟩) n cap).ownBlock = some b ∨ b = kb) w3 w') (by kernel_rfl) (Keeps.refl _ w3).drew (fun hH0 => ?_)
      refine wpAnyH_take (i := 0) (v := ?_) rfl (by kernel_rfl) (by kernel_rfl) (by kernel_rfl) (fun _ _ _ h => h) (Or.inl ⟨by go_simp, ?_⟩) hH0 ?_
      rotate_left
      · intro w' hSw
        go_simp
        try with_reducible rfl
      simp only [Act.put, List.setIfInBounds_toArray, List.set_cons_zero, List.set_cons_succ]
      refine wpAnyH_take (i := 1) (v := ?_) rfl (by kernel_rfl) (by kernel_rfl) (by kernel_rfl) (fun _ _ _ h => h) (Or.inl ⟨by go_simp, ?_⟩) hH0 ?_
      rotate_left
      · intro w' hSw
        go_simp
        try with_reducible rfl
      simp only [Act.put, List.setIfInBounds_toArray, List.set_cons_zero, List.set_cons_succ]
      refine wpAnyH_take (i := 2) (v := ?_) rfl (by kernel_rfl) (by kernel_rfl) (by kernel_rfl) (fun _ _ _ h => h) (Or.inl ⟨by go_simp, ?_⟩) hH0 ?_
      rotate_left
      · intro w' hSw
        go_simp
        try with_reducible rfl
      simp only [Act.put, List.setIfInBounds_toArray, List.set_cons_zero, List.set_cons_succ]
      refine wpAnyH_take (i := 3) (v := ?_) rfl (by kernel_rfl) (by kernel_rfl) (by kernel_rfl) (fun _ _ _ h => h) (Or.inl ⟨by go_simp, ?_⟩) hH0 ?_
      rotate_left
      · intro w' hSw
        go_simp
        try with_reducible rfl
      simp only [Act.put, List.setIfInBounds_toArray, List.set_cons_zero, List.set_cons_succ]
      refine wpAnyH_take (i := 5) (v := ?_) rfl (by kernel_rfl) (by kernel_rfl) (by kernel_rfl) (fun _ _ _ h => h) (Or.inl ⟨by go_simp, ?_⟩) hH0 ?_
      rotate_left
      · intro w' hSw
        go_simp
        try with_reducible rfl
      simp only [Act.put, List.setIfInBounds_toArray, List.set_cons_zero, List.set_cons_succ]
      refine wpAnyH_take (i := 6) (v := ?_) rfl (by kernel_rfl) (by kernel_rfl) (by kernel_rfl) (fun _ _ _ h => h) (Or.inl ⟨by go_simp, ?_⟩) hH0 ?_
      rotate_left
      · intro w' hSw
        go_simp
        try with_reducible rfl
      simp only [Act.put, List.setIfInBounds_toArray, List.set_cons_zero, List.set_cons_succ]
      refine wpAnyH_take (i := 7) (v := ?_) rfl (by kernel_rfl) (by kernel_rfl) (by kernel_rfl) (fun _ _ _ h => h) (Or.inl ⟨by go_simp, ?_⟩) hH0 ?_
      rotate_left
      · intro w' hSw
        go_simp
        try with_reducible rfl
      simp only [Act.put, List.setIfInBounds_toArray, List.set_cons_zero, List.set_cons_succ]
      refine wpAnyH_take (i := 9) (v := ?_) rfl (by kernel_rfl) (by kernel_rfl) (by kernel_rfl) (fun _ _ _ h => h) (Or.inl ⟨by go_simp, ?_⟩) hH0 ?_
      rotate_left
      · intro w' hSw
        have q0 := Keeps.cell' hSw x0 HXN.out
        have q1 := Keeps.cell' hSw x1 HXN.out
        have q2 := Keeps.cell' hSw x2 HXN.out
        have q3 := Keeps.cell' hSw x3 HXN.out
        go_simp
        try with_reducible rfl
      simp only [Act.put, List.setIfInBounds_toArray, List.set_cons_zero, List.set_cons_succ]
      refine wpAnyH_ready (rs := [4, 10]) (by kernel_rfl) (by simp) ?_
      refine AllReadyH.cons rfl (fun K hK => ?_) (AllReadyH.cons rfl (fun K hK => ?_) AllReadyH.nil)
      · have c4x := (HKQ.out).cell' c4 HNGK.out
        go_simp
        refine hK.out _ _ hH0 (fun _ => ?_)
        clear hK K
        try simp only [Act.put, List.setIfInBounds_toArray, List.set_cons_zero, List.set_cons_succ]
        clear c4x
        refine wpAnyH_ready (rs := [8, 10]) (by kernel_rfl) (by simp) ?_
        refine AllReadyH.cons rfl (fun K hK => ?_) (AllReadyH.cons rfl (fun K hK => ?_) AllReadyH.nil)
        · go_simp
          refine (HDEL.out _ (show Keeps (fun _ => False) w3 (w3.drew) from (Keeps.refl _ w3).drew)).mono ?_
          rintro e w5 ⟨rfl, hod, hkd⟩
          go_wp2_with fail
          have hD1 := hH0.trans (hkd.mono (T := fun b => (Value.slice (some ⟨g, 0, none⟩) n cap).ownBlock = some b ∨ b = kb) (fun b _ h => .inl h)) (fun b _ h => h)
          have HKD := Lib.hid ((HKQ.out).trans hkd (fun b _ h => h))
          refine hK.out _ _ hD1 (fun _ => ?_)
          clear hK K
          try simp only [Act.put, List.setIfInBounds_toArray, List.set_cons_zero, List.set_cons_succ]
          refine wpAnyH_ready (rs := [10]) (by kernel_rfl) (by simp) ?_
          refine AllReadyH.cons rfl (fun K hK => ?_) AllReadyH.nil
          go_simp
          have hA2 := hD1.alloc (.cells #[.int .u32 k.pc, .int .i64 k.many, .slice k.A k.n k.c, .slice k.P k.pn k.pcap] 77)
          have HCN := Lib.hid (fun j u hj => cells_new (w5) #[.int .u32 k.pc, .int .i64 k.many, .slice k.A k.n k.c, .slice k.P k.pn k.pcap].toList 77 j u hj)
          have HKA := Lib.hid ((HKD.out).alloc (.cells #[.int .u32 k.pc, .int .i64 k.many, .slice k.A k.n k.c, .slice k.P k.pn k.pcap] 77))
          have HNB := Lib.hid (show g < (w5).heap.size from Nat.lt_of_lt_of_le HGL.out (HKD.out).size)
          refine hK.out _ _ hA2 (fun _ => ?_)
          clear hK K
          try simp only [Act.put, List.setIfInBounds_toArray, List.set_cons_zero, List.set_cons_succ]
          have HODA := Lib.hid (hod.quiet ((Keeps.refl (fun _ => False) w5).alloc (.cells #[.int .u32 k.pc, .int .i64 k.many, .slice k.A k.n k.c, .slice k.P k.pn k.pcap] 77)))
          have HBB := Lib.hid (show B ≤ ((w5).alloc (.cells #[.int .u32 k.pc, .int .i64 k.many, .slice k.A k.n k.c, .slice k.P k.pn k.pcap] 77)).heap.size from Nat.le_trans (Nat.le_trans HK.out.low (Nat.le_of_lt HLT3.out)) (HKA.out).size)
          refine wpAnyH_ready (rs := [11]) (by kernel_rfl) (by simp) ?_
          refine AllReadyH.cons rfl (fun K hK => ?_) AllReadyH.nil
          refine step_append_k rfl _ _ rfl B (l.eraseIdx i) (.slice (some ⟨g, 0, none⟩) (n - 1) cap) (by rfl) HODA.out (w5).heap.size k (by rfl) HCN.out HNL.out HBB.out ?_
          intro v' w7 hu7 hk7
          obtain ⟨A9, c9, hv9, _⟩ := id hu7
          obtain ⟨n9, hn9⟩ : ∃ x, (l.eraseIdx i ++ [k]).length = x := ⟨_, rfl⟩
          rw [hn9] at hv9
          subst hv9
          clear hn9
          have hH4 := hA2.trans (hk7.mono (T := fun b => (Value.slice (some ⟨g, 0, none⟩) n cap).ownBlock = some b ∨ b = kb) (fun b _ h => .inl h)) (fun b _ h => h)
          refine hK.out _ _ hH4 (fun _ => ?_)
          clear hK K
          try simp only [Act.put, List.setIfInBounds_toArray, List.set_cons_zero, List.set_cons_succ]
          have HC := Lib.hid (HCLOSE.out w7 (.slice A9 n9 c9) ((HKA.out).trans hk7 (fun b _ h => h)) hu7)
          refine wpAnyH_take (i := 12) (v := ?_) rfl (by kernel_rfl) (by kernel_rfl) (by kernel_rfl) (fun _ _ _ h => h) (Or.inl ⟨by go_simp, ?_⟩) hH4 ?_
          rotate_left
          · intro w' hSw
            go_simp
            try with_reducible rfl
          simp only [Act.put, List.setIfInBounds_toArray, List.set_cons_zero, List.set_cons_succ]
          refine wpAnyH_take (i := 13) (v := ?_) rfl (by kernel_rfl) (by kernel_rfl) (by kernel_rfl) (fun _ _ _ h => h) (Or.inl ⟨by go_simp, ?_⟩) hH4 ?_
          rotate_left
          · intro w' hSw
            go_simp
            try with_reducible rfl
          simp only [Act.put, List.setIfInBounds_toArray, List.set_cons_zero, List.set_cons_succ]
          refine wpAnyH_ready (rs := [14]) (by kernel_rfl) (by simp) ?_
          refine AllReadyH.cons rfl (fun K hK => ?_) AllReadyH.nil
          have c7 : w7.cell? ⟨kb, 1, none⟩ = some (.slice (some ⟨g, 0, none⟩) n cap) := cell_atK HC.out.1 1
          have f7 : w7.frozen? ⟨kb, 1, none⟩ = false := frozen_of_block HC.out.1 1
          go_simp
          have hH5 := hH4.trans ((Keeps.one w7 kb 1 (.slice A9 n9 c9)).mono (T := fun b => (Value.slice (some ⟨g, 0, none⟩) n cap).ownBlock = some b ∨ b = kb) (fun b _ h => .inr h)) (fun b _ h => h)
          refine hK.out _ _ hH5 (fun _ => ?_)
          clear hK K
          try simp only [Act.put, List.setIfInBounds_toArray, List.set_cons_zero, List.set_cons_succ]
          refine wpAnyH_done (by kernel_rfl) ?_ _
          have hfin := HC.out.2
          generalize World.setCell w7 _ _ = w8 at *
          go_wp2_with fail
          go_meet
          exact ⟨rfl, rfl, hfin.1, hfin.2⟩
        · go_simp
          have hA1 := hH0.alloc (.cells #[.int .u32 k.pc, .int .i64 k.many, .slice k.A k.n k.c, .slice k.P k.pn k.pcap] 77)
          have HCN := Lib.hid (fun j u hj => cells_new (w3.drew) #[.int .u32 k.pc, .int .i64 k.many, .slice k.A k.n k.c, .slice k.P k.pn k.pcap].toList 77 j u hj)
          have HKA := Lib.hid ((HKQ.out).alloc (.cells #[.int .u32 k.pc, .int .i64 k.many, .slice k.A k.n k.c, .slice k.P k.pn k.pcap] 77))
          have HNB := Lib.hid (show g < (w3.drew).heap.size from Nat.lt_of_lt_of_le HGL.out (HKQ.out).size)
          refine hK.out _ _ hA1 (fun _ => ?_)
          clear hK K
          try simp only [Act.put, List.setIfInBounds_toArray, List.set_cons_zero, List.set_cons_succ]
          refine wpAnyH_ready (rs := [8]) (by kernel_rfl) (by simp) ?_
          refine AllReadyH.cons rfl (fun K hK => ?_) AllReadyH.nil
          go_simp
          refine (HDEL.out _ (show Keeps (fun _ => False) w3 ((w3.drew).alloc (.cells #[.int .u32 k.pc, .int .i64 k.many, .slice k.A k.n k.c, .slice k.P k.pn k.pcap] 77)) from ((Keeps.refl _ w3).drew).alloc (.cells #[.int .u32 k.pc, .int .i64 k.many, .slice k.A k.n k.c, .slice k.P k.pn k.pcap] 77))).mono ?_
          rintro e w5 ⟨rfl, hod, hkd⟩
          go_wp2_with fail
          have hD2 := hA1.trans (hkd.mono (T := fun b => (Value.slice (some ⟨g, 0, none⟩) n cap).ownBlock = some b ∨ b = kb) (fun b _ h => .inl h)) (fun b _ h => h)
          have HKD := Lib.hid ((HKA.out).trans hkd (fun b _ h => h))
          have HCN2 := Lib.hid (show ∀ j u, #[.int .u32 k.pc, .int .i64 k.many, .slice k.A k.n k.c, .slice k.P k.pn k.pcap].toList[j]? = some u → w5.cell? ((⟨(w3.drew).heap.size, 0, none⟩ : Addr).add j) = some u from fun j u hj => by
            have := HCN.out j u hj
            rw [Addr.add_lit] at this ⊢
            exact hkd.cell' this (fun e => by
              have e : g = (w3.drew).heap.size := Option.some.inj e
              have := HNB.out
              omega))
          refine hK.out _ _ hD2 (fun _ => ?_)
          clear hK K
          try simp only [Act.put, List.setIfInBounds_toArray, List.set_cons_zero, List.set_cons_succ]
          have HODA := Lib.hid hod
          have HBB := Lib.hid (show B ≤ (w5).heap.size from Nat.le_trans (Nat.le_trans HK.out.low (Nat.le_of_lt HLT3.out)) (HKD.out).size)
          refine wpAnyH_ready (rs := [11]) (by kernel_rfl) (by simp) ?_
          refine AllReadyH.cons rfl (fun K hK => ?_) AllReadyH.nil
          refine step_append_k rfl _ _ rfl B (l.eraseIdx i) (.slice (some ⟨g, 0, none⟩) (n - 1) cap) (by rfl) HODA.out (w3.drew).heap.size k (by rfl) HCN2.out HNL.out HBB.out ?_
          intro v' w7 hu7 hk7
          obtain ⟨A9, c9, hv9, _⟩ := id hu7
          obtain ⟨n9, hn9⟩ : ∃ x, (l.eraseIdx i ++ [k]).length = x := ⟨_, rfl⟩
          rw [hn9] at hv9
          subst hv9
          clear hn9
          have hH4 := hD2.trans (hk7.mono (T := fun b => (Value.slice (some ⟨g, 0, none⟩) n cap).ownBlock = some b ∨ b = kb) (fun b _ h => .inl h)) (fun b _ h => h)
          refine hK.out _ _ hH4 (fun _ => ?_)
          clear hK K
          try simp only [Act.put, List.setIfInBounds_toArray, List.set_cons_zero, List.set_cons_succ]
          have HC := Lib.hid (HCLOSE.out w7 (.slice A9 n9 c9) ((HKD.out).trans hk7 (fun b _ h => h)) hu7)
          refine wpAnyH_take (i := 12) (v := ?_) rfl (by kernel_rfl) (by kernel_rfl) (by kernel_rfl) (fun _ _ _ h => h) (Or.inl ⟨by go_simp, ?_⟩) hH4 ?_
          rotate_left
          · intro w' hSw
            go_simp
            try with_reducible rfl
          simp only [Act.put, List.setIfInBounds_toArray, List.set_cons_zero, List.set_cons_succ]
          refine wpAnyH_take (i := 13) (v := ?_) rfl (by kernel_rfl) (by kernel_rfl) (by kernel_rfl) (fun _ _ _ h => h) (Or.inl ⟨by go_simp, ?_⟩) hH4 ?_
          rotate_left
          · intro w' hSw
            go_simp
            try with_reducible rfl
          simp only [Act.put, List.setIfInBounds_toArray, List.set_cons_zero, List.set_cons_succ]
          refine wpAnyH_ready (rs := [14]) (by kernel_rfl) (by simp) ?_
          refine AllReadyH.cons rfl (fun K hK => ?_) AllReadyH.nil
          have c7 : w7.cell? ⟨kb, 1, none⟩ = some (.slice (some ⟨g, 0, none⟩) n cap) := cell_atK HC.out.1 1
          have f7 : w7.frozen? ⟨kb, 1, none⟩ = false := frozen_of_block HC.out.1 1
          go_simp
          have hH5 := hH4.trans ((Keeps.one w7 kb 1 (.slice A9 n9 c9)).mono (T := fun b => (Value.slice (some ⟨g, 0, none⟩) n cap).ownBlock = some b ∨ b = kb) (fun b _ h => .inr h)) (fun b _ h => h)
          refine hK.out _ _ hH5 (fun _ => ?_)
          clear hK K
          try simp only [Act.put, List.setIfInBounds_toArray, List.set_cons_zero, List.set_cons_succ]
          refine wpAnyH_done (by kernel_rfl) ?_ _
          have hfin := HC.out.2
          generalize World.setCell w7 _ _ = w8 at *
          go_wp2_with fail
          go_meet
          exact ⟨rfl, rfl, hfin.1, hfin.2⟩
      · go_simp
        have hA1 := hH0.alloc (.cells #[.int .u32 k.pc, .int .i64 k.many, .slice k.A k.n k.c, .slice k.P k.pn k.pcap] 77)
        have HCN := Lib.hid (fun j u hj => cells_new (w3.drew) #[.int .u32 k.pc, .int .i64 k.many, .slice k.A k.n k.c, .slice k.P k.pn k.pcap].toList 77 j u hj)
        have HKA := Lib.hid ((HKQ.out).alloc (.cells #[.int .u32 k.pc, .int .i64 k.many, .slice k.A k.n k.c, .slice k.P k.pn k.pcap] 77))
        have HNB := Lib.hid (show g < (w3.drew).heap.size from Nat.lt_of_lt_of_le HGL.out (HKQ.out).size)
        refine hK.out _ _ hA1 (fun _ => ?_)
        clear hK K
        try simp only [Act.put, List.setIfInBounds_toArray, List.set_cons_zero, List.set_cons_succ]
        refine wpAnyH_ready (rs := [4]) (by kernel_rfl) (by simp) ?_
        refine AllReadyH.cons rfl (fun K hK => ?_) AllReadyH.nil
        have c4x := (((Keeps.refl (fun _ => False) w3).alloc (.cells #[.int .u32 k.pc, .int .i64 k.many, .slice k.A k.n k.c, .slice k.P k.pn k.pcap] 77)).drew).cell' c4 (fun h => h)
        go_simp
        refine hK.out _ _ hA1 (fun _ => ?_)
        clear hK K
        try simp only [Act.put, List.setIfInBounds_toArray, List.set_cons_zero, List.set_cons_succ]
        clear c4x
        refine wpAnyH_ready (rs := [8]) (by kernel_rfl) (by simp) ?_
        refine AllReadyH.cons rfl (fun K hK => ?_) AllReadyH.nil
        go_simp
        refine (HDEL.out _ (show Keeps (fun _ => False) w3 ((w3.drew).alloc (.cells #[.int .u32 k.pc, .int .i64 k.many, .slice k.A k.n k.c, .slice k.P k.pn k.pcap] 77)) from ((Keeps.refl _ w3).drew).alloc (.cells #[.int .u32 k.pc, .int .i64 k.many, .slice k.A k.n k.c, .slice k.P k.pn k.pcap] 77))).mono ?_
        rintro e w5 ⟨rfl, hod, hkd⟩
        go_wp2_with fail
        have hD2 := hA1.trans (hkd.mono (T := fun b => (Value.slice (some ⟨g, 0, none⟩) n cap).ownBlock = some b ∨ b = kb) (fun b _ h => .inl h)) (fun b _ h => h)
        have HKD := Lib.hid ((HKA.out).trans hkd (fun b _ h => h))
        have HCN2 := Lib.hid (show ∀ j u, #[.int .u32 k.pc, .int .i64 k.many, .slice k.A k.n k.c, .slice k.P k.pn k.pcap].toList[j]? = some u → w5.cell? ((⟨(w3.drew).heap.size, 0, none⟩ : Addr).add j) = some u from fun j u hj => by
          have := HCN.out j u hj
          rw [Addr.add_lit] at this ⊢
          exact hkd.cell' this (fun e => by
            have e : g = (w3.drew).heap.size := Option.some.inj e
            have := HNB.out
            omega))
        refine hK.out _ _ hD2 (fun _ => ?_)
        clear hK K
        try simp only [Act.put, List.setIfInBounds_toArray, List.set_cons_zero, List.set_cons_succ]
        have HODA := Lib.hid hod
        have HBB := Lib.hid (show B ≤ (w5).heap.size from Nat.le_trans (Nat.le_trans HK.out.low (Nat.le_of_lt HLT3.out)) (HKD.out).size)
        refine wpAnyH_ready (rs := [11]) (by kernel_rfl) (by simp) ?_
        refine AllReadyH.cons rfl (fun K hK => ?_) AllReadyH.nil
        refine step_append_k rfl _ _ rfl B (l.eraseIdx i) (.slice (some ⟨g, 0, none⟩) (n - 1) cap) (by rfl) HODA.out (w3.drew).heap.size k (by rfl) HCN2.out HNL.out HBB.out ?_
        intro v' w7 hu7 hk7
        obtain ⟨A9, c9, hv9, _⟩ := id hu7
        obtain ⟨n9, hn9⟩ : ∃ x, (l.eraseIdx i ++ [k]).length = x := ⟨_, rfl⟩
        rw [hn9] at hv9
        subst hv9
        clear hn9
        have hH4 := hD2.trans (hk7.mono (T := fun b => (Value.slice (some ⟨g, 0, none⟩) n cap).ownBlock = some b ∨ b = kb) (fun b _ h => .inl h)) (fun b _ h => h)
        refine hK.out _ _ hH4 (fun _ => ?_)
        clear hK K
        try simp only [Act.put, List.setIfInBounds_toArray, List.set_cons_zero, List.set_cons_succ]
        have HC := Lib.hid (HCLOSE.out w7 (.slice A9 n9 c9) ((HKD.out).trans hk7 (fun b _ h => h)) hu7)
        refine wpAnyH_take (i := 12) (v := ?_) rfl (by kernel_rfl) (by kernel_rfl) (by kernel_rfl) (fun _ _ _ h => h) (Or.inl ⟨by go_simp, ?_⟩) hH4 ?_
        rotate_left
        · intro w' hSw
          go_simp
          try with_reducible rfl
        simp only [Act.put, List.setIfInBounds_toArray, List.set_cons_zero, List.set_cons_succ]
        refine wpAnyH_take (i := 13) (v := ?_) rfl (by kernel_rfl) (by kernel_rfl) (by kernel_rfl) (fun _ _ _ h => h) (Or.inl ⟨by go_simp, ?_⟩) hH4 ?_
        rotate_left
        · intro w' hSw
          go_simp
          try with_reducible rfl
        simp only [Act.put, List.setIfInBounds_toArray, List.set_cons_zero, List.set_cons_succ]
        refine wpAnyH_ready (rs := [14]) (by kernel_rfl) (by simp) ?_
        refine AllReadyH.cons rfl (fun K hK => ?_) AllReadyH.nil
        have c7 : w7.cell? ⟨kb, 1, none⟩ = some (.slice (some ⟨g, 0, none⟩) n cap) := cell_atK HC.out.1 1
        have f7 : w7.frozen? ⟨kb, 1, none⟩ = false := frozen_of_block HC.out.1 1
        go_simp
        have hH5 := hH4.trans ((Keeps.one w7 kb 1 (.slice A9 n9 c9)).mono (T := fun b => (Value.slice (some ⟨g, 0, none⟩) n cap).ownBlock = some b ∨ b = kb) (fun b _ h => .inr h)) (fun b _ h => h)
        refine hK.out _ _ hH5 (fun _ => ?_)
        clear hK K
        try simp only [Act.put, List.setIfInBounds_toArray, List.set_cons_zero, List.set_cons_succ]
        refine wpAnyH_done (by kernel_rfl) ?_ _
        have hfin := HC.out.2
        generalize World.setCell w7 _ _ = w8 at *
        go_wp2_with fail
        go_meet
        exact ⟨rfl, rfl, hfin.1, hfin.2⟩
    case rest =>
      obtain ⟨rfl, rfl, hKc, hkc⟩ := hcut
      have HKC := Lib.hid hKc
      have HXC := Lib.hid ((hkc.block xb (Array.getElem?_eq_some_iff.1 HXB.out).1 HXN.out).trans HXB.out)
      have HNR := Lib.hid (show ¬ ((Value.slice (some ⟨g, 0, none⟩) n cap).ownBlock = some rb ∨ rb = kb) from fun h => h.elim (fun e => by
        obtain ⟨cs, h⟩ := HKO3.out.typed rb e
        exact keep_ne3.1 (obj_ty HPB3.out.blk h)) (fun e => by
        have h := HPB3.out.blk
        rw [e] at h
        exact keep_ne3.2 (obj_ty h HBX3.out)))
      have HPBC := Lib.hid (HPB3.out.keep hkc HNR.out)
      have HKTC := Lib.hid (show Keeps (KT B w) w wc from (HK3.out.mono (T := KT B w) (fun _ _ h => h.elim)).trans hkc (fun b hb h => by
        rcases h with h | h
        · obtain ⟨c2, h2⟩ := HKO3.out.typed b h
          exact ⟨(HKO3.out.low b h).1, _, _, _, (HK3.out.block b hb (fun h => h)).symm.trans h2, .inl rfl⟩
        · subst h
          exact ⟨HK.out.low, _, _, _, (HK3.out.block b hb (fun h => h)).symm.trans HBX3.out, .inr rfl⟩))
      have HEN := Lib.hid (HKC.out.ents k (by simp))
      have HGD := Lib.hid (Ir.pgoodK HEN.out.good)
      have HCO := Lib.hid (copied_any k.pc k.many k.A k.n k.c (rw k) wc HEN.out.rows.atK.1 (by have h1 := (HEN.out.rows.atK.1).len; have h2 := HGD.out.1; omega) HGD.out.2)
      clear hKc hkc x0 x1 x2 x3 c4
      have x0 : wc.cell? ⟨xb, 0, none⟩ = some (.int .u32 k.pc) := cell_atK HXC.out 0
      have x1 : wc.cell? ⟨xb, 1, none⟩ = some (.int .i64 k.many) := cell_atK HXC.out 1
      have x2 : wc.cell? ⟨xb, 2, none⟩ = some (.slice k.A k.n k.c) := cell_atK HXC.out 2
      go_wp2_with fail
      refine (HCO.out).mono ?_
      rintro e wd ⟨cg, rfl, hro, hkd⟩
      have HRO := Lib.hid (hro.base (HKTC.out.size))
      have HKD := Lib.hid hkd
      have HPBD := Lib.hid (HPBC.out.keep hkd (fun h => h))
      clear hro hkd x0 x1 x2
      obtain ⟨p0, p1, p2, g0, g1, g2⟩ := HPBD.out.cells
      obtain ⟨hp1, hp2⟩ := HPBD.out.put (pc' := k.pc) (many' := k.many) (A' := some ⟨cg, 0, none⟩) (n' := k.n) (cap' := k.n)
      have HP := Lib.hid hp1
      have HPT := Lib.hid (show ∀ b cs t fz, wd.heap[b]? = some (.cells cs t fz) → t ≠ 48 → ¬ b = rb from fun b cs t fz hb hne e => by
        rw [e] at hb
        exact hne (obj_ty hb HPBD.out.blk))
      have HRO2 := Lib.hid (HRO.out.keepP hp2 (fun q c t fz hq ht => HPT.out q c t fz hq (ent_ne (.inr ht)).2.2.2.2))
      have HKF := Lib.hid (show KeepAt _ B kb mx (l.eraseIdx i ++ [k]) pg rw from (HKC.out.quiet HKD.out).keepO hp2 HPT.out)
      have HKTF := Lib.hid ((HKTC.out.trans HKD.out (fun _ _ h => h.elim)).trans hp2 (fun b hb e => by have e : b = rb := e; have := HRBE.out; omega))
      clear hp1 hp2
      go_wp2_with fail
      refine bodyPost_ret (results_planK rfl _ _ rb k.pc k.many (some ⟨cg, 0, none⟩) k.n k.n rfl HP.out) rfl ?_
      exact HANS.out _ _ (.inl ⟨i, cg, k.n, HF.out.1, HF.out.2.1, HF.out.2.2, by rw [HKE.out]; rfl, by rw [HKE.out]; exact HRO2.out, by rw [HKE.out]; exact HKF.out, HKTF.out⟩)
  · have HF := Lib.hid hno
    have HK2 := Lib.hid (HA.out.trans hk2 (fun _ _ h => h))
    have HPB2 := Lib.hid (HPB.out.keep hk2 (fun h => h))
    clear hno hk2
    obtain ⟨p0, p1, p2, g0, g1, g2⟩ := HPB2.out.cells
    obtain ⟨hp1, hp2⟩ := HPB2.out.put (pc' := 0) (many' := 0) (A' := none) (n' := 0) (cap' := 0)
    have HP := Lib.hid hp1
    have HKF := Lib.hid (HK2.out.trans hp2 (fun b hb e => by have e : b = rb := e; have := HRBE.out; omega))
    clear hp1 hp2
    go_wp2_with fail
    refine bodyPost_ret (results_planK rfl _ _ rb 0 0 none 0 0 rfl HP.out) rfl ?_
    exact HANS.out _ _ (.inr ⟨HF.out, rfl, HKF.out⟩)

end Go.Proofs.YtlmnmncdoiealaaGreatDoor
