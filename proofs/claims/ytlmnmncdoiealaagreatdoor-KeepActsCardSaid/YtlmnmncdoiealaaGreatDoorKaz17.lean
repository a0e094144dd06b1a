import Derived.Test.YtlmnmncdoiealaaGreatDoorKaz11
import Derived.Test.YtlmnmncdoiealaaGreatDoorKaz12
import Derived.Test.YtlmnmncdoiealaaGreatDoorKaz16

/- KeepU -/
/- The walk of keep's Put (a right plan). -/
namespace Go.Proofs.YtlmnmncdoiealaaGreatDoor
open Go.RowKit Go.Deep
set_option linter.unusedVariables false
set_option linter.unusedSimpArgs false

theorem step_append_k {ops : Array Oper} {o : Oper} {a : Act} {w : World} {K : Act → World → Prop} {Q : Exit → Act → World → Prop} {E : Prop}
    (hg : o.guard = none) (s x : Operand) (hop : o.op = Op.call { callee := Callee.builtin Builtin.append, args := #[s, x], argTypes := #[65, 65] })
    (B : Nat) (l1 : List K4) (v : Value) (hs : a.eval s = v) (h1 : KOwn w B l1 v) (g : Nat) (p : K4) (hx : a.eval x = .slice (some ⟨g, 0, none⟩) 1 1) (hc : ∀ j u, (kC p).toList[j]? = some u → w.cell? ((⟨g, 0, none⟩ : Addr).add j) = some u)
    (hb : l1.length ≤ 1000000) (hbase : B ≤ w.heap.size)
    (hK : ∀ v' w', KOwn w' B (l1 ++ [p]) v' → Keeps (fun k => v.ownBlock = some k) w w' → K (a.put o.dst v') w') :
    if Region.wanted o (yielded ops a.tmps) = true then Oper.wp Tryz.prog o a w K Q else E := by
  obtain ⟨i0, hi, hz0, hz1, hz2⟩ := info_parts Tryz.info_kept
  obtain ⟨A1, c1, rfl, ho1⟩ := h1
  refine step_append_mine hg s x 65 hop B 77 i0 _ 4 64 Tryz.underlying65 hi hz0 hz1 hz2 rfl (by decide) (.slice A1 l1.length c1) l1.length (kL l1) hs ho1 ⟨g, 0, none⟩ 1 1 (kC p).toList hx rfl hc (kC_one p) (by unfold maxLen; omega) (by omega) hbase ?_
  intro v' w' hown hgrow hmv
  obtain ⟨A', cap', rfl⟩ := owns_slice hown
  refine hK _ _ ⟨A', cap', by rw [List.length_append, List.length_singleton], ?_⟩ ((Keeps.refl _ w).grown hgrow (fun k hk _ => hk))
  rw [kL_snoc, List.length_append, List.length_singleton]
  exact hown
/-- a keep's list is written -/
theorem KeepAt.putList {w : World} {B kb : Nat} {mx : Int} {l' : List K4} {pg : K4 → List Int} {rw : K4 → List (List Ir.Op)} {v' : Value} (hb : ∃ v, w.heap[kb]? = some (.cells #[.int .i64 mx, v] 67 (0, 0))) (hlow : B ≤ kb) (ho : KOwn w B l' v') (hp : ∀ k ∈ l', EntAt w (pg k) (rw k) k) :
    KeepAt (w.setCell ⟨kb, 1, none⟩ v') B kb mx l' pg rw ∧ Keeps (· = kb) w (w.setCell ⟨kb, 1, none⟩ v') := by
  obtain ⟨v, hb⟩ := hb
  have hks := Keeps.one w kb 1 v'
  refine ⟨⟨⟨v', ?_, ho.keep hks (fun g hg e => ?_)⟩, fun k hk => (hp k hk).keep hks (fun g cs t fz hg ht e => ?_), hlow⟩, hks⟩
  · have := set_block hb 1 v'
    simpa using this
  · have e : g = kb := e
    obtain ⟨cs, h⟩ := ho.typed g hg
    rw [e] at h
    exact keep_ne2.2.2.1 (obj_ty hb h)
  · have e : g = kb := e
    rw [e] at hg
    exact (ent_ne ht).2.1 (obj_ty hg hb)
theorem RowsOwn.base {w : World} {B B' : Nat} {v : Value} {rows : List (List Ir.Op)} (h : RowsOwn w B v rows) (hb : B' ≤ B) : RowsOwn w B' v rows := by
  obtain ⟨vs, h1, ⟨h2, h3⟩, h4⟩ := h
  refine ⟨vs, h1, ⟨h2, ?_⟩, fun j hj => (h4 j hj).base hb⟩
  rcases h3 with h | ⟨g, cap, cur, h1, h2, h3⟩
  · exact .inl h
  · exact .inr ⟨g, cap, cur, h1, Nat.le_trans hb h2, h3⟩
theorem RowsOwn.lowAt {w : World} {B g n cap : Nat} {rows : List (List Ir.Op)} (h : RowsOwn w B (.slice (some ⟨g, 0, none⟩) n cap) rows) : B ≤ g ∧ g < w.heap.size := by
  obtain ⟨vs, h1, h2, h4⟩ := h
  exact h2.lt g rfl
theorem IOwn.base {w : World} {B B' : Nat} {l : List Int} {v : Value} (h : IOwn w B l v) (hb : B' ≤ B) : IOwn w B' l v := by
  obtain ⟨A, cap, rfl, h1, h2⟩ := h
  refine ⟨A, cap, rfl, h1, ?_⟩
  rcases h2 with h | ⟨g, cap, cur, h1, h2, h3⟩
  · exact .inl h
  · exact .inr ⟨g, cap, cur, h1, Nat.le_trans hb h2, h3⟩
/-- what Put makes of the list -/
def putL (mx : Int) (l : List K4) (k : K4) : List K4 := if mx < ((npK (fun q => q.pc == k.pc) l).length : Int) + 1 then (npK (fun q => q.pc == k.pc) l ++ [k]).eraseIdx 0 else npK (fun q => q.pc == k.pc) l ++ [k]
/-- an entry set behind the others: what is known of it -/
def PutIs (w : World) (B kb : Nat) (mx : Int) (l : List K4) (pg : K4 → List Int) (rw : K4 → List (List Ir.Op)) (pc many : Int) (ps : List Int) (rows : List (List Ir.Op)) (f : K4 → List K4) (w' : World) : Prop :=
  ∃ k pg' rw', k.pc = pc ∧ k.many = many ∧ pg' k = ps ∧ rw' k = rows ∧ (∀ q ∈ l, pg' q = pg q ∧ rw' q = rw q) ∧ KeepAt w' B kb mx (f k) pg' rw' ∧ Keeps (KT B w) w w'
open Classical in
theorem put_close {w w4 w6 w7 : World} {B kb : Nat} {mx : Int} {l l' : List K4} {pg : K4 → List Int} {rw : K4 → List (List Ir.Op)} (K : KeepAt w B kb mx l pg rw) (K4' : KeepAt w4 B kb mx l' pg rw) (hsub : ∀ q ∈ l', q ∈ l) (k4 : Keeps (KT B w) w w4)
    {V4 : Value} (hbx : w4.heap[kb]? = some (.cells #[.int .i64 mx, V4] 67 (0, 0))) (ho4 : KOwn w4 B l' V4) (k6 : Keeps (fun _ => False) w4 w6) {g n : Nat} {VA : Option Addr} {vn vc : Nat} {rows : List (List Ir.Op)} {ps : List Int} {pc many : Int}
    (hr : RowsOwn w6 w.heap.size (.slice (some ⟨g, 0, none⟩) n n) rows) (hi : IOwn w6 0 ps (.slice VA vn vc)) (hg : (Ir.planFault many rows).1 = 0) (hs : ps.length ≤ 1000) (o : Obj) {v' : Value}
    (hu7 : KOwn w7 B (l' ++ [⟨pc, many, some ⟨g, 0, none⟩, n, n, VA, vn, vc⟩]) v') (hk7 : Keeps (fun b => V4.ownBlock = some b) (w6.alloc o) w7) :
    PutIs w B kb mx l pg rw pc many ps rows (fun k => l' ++ [k]) (w7.setCell ⟨kb, 1, none⟩ v') := by
  obtain ⟨kn, hkn⟩ : ∃ kn : K4, kn = ⟨pc, many, some ⟨g, 0, none⟩, n, n, VA, vn, vc⟩ := ⟨_, rfl⟩
  have hni : ∀ q ∈ l, q ≠ kn := fun q hq e => by
    have h1 := (K.ents q hq).rows
    rw [e, hkn] at h1
    have h2 := h1.lowAt
    have h3 := hr.lowAt
    omega
  have k67 := ((Keeps.refl (fun _ => False) w6).alloc o)
  have k46 := k6.trans k67 (fun _ _ h => h)
  have hown : ∀ b cs t fz, (w6.alloc o).heap[b]? = some (.cells cs t fz) → t ≠ 77 → ¬ V4.ownBlock = some b := fun b cs t fz hb hne e => by
    obtain ⟨c2, h2⟩ := (ho4.quiet k46).typed b e
    exact hne (obj_ty hb h2)
  have hbx6 := (k46.block kb (Array.getElem?_eq_some_iff.1 hbx).1 (fun h => h)).trans hbx
  have hbx7 := (hk7.block kb (Array.getElem?_eq_some_iff.1 hbx6).1 (hown _ _ _ _ hbx6 keep_ne2.2.2.1)).trans hbx6
  have hen : ∀ q ∈ l' ++ [kn], EntAt w7 (if q = kn then ps else pg q) (if q = kn then rows else rw q) q := fun q hq => by
    by_cases hqk : q = kn
    · rw [if_pos hqk, if_pos hqk]
      subst hqk
      refine EntAt.keep (w := w6.alloc o) (EntAt.keep (w := w6) ⟨?_, ?_, ?_, hs⟩ k67 (fun _ _ _ _ _ _ h => h)) hk7 (fun g cs t fz hg ht => hown g cs t fz hg (ent_ne ht).1)
      · rw [hkn]; exact hi
      · rw [hkn]; exact hr.base (Nat.zero_le _)
      · rw [hkn]; exact hg
    · rw [if_neg hqk, if_neg hqk]
      have hm : q ∈ l' := by
        rcases List.mem_append.1 hq with h | h
        · exact h
        · exact absurd (List.mem_singleton.1 h) hqk
      exact ((K4'.ents q hm).keep k46 (fun _ _ _ _ _ _ h => h)).keep hk7 (fun g cs t fz hg ht => hown g cs t fz hg (ent_ne ht).1)
  have hput := KeepAt.putList (v' := v') (pg := fun q => if q = kn then ps else pg q) (rw := fun q => if q = kn then rows else rw q) ⟨_, hbx7⟩ K.low (by rw [hkn]; exact hu7) hen
  refine ⟨kn, _, _, by rw [hkn], by rw [hkn], if_pos rfl, if_pos rfl, fun q hq => ⟨if_neg (hni q hq), if_neg (hni q hq)⟩, hput.1, ?_⟩
  refine ((k4.trans k46 (fun _ _ h => h.elim)).trans hk7 (fun b hb e => ?_)).trans hput.2 (fun b hb e => ?_)
  · refine Classical.byContradiction fun hn => ?_
    obtain ⟨c2, h2⟩ := ho4.typed b e
    have h3 := k4.block b hb hn
    exact hn ⟨(ho4.low b e).1, _, _, _, h3.symm.trans h2, .inl rfl⟩
  · have e : b = kb := e
    subst e
    obtain ⟨v, h, _⟩ := K.box
    exact ⟨K.low, _, _, _, h, .inr rfl⟩
theorem RowsOwn.atK {w : World} {B n cap : Nat} {A : Option Addr} {rows : List (List Ir.Op)} (h : RowsOwn w B (.slice A n cap) rows) : RowsAt w A n cap rows ∧ cap ≤ 9223372036854775807 := by
  obtain ⟨A2, cap2, e, h1, h2⟩ := h.rows
  injection e with e1 e2 e3
  subst e1 e2 e3
  exact ⟨h2, h1⟩
theorem Ir.pgoodK {many : Int} {rows : List (List Ir.Op)} (h : (Ir.planFault many rows).1 = 0) : rows.length ≤ 200 ∧ ∀ i, i < rows.length → (rows.getD i []).length < 1000000 := by
  have g := Ir.pgood_of h
  refine ⟨g.len, fun i hi => ?_⟩
  have hm : rows.getD i [] ∈ rows := by
    rw [List.getD_eq_getElem?_getD, List.getElem?_eq_getElem hi]
    exact List.getElem_mem hi
  have := (g.row _ hm).1
  omega
theorem keep_ne4 : 40 ≠ 77 ∧ 64 ≠ 77 ∧ 40 ≠ 67 ∧ 64 ≠ 67 := by decide
theorem keep_ne3 : 48 ≠ 77 ∧ 48 ≠ 67 := by decide
theorem deleteFirstK (B kb : Nat) (mx : Int) (l : List K4) (pg : K4 → List Int) (rw : K4 → List (List Ir.Op)) (A : Option Addr) (n cap : Nat) (w : World) (K : KeepAt w B kb mx l pg rw) (hb : w.heap[kb]? = some (.cells #[.int .i64 mx, .slice A n cap] 67 (0, 0))) (ho : KOwn w B l (.slice A n cap)) (i : Nat) (hi : i < l.length) (hl : l.length < 1000000) :
    n = l.length ∧ Calls Tryz.prog 33 #[.slice A n cap, .int .i64 i, .int .i64 ((i + 1 : Nat) : Int)] w fun e w' => e = .returned (.slice A (n - 1) cap) ∧ KOwn w' B (l.eraseIdx i) (.slice A (n - 1) cap) ∧ w'.heap[kb]? = some (.cells #[.int .i64 mx, .slice A n cap] 67 (0, 0)) ∧ (∀ k ∈ l, EntAt w' (pg k) (rw k) k) ∧ Keeps (fun b => (Value.slice A n cap).ownBlock = some b) w w' := by
  obtain ⟨A1, c1, e, hr⟩ := id ho
  injection e with e1 e2 e3
  subst e1 e2 e3
  obtain ⟨g, rfl⟩ : ∃ g, A = some ⟨g, 0, none⟩ := by
    obtain ⟨hlen, ⟨h0, h1⟩ | ⟨g', cap', cur, h2, _⟩⟩ := id hr
    · omega
    · injection h2 with e1 e2 e3
      exact ⟨g', e1⟩
  refine ⟨rfl, (kdelete_any B g l.length cap i l w hr rfl hi hl).mono ?_⟩
  rintro e w' ⟨rfl, h2, h3⟩
  have hty := ho.typed g rfl
  have hne : ∀ b cs t fz, w.heap[b]? = some (.cells cs t fz) → t ≠ 77 → ¬ b = g := fun b cs t fz hb hne e => by
    obtain ⟨c2, h2⟩ := hty
    rw [e] at hb
    exact hne (obj_ty hb h2)
  refine ⟨rfl, ⟨_, _, by rw [List.length_eraseIdx_of_lt hi], by rw [List.length_eraseIdx_of_lt hi]; exact h2⟩, (h3.block kb (Array.getElem?_eq_some_iff.1 hb).1 (hne _ _ _ _ hb keep_ne2.2.2.1)).trans hb, fun k hk => (K.ents k hk).keep h3 (fun b cs t fz hb ht => hne b cs t fz hb (ent_ne ht).1), h3.mono (fun b _ e => by
    have e : b = g := e
    rw [e]
    rfl)⟩
set_option maxHeartbeats 8000000 in
set_option maxRecDepth 100000 in
theorem keepPut_any (B kb : Nat) (mx : Int) (l : List K4) (pg : K4 → List Int) (rw : K4 → List (List Ir.Op)) (pc many : Int) (A : Option Addr) (n cap : Nat) (rows : List (List Ir.Op)) (PA : Option Addr) (pn pcap : Nat) (ps : List Int) (w : World) (ea : Nat → Addr) (E : ErrsR w ea) (K : KeepAt w B kb mx l pg rw) (hl : l.length ≤ 100000)
    (V : RowsOwn w 0 (.slice A n cap) rows) (hf : (Ir.planFault many rows).1 = 0) (hR : IOwn w 0 ps (.slice PA pn pcap)) (hpn : ps.length ≤ 1000) :
    Calls Tryz.prog 10 #[.pointer (some ⟨kb, 0, none⟩), .agg #[.int .u32 pc, .int .i64 many, .slice A n cap], .slice PA pn pcap] w fun e w' => e = .returned .nilIface ∧ PutIs w B kb mx l pg rw pc many ps rows (putL mx l) w' := by
  have HK := Lib.hid K
  have HLT := Lib.hid K.lt
  have HLN := Lib.hid hl
  have HV := Lib.hid V
  have HRD := Lib.hid hR
  have HFZ := Lib.hid hf
  have HPS := Lib.hid hpn
  have HCK := Lib.hid (fun w E (V : RowsOwn w 0 (.slice A n cap) rows) => planCheck_any pc many A n cap rows w ea E V.atK.1 V.atK.2)
  have HE := Lib.hid E
  have HPB := Lib.hid (PlanBox.new w pc many A n cap)
  have HA := Lib.hid ((Keeps.refl (fun _ => False) w).alloc (.cells #[.int .u32 pc, .int .i64 many, .slice A n cap] 48))
  clear K hl V hR hf E hpn
  go_enter Tryz.func10, Tryz.ntmps10
  go_upto_region 1 with fail
  generalize w.alloc _ = w1 at *
  obtain ⟨pb, hpb⟩ : ∃ b, w.heap.size = b := ⟨_, rfl⟩
  have HPBE := Lib.hid hpb
  rw [hpb] at HPB HLT ⊢
  clear hpb
  obtain ⟨d0, d1, d2, _⟩ := HPB.out.cells
  go_wp2_with fail
  refine (HCK.out w1 (HE.out.quiet HA.out) (HV.out.quiet HA.out)).mono ?_
  rintro e w2 ⟨⟨v, rfl, hv⟩, hk2⟩
  obtain rfl : v = .nilIface := by
    rcases hv.parts with h | h
    · exact h.2
    · exact absurd HFZ.out h.1
  have HK2 := Lib.hid (HA.out.trans hk2 (fun _ _ h => h))
  have HPB2 := Lib.hid (HPB.out.keep hk2 (fun h => h))
  have HKP2 := Lib.hid (HK.out.quiet HK2.out)
  clear hv hk2 d0 d1 d2
  obtain ⟨v, hb, hko⟩ := HKP2.out.box
  obtain ⟨LA, lc, hv, _⟩ := id hko
  obtain ⟨ln, hn⟩ : ∃ n, l.length = n := ⟨_, rfl⟩
  rw [hn] at hv
  subst hv
  have HBX2 := Lib.hid hb
  have HKO2 := Lib.hid hko
  have HLE := Lib.hid hn
  clear hb hko hn
  have c0 : w2.cell? ⟨kb, 1, none⟩ = some (.slice LA ln lc) := cell_atK HBX2.out 1
  have HDEL := Lib.hid (deleteK_any 30 #[.pointer (some ⟨pb, 0, none⟩)] (fun k => k.pc == pc) (fun _ _ => False) (fun _ => False) (fun _ W => PlanBox W pb pc many A n cap) (enters_of Tryz.func30 (by kernel_rfl) rfl) B LA ln lc l w2 HKO2.out HLE.out (by have := HLN.out; have := HLE.out; omega) (put1_pred l pb pc many A n cap) HPB2.out
    (fun _ _ _ _ h => h.elim) (fun done W W' ht k h => h.keep k (fun e => by
      obtain ⟨cs, h2⟩ := ht pb e
      exact keep_ne3.1 (obj_ty h.blk h2))))
  go_wp2_with fail
  refine HDEL.out.mono ?_
  rintro e w3 ⟨v3, rfl, ho3, hg3, hd3, hk3⟩
  obtain ⟨A6, c6, hv6, _⟩ := id ho3
  obtain ⟨n6, hn6⟩ : ∃ x, (npK (fun k => k.pc == pc) l).length = x := ⟨_, rfl⟩
  rw [hn6] at hv6
  subst hv6
  have hown2 : ∀ b cs t fz, w2.heap[b]? = some (.cells cs t fz) → t ≠ 77 → ¬ (False ∨ (Value.slice LA ln lc).ownBlock = some b) := fun b cs t fz hb hne h => h.elim (fun h => h) (fun h => by
    obtain ⟨c2, h2⟩ := HKO2.out.typed b h
    exact hne (obj_ty hb h2))
  have HBX3 := Lib.hid ((hk3.block kb (Array.getElem?_eq_some_iff.1 HBX2.out).1 (hown2 _ _ _ _ HBX2.out keep_ne2.2.2.1)).trans HBX2.out)
  have HPG3 := Lib.hid (show ∀ k ∈ npK (fun k => k.pc == pc) l, EntAt w3 (pg k) (rw k) k from fun k hk => (HKP2.out.ents k (npK_mem hk)).keep hk3 (fun g cs t fz hg ht => hown2 g cs t fz hg (ent_ne ht).1))
  have hput := KeepAt.putList (v' := .slice A6 n6 c6) ⟨_, HBX3.out⟩ HK.out.low ho3 HPG3.out
  have HK4 := Lib.hid hput.1
  have HKK4 := Lib.hid (show Keeps (KT B w) w (w3.setCell ⟨kb, 1, none⟩ (.slice A6 n6 c6)) from
    ((HK2.out.mono (T := KT B w) (fun _ _ h => h.elim)).trans hk3 (fun b hb h => by
      rcases h with h | h
      · exact h.elim
      · obtain ⟨c2, h2⟩ := HKO2.out.typed b h
        exact ⟨(HKO2.out.low b h).1, _, _, _, (HK2.out.block b hb (fun h => h)).symm.trans h2, .inl rfl⟩)).trans hput.2 (fun b hb e => by
      have e : b = kb := e
      subst e
      obtain ⟨v, h, _⟩ := HK.out.box
      exact ⟨HK.out.low, _, _, _, h, .inr rfl⟩))
  have HPB4 := Lib.hid (hd3.keep hput.2 (fun e => by
    have e : pb = kb := e
    have h1 := hd3.blk
    rw [e] at h1
    exact keep_ne3.2 (obj_ty h1 HBX3.out)))
  have HO4 := Lib.hid (show KOwn (w3.setCell ⟨kb, 1, none⟩ (.slice A6 n6 c6)) B (npK (fun k => k.pc == pc) l) (.slice A6 n6 c6) from ho3.keep hput.2 (fun g hg e => by
    have e : g = kb := e
    obtain ⟨cs, h⟩ := ho3.typed g hg
    rw [e] at h
    exact keep_ne2.2.2.1 (obj_ty HBX3.out h)))
  have HBX4 := Lib.hid (show (w3.setCell ⟨kb, 1, none⟩ (.slice A6 n6 c6)).heap[kb]? = some (.cells #[.int .i64 mx, .slice A6 n6 c6] 67 (0, 0)) from by
    have := set_block HBX3.out 1 (.slice A6 n6 c6)
    simpa using this)
  have c3 : w3.cell? ⟨kb, 1, none⟩ = some (.slice LA ln lc) := cell_atK HBX3.out 1
  have f3 : w3.frozen? ⟨kb, 1, none⟩ = false := frozen_of_block HBX3.out 1
  have HV4 := Lib.hid (show RowsOwn (w3.setCell ⟨kb, 1, none⟩ (.slice A6 n6 c6)) 0 (.slice A n cap) rows from HV.out.keepP HKK4.out (fun g c t fz hg ht => KT.not hg (ent_ne (.inr ht)).1 (ent_ne (.inr ht)).2.1))
  have HI4 := Lib.hid (show IOwn (w3.setCell ⟨kb, 1, none⟩ (.slice A6 n6 c6)) 0 ps (.slice PA pn pcap) from HRD.out.keep HKK4.out (fun g cs fz hg => KT.not hg (ent_ne (.inl rfl)).1 (ent_ne (.inl rfl)).2.1))
  have HN6 := Lib.hid hn6
  clear hput ho3 hg3 hd3 hk3 hown2 c0 hn6
  go_upto_region 5 with fail
  clear c3 f3
  generalize w3.setCell _ _ = w4 at *
  have c4 : w4.cell? ⟨kb, 1, none⟩ = some (.slice A6 n6 c6) := cell_atK HBX4.out 1
  obtain ⟨d0, d1, d2, _⟩ := HPB4.out.cells
  have HNG := Lib.hid (show ¬ (Value.slice A6 n6 c6).ownBlock = some kb ∧ ¬ (Value.slice A6 n6 c6).ownBlock = some pb from ⟨fun e => by
    obtain ⟨cs, h⟩ := HO4.out.typed kb e
    exact keep_ne2.2.2.1 (obj_ty HBX4.out h), fun e => by
    obtain ⟨cs, h⟩ := HO4.out.typed pb e
    exact keep_ne3.1 (obj_ty HPB4.out.blk h)⟩)
  have HNG2 := Lib.hid (show ¬ ((Value.slice A6 n6 c6).ownBlock = some pb ∨ pb = kb) from fun h => h.elim HNG.out.2 (fun e => by
    have h1 := HPB4.out.blk
    rw [e] at h1
    exact keep_ne3.2 (obj_ty h1 HBX4.out)))
  have HGD := Lib.hid (Ir.pgoodK HFZ.out)
  have HCO := Lib.hid (fun w' (k : Keeps (fun _ => False) w4 w') => (copied_any pc many A n cap rows w' (HV4.out.quiet k).atK.1 (by have h1 := (HV4.out.atK.1).len; have h2 := HGD.out.1; omega) HGD.out.2).mono (fun e w5 h => show ∃ g, e = .returned (.agg #[.int .u32 pc, .int .i64 many, .slice (some ⟨g, 0, none⟩) n n]) ∧ RowsOwn w5 w.heap.size (.slice (some ⟨g, 0, none⟩) n n) rows ∧ Keeps (fun _ => False) w' w5 from by
    obtain ⟨g, h1, h2, h3⟩ := h
    exact ⟨g, h1, h2.base (Nat.le_trans HKK4.out.size k.size), h3⟩))
  have HCL := Lib.hid (fun w' (k : Keeps (fun _ => False) w4 w') => (cloneI_any PA pn pcap ps w' ((HI4.out.keep k (fun _ _ _ _ h => h)).reads.2.2) HI4.out.reads.1 (by have := HI4.out.reads.1; have := HPS.out; omega) HI4.out.nilK).mono (fun e w5 h => show ∃ v', e = .returned v' ∧ IOwn w5 0 ps v' ∧ Keeps (fun _ => False) w' w5 from by
    obtain ⟨v', h1, h2, h3⟩ := h
    exact ⟨v', h1, h2.base (Nat.zero_le _), h3⟩))
  have HCLOSE := Lib.hid (fun (w6 w7 : World) (k6 : Keeps (fun _ => False) w4 w6) (g : Nat) (VA : Option Addr) (vn vc : Nat) (hr : RowsOwn w6 w.heap.size (.slice (some ⟨g, 0, none⟩) n n) rows) (hi : IOwn w6 0 ps (.slice VA vn vc)) (o : Obj) (v' : Value) hu7 (hk7 : Keeps (fun b => (Value.slice A6 n6 c6).ownBlock = some b) (w6.alloc o) w7) =>
    put_close (pc := pc) HK.out HK4.out (fun q hq => npK_mem hq) HKK4.out HBX4.out HO4.out k6 hr hi HFZ.out HPS.out o (v' := v') hu7 hk7)
  go_cut [0] (fun s0 wx => s0 = .pointer (some ⟨kb, 0, none⟩) ∧ PutIs w B kb mx l pg rw pc many ps rows (fun k => npK (fun k => k.pc == pc) l ++ [k]) wx)
  case first =>
    refine wp_region_held_drew (S := fun w' => Keeps (fun b => (Value.slice A6 n6 c6).ownBlock = some b ∨ b = kb) w4 w') (by kernel_rfl) (Keeps.refl _ w4).drew (fun hH0 => ?_)
    refine wpAnyH_take (i := 0) (v := ?_) rfl (by kernel_rfl) (by kernel_rfl) (by kernel_rfl) (fun _ _ _ h => h) (Or.inl ⟨by go_simp, ?_⟩) hH0 ?_
    rotate_left
    · intro w' hSw
      go_simp
      try with_reducible rfl
    simp only [Act.put, List.setIfInBounds_toArray, List.set_cons_zero, List.set_cons_succ]
    refine wpAnyH_take (i := 1) (v := ?_) rfl (by kernel_rfl) (by kernel_rfl) (by kernel_rfl) (fun _ _ _ h => h) (Or.inl ⟨by go_simp, ?_⟩) hH0 ?_
    rotate_left
    · intro w' hSw
      go_simp
      try with_reducible rfl
    simp only [Act.put, List.setIfInBounds_toArray, List.set_cons_zero, List.set_cons_succ]
    refine wpAnyH_take (i := 2) (v := ?_) rfl (by kernel_rfl) (by kernel_rfl) (by kernel_rfl) (fun _ _ _ h => h) (Or.inl ⟨by go_simp, ?_⟩) hH0 ?_
    rotate_left
    · intro w' hSw
      go_simp
      try with_reducible rfl
    simp only [Act.put, List.setIfInBounds_toArray, List.set_cons_zero, List.set_cons_succ]
    refine wpAnyH_take (i := 3) (v := ?_) rfl (by kernel_rfl) (by kernel_rfl) (by kernel_rfl) (fun _ _ _ h => h) (Or.inl ⟨by go_simp, ?_⟩) hH0 ?_
    rotate_left
    · intro w' hSw
      go_simp
      try with_reducible rfl
    simp only [Act.put, List.setIfInBounds_toArray, List.set_cons_zero, List.set_cons_succ]
    refine wpAnyH_take (i := 5) (v := ?_) rfl (by kernel_rfl) (by kernel_rfl) (by kernel_rfl) (fun _ _ _ h => h) (Or.inl ⟨by go_simp, ?_⟩) hH0 ?_
    rotate_left
    · intro w' hSw
      have q0 := Keeps.cell' hSw d0 HNG2.out
      have q1 := Keeps.cell' hSw d1 HNG2.out
      have q2 := Keeps.cell' hSw d2 HNG2.out
      go_simp
      try with_reducible rfl
    simp only [Act.put, List.setIfInBounds_toArray, List.set_cons_zero, List.set_cons_succ]
    refine wpAnyH_take (i := 7) (v := ?_) rfl (by kernel_rfl) (by kernel_rfl) (by kernel_rfl) (fun _ _ _ h => h) (Or.inl ⟨by go_simp, ?_⟩) hH0 ?_
    rotate_left
    · intro w' hSw
      go_simp
      try with_reducible rfl
    simp only [Act.put, List.setIfInBounds_toArray, List.set_cons_zero, List.set_cons_succ]
    refine wpAnyH_ready (rs := [4, 6]) (by kernel_rfl) (by simp) ?_
    refine AllReadyH.cons rfl (fun K hK => ?_) (AllReadyH.cons rfl (fun K hK => ?_) AllReadyH.nil)
    · have c4x := ((Keeps.refl (fun _ => False) w4).drew).cell' c4 (fun h => h)
      go_simp
      refine hK.out _ _ hH0 (fun _ => ?_)
      clear hK K c4x
      try simp only [Act.put, List.setIfInBounds_toArray, List.set_cons_zero, List.set_cons_succ]
      refine wpAnyH_ready (rs := [6]) (by kernel_rfl) (by simp) ?_
      refine AllReadyH.cons rfl (fun K hK => ?_) AllReadyH.nil
      go_simp
      refine (HCO.out _ ((Keeps.refl (fun _ => False) w4).drew)).mono ?_
      rintro e w5 ⟨cgb, rfl, hrows, hk5⟩
      go_wp2_with fail
      have hH1 := hH0.trans (hk5.mono (fun _ _ h => h.elim)) (fun _ _ h => h)
      have HK45 := Lib.hid (((Keeps.refl (fun _ => False) w4).drew).trans hk5 (fun _ _ h => h))
      refine hK.out _ _ hH1 (fun _ => ?_)
      clear hK K
      try simp only [Act.put, List.setIfInBounds_toArray, List.set_cons_zero, List.set_cons_succ]
      refine wpAnyH_ready (rs := [8]) (by kernel_rfl) (by simp) ?_
      refine AllReadyH.cons rfl (fun K hK => ?_) AllReadyH.nil
      go_simp
      refine (HCL.out _ HK45.out).mono ?_
      rintro e w6 ⟨vp, rfl, hvp, hk6⟩
      go_wp2_with fail
      have hH2 := hH1.trans (hk6.mono (fun _ _ h => h.elim)) (fun _ _ h => h)
      have HK46 := Lib.hid (HK45.out.trans hk6 (fun _ _ h => h))
      obtain ⟨VA, vc, hvv, _⟩ := id hvp
      obtain ⟨vn, hvn⟩ : ∃ x, ps.length = x := ⟨_, rfl⟩
      rw [hvn] at hvv
      subst hvv
      clear hvn
      refine hK.out _ _ hH2 (fun _ => ?_)
      clear hK K
      try simp only [Act.put, List.setIfInBounds_toArray, List.set_cons_zero, List.set_cons_succ]
      refine wpAnyH_take (i := 9) (v := ?_) rfl (by kernel_rfl) (by kernel_rfl) (by kernel_rfl) (fun _ _ _ h => h) (Or.inl ⟨by go_simp, ?_⟩) hH2 ?_
      rotate_left
      · intro w' hSw
        go_simp
        try with_reducible rfl
      simp only [Act.put, List.setIfInBounds_toArray, List.set_cons_zero, List.set_cons_succ]
      refine wpAnyH_ready (rs := [10]) (by kernel_rfl) (by simp) ?_
      refine AllReadyH.cons rfl (fun K hK => ?_) AllReadyH.nil
      go_simp
      have hH3 := hH2.alloc (.cells #[.int .u32 pc, .int .i64 many, .slice (some ⟨cgb, 0, none⟩) n n, .slice VA vn vc] 77)
      have HK47 := Lib.hid (HK46.out.alloc (.cells #[.int .u32 pc, .int .i64 many, .slice (some ⟨cgb, 0, none⟩) n n, .slice VA vn vc] 77))
      refine hK.out _ _ hH3 (fun _ => ?_)
      clear hK K
      try simp only [Act.put, List.setIfInBounds_toArray, List.set_cons_zero, List.set_cons_succ]
      have HROW := Lib.hid hrows
      have HVP := Lib.hid hvp
      have HK56 := Lib.hid hk6
      have HBX7A := Lib.hid ((HK47.out.block kb (Array.getElem?_eq_some_iff.1 HBX4.out).1 (fun h => h)).trans HBX4.out)
      have HCN := Lib.hid (fun j u hj => cells_new w6 [.int .u32 pc, .int .i64 many, .slice (some ⟨cgb, 0, none⟩) n n, .slice VA vn vc] 77 j u hj)
      have HOA := Lib.hid (HO4.out.quiet HK47.out)
      have HBB := Lib.hid (show B ≤ (w6.alloc (.cells #[.int .u32 pc, .int .i64 many, .slice (some ⟨cgb, 0, none⟩) n n, .slice VA vn vc] 77)).heap.size from Nat.le_trans (Nat.le_trans HK.out.low (Nat.le_of_lt HLT.out)) (Nat.le_trans (by rw [← HPBE.out]; exact HKK4.out.size) HK47.out.size))
      have HNL := Lib.hid (show (npK (fun k => k.pc == pc) l).length ≤ 1000000 from Nat.le_trans (List.length_filter_le _ _) (by have := HLN.out; omega))
      refine wpAnyH_ready (rs := [11]) (by kernel_rfl) (by simp) ?_
      refine AllReadyH.cons rfl (fun K hK => ?_) AllReadyH.nil
      refine step_append_k rfl _ _ rfl B (npK (fun k => k.pc == pc) l) (.slice A6 n6 c6) (by rfl) HOA.out w6.heap.size ⟨pc, many, some ⟨cgb, 0, none⟩, n, n, VA, vn, vc⟩ (by rfl) HCN.out HNL.out HBB.out ?_
      intro v' w7 hu7 hk7
      obtain ⟨A9, c9, hv9, _⟩ := id hu7
      obtain ⟨n9, hn9⟩ : ∃ x, (npK (fun k => k.pc == pc) l ++ [(⟨pc, many, some ⟨cgb, 0, none⟩, n, n, VA, vn, vc⟩ : K4)]).length = x := ⟨_, rfl⟩
      rw [hn9] at hv9
      subst hv9
      clear hn9
      have hH4 := hH3.trans (hk7.mono (T := fun b => (Value.slice A6 n6 c6).ownBlock = some b ∨ b = kb) (fun b _ h => .inl h)) (fun b _ h => h)
      refine hK.out _ _ hH4 (fun _ => ?_)
      clear hK K
      try simp only [Act.put, List.setIfInBounds_toArray, List.set_cons_zero, List.set_cons_succ]
      refine wpAnyH_take (i := 12) (v := ?_) rfl (by kernel_rfl) (by kernel_rfl) (by kernel_rfl) (fun _ _ _ h => h) (Or.inl ⟨by go_simp, ?_⟩) hH4 ?_
      rotate_left
      · intro w' hSw
        go_simp
        try with_reducible rfl
      simp only [Act.put, List.setIfInBounds_toArray, List.set_cons_zero, List.set_cons_succ]
      refine wpAnyH_take (i := 13) (v := ?_) rfl (by kernel_rfl) (by kernel_rfl) (by kernel_rfl) (fun _ _ _ h => h) (Or.inl ⟨by go_simp, ?_⟩) hH4 ?_
      rotate_left
      · intro w' hSw
        go_simp
        try with_reducible rfl
      simp only [Act.put, List.setIfInBounds_toArray, List.set_cons_zero, List.set_cons_succ]
      refine wpAnyH_ready (rs := [14]) (by kernel_rfl) (by simp) ?_
      refine AllReadyH.cons rfl (fun K hK => ?_) AllReadyH.nil
      have hbx7 := (hk7.block kb (Array.getElem?_eq_some_iff.1 (HBX7A.out)).1 HNG.out.1).trans HBX7A.out
      have c7 : w7.cell? ⟨kb, 1, none⟩ = some (.slice A6 n6 c6) := cell_atK hbx7 1
      have f7 : w7.frozen? ⟨kb, 1, none⟩ = false := frozen_of_block hbx7 1
      go_simp
      have hH5 := hH4.trans ((Keeps.one w7 kb 1 (.slice A9 n9 c9)).mono (T := fun b => (Value.slice A6 n6 c6).ownBlock = some b ∨ b = kb) (fun b _ h => .inr h)) (fun b _ h => h)
      refine hK.out _ _ hH5 (fun _ => ?_)
      clear hK K
      try simp only [Act.put, List.setIfInBounds_toArray, List.set_cons_zero, List.set_cons_succ]
      refine wpAnyH_done (by kernel_rfl) ?_ _
      have hfin := HCLOSE.out w6 w7 HK46.out cgb VA vn vc (HROW.out.quiet HK56.out) HVP.out (.cells #[.int .u32 pc, .int .i64 many, .slice (some ⟨cgb, 0, none⟩) n n, .slice VA vn vc] 77) (.slice A9 n9 c9) hu7 hk7
      generalize World.setCell w7 _ _ = w8 at *
      go_wp2_with fail
      go_meet
      exact ⟨rfl, hfin⟩
    · go_simp
      refine (HCO.out _ ((Keeps.refl (fun _ => False) w4).drew)).mono ?_
      rintro e w5 ⟨cgb, rfl, hrows, hk5⟩
      go_wp2_with fail
      have hH1 := hH0.trans (hk5.mono (fun _ _ h => h.elim)) (fun _ _ h => h)
      have HK45 := Lib.hid (((Keeps.refl (fun _ => False) w4).drew).trans hk5 (fun _ _ h => h))
      refine hK.out _ _ hH1 (fun _ => ?_)
      clear hK K
      try simp only [Act.put, List.setIfInBounds_toArray, List.set_cons_zero, List.set_cons_succ]
      refine wpAnyH_ready (rs := [4, 8]) (by kernel_rfl) (by simp) ?_
      refine AllReadyH.cons rfl (fun K hK => ?_) (AllReadyH.cons rfl (fun K hK => ?_) AllReadyH.nil)
      · have c4x := HK45.out.cell' c4 (fun h => h)
        go_simp
        refine hK.out _ _ hH1 (fun _ => ?_)
        clear hK K c4x
        try simp only [Act.put, List.setIfInBounds_toArray, List.set_cons_zero, List.set_cons_succ]
        refine wpAnyH_ready (rs := [8]) (by kernel_rfl) (by simp) ?_
        refine AllReadyH.cons rfl (fun K hK => ?_) AllReadyH.nil
        go_simp
        refine (HCL.out _ HK45.out).mono ?_
        rintro e w6 ⟨vp, rfl, hvp, hk6⟩
        go_wp2_with fail
        have hH2 := hH1.trans (hk6.mono (fun _ _ h => h.elim)) (fun _ _ h => h)
        have HK46 := Lib.hid (HK45.out.trans hk6 (fun _ _ h => h))
        obtain ⟨VA, vc, hvv, _⟩ := id hvp
        obtain ⟨vn, hvn⟩ : ∃ x, ps.length = x := ⟨_, rfl⟩
        rw [hvn] at hvv
        subst hvv
        clear hvn
        refine hK.out _ _ hH2 (fun _ => ?_)
        clear hK K
        try simp only [Act.put, List.setIfInBounds_toArray, List.set_cons_zero, List.set_cons_succ]
        refine wpAnyH_take (i := 9) (v := ?_) rfl (by kernel_rfl) (by kernel_rfl) (by kernel_rfl) (fun _ _ _ h => h) (Or.inl ⟨by go_simp, ?_⟩) hH2 ?_
        rotate_left
        · intro w' hSw
          go_simp
          try with_reducible rfl
        simp only [Act.put, List.setIfInBounds_toArray, List.set_cons_zero, List.set_cons_succ]
        refine wpAnyH_ready (rs := [10]) (by kernel_rfl) (by simp) ?_
        refine AllReadyH.cons rfl (fun K hK => ?_) AllReadyH.nil
        go_simp
        have hH3 := hH2.alloc (.cells #[.int .u32 pc, .int .i64 many, .slice (some ⟨cgb, 0, none⟩) n n, .slice VA vn vc] 77)
        have HK47 := Lib.hid (HK46.out.alloc (.cells #[.int .u32 pc, .int .i64 many, .slice (some ⟨cgb, 0, none⟩) n n, .slice VA vn vc] 77))
        refine hK.out _ _ hH3 (fun _ => ?_)
        clear hK K
        try simp only [Act.put, List.setIfInBounds_toArray, List.set_cons_zero, List.set_cons_succ]
        have HROW := Lib.hid hrows
        have HVP := Lib.hid hvp
        have HK56 := Lib.hid hk6
        have HBX7A := Lib.hid ((HK47.out.block kb (Array.getElem?_eq_some_iff.1 HBX4.out).1 (fun h => h)).trans HBX4.out)
        have HCN := Lib.hid (fun j u hj => cells_new w6 [.int .u32 pc, .int .i64 many, .slice (some ⟨cgb, 0, none⟩) n n, .slice VA vn vc] 77 j u hj)
        have HOA := Lib.hid (HO4.out.quiet HK47.out)
        have HBB := Lib.hid (show B ≤ (w6.alloc (.cells #[.int .u32 pc, .int .i64 many, .slice (some ⟨cgb, 0, none⟩) n n, .slice VA vn vc] 77)).heap.size from Nat.le_trans (Nat.le_trans HK.out.low (Nat.le_of_lt HLT.out)) (Nat.le_trans (by rw [← HPBE.out]; exact HKK4.out.size) HK47.out.size))
        have HNL := Lib.hid (show (npK (fun k => k.pc == pc) l).length ≤ 1000000 from Nat.le_trans (List.length_filter_le _ _) (by have := HLN.out; omega))
        refine wpAnyH_ready (rs := [11]) (by kernel_rfl) (by simp) ?_
        refine AllReadyH.cons rfl (fun K hK => ?_) AllReadyH.nil
        refine step_append_k rfl _ _ rfl B (npK (fun k => k.pc == pc) l) (.slice A6 n6 c6) (by rfl) HOA.out w6.heap.size ⟨pc, many, some ⟨cgb, 0, none⟩, n, n, VA, vn, vc⟩ (by rfl) HCN.out HNL.out HBB.out ?_
        intro v' w7 hu7 hk7
        obtain ⟨A9, c9, hv9, _⟩ := id hu7
        obtain ⟨n9, hn9⟩ : ∃ x, (npK (fun k => k.pc == pc) l ++ [(⟨pc, many, some ⟨cgb, 0, none⟩, n, n, VA, vn, vc⟩ : K4)]).length = x := ⟨_, rfl⟩
        rw [hn9] at hv9
        subst hv9
        clear hn9
        have hH4 := hH3.trans (hk7.mono (T := fun b => (Value.slice A6 n6 c6).ownBlock = some b ∨ b = kb) (fun b _ h => .inl h)) (fun b _ h => h)
        refine hK.out _ _ hH4 (fun _ => ?_)
        clear hK K
        try simp only [Act.put, List.setIfInBounds_toArray, List.set_cons_zero, List.set_cons_succ]
        refine wpAnyH_take (i := 12) (v := ?_) rfl (by kernel_rfl) (by kernel_rfl) (by kernel_rfl) (fun _ _ _ h => h) (Or.inl ⟨by go_simp, ?_⟩) hH4 ?_
        rotate_left
        · intro w' hSw
          go_simp
          try with_reducible rfl
        simp only [Act.put, List.setIfInBounds_toArray, List.set_cons_zero, List.set_cons_succ]
        refine wpAnyH_take (i := 13) (v := ?_) rfl (by kernel_rfl) (by kernel_rfl) (by kernel_rfl) (fun _ _ _ h => h) (Or.inl ⟨by go_simp, ?_⟩) hH4 ?_
        rotate_left
        · intro w' hSw
          go_simp
          try with_reducible rfl
        simp only [Act.put, List.setIfInBounds_toArray, List.set_cons_zero, List.set_cons_succ]
        refine wpAnyH_ready (rs := [14]) (by kernel_rfl) (by simp) ?_
        refine AllReadyH.cons rfl (fun K hK => ?_) AllReadyH.nil
        have hbx7 := (hk7.block kb (Array.getElem?_eq_some_iff.1 (HBX7A.out)).1 HNG.out.1).trans HBX7A.out
        have c7 : w7.cell? ⟨kb, 1, none⟩ = some (.slice A6 n6 c6) := cell_atK hbx7 1
        have f7 : w7.frozen? ⟨kb, 1, none⟩ = false := frozen_of_block hbx7 1
        go_simp
        have hH5 := hH4.trans ((Keeps.one w7 kb 1 (.slice A9 n9 c9)).mono (T := fun b => (Value.slice A6 n6 c6).ownBlock = some b ∨ b = kb) (fun b _ h => .inr h)) (fun b _ h => h)
        refine hK.out _ _ hH5 (fun _ => ?_)
        clear hK K
        try simp only [Act.put, List.setIfInBounds_toArray, List.set_cons_zero, List.set_cons_succ]
        refine wpAnyH_done (by kernel_rfl) ?_ _
        have hfin := HCLOSE.out w6 w7 HK46.out cgb VA vn vc (HROW.out.quiet HK56.out) HVP.out (.cells #[.int .u32 pc, .int .i64 many, .slice (some ⟨cgb, 0, none⟩) n n, .slice VA vn vc] 77) (.slice A9 n9 c9) hu7 hk7
        generalize World.setCell w7 _ _ = w8 at *
        go_wp2_with fail
        go_meet
        exact ⟨rfl, hfin⟩
      · go_simp
        refine (HCL.out _ HK45.out).mono ?_
        rintro e w6 ⟨vp, rfl, hvp, hk6⟩
        go_wp2_with fail
        have hH2 := hH1.trans (hk6.mono (fun _ _ h => h.elim)) (fun _ _ h => h)
        have HK46 := Lib.hid (HK45.out.trans hk6 (fun _ _ h => h))
        obtain ⟨VA, vc, hvv, _⟩ := id hvp
        obtain ⟨vn, hvn⟩ : ∃ x, ps.length = x := ⟨_, rfl⟩
        rw [hvn] at hvv
        subst hvv
        clear hvn
        refine hK.out _ _ hH2 (fun _ => ?_)
        clear hK K
        try simp only [Act.put, List.setIfInBounds_toArray, List.set_cons_zero, List.set_cons_succ]
        refine wpAnyH_take (i := 9) (v := ?_) rfl (by kernel_rfl) (by kernel_rfl) (by kernel_rfl) (fun _ _ _ h => h) (Or.inl ⟨by go_simp, ?_⟩) hH2 ?_
        rotate_left
        · intro w' hSw
          go_simp
          try with_reducible rfl
        simp only [Act.put, List.setIfInBounds_toArray, List.set_cons_zero, List.set_cons_succ]
        refine wpAnyH_ready (rs := [4, 10]) (by kernel_rfl) (by simp) ?_
        refine AllReadyH.cons rfl (fun K hK => ?_) (AllReadyH.cons rfl (fun K hK => ?_) AllReadyH.nil)
        · have c4x := HK46.out.cell' c4 (fun h => h)
          go_simp
          refine hK.out _ _ hH2 (fun _ => ?_)
          clear hK K c4x
          try simp only [Act.put, List.setIfInBounds_toArray, List.set_cons_zero, List.set_cons_succ]
          refine wpAnyH_ready (rs := [10]) (by kernel_rfl) (by simp) ?_
          refine AllReadyH.cons rfl (fun K hK => ?_) AllReadyH.nil
          go_simp
          have hH3 := hH2.alloc (.cells #[.int .u32 pc, .int .i64 many, .slice (some ⟨cgb, 0, none⟩) n n, .slice VA vn vc] 77)
          have HK47 := Lib.hid (HK46.out.alloc (.cells #[.int .u32 pc, .int .i64 many, .slice (some ⟨cgb, 0, none⟩) n n, .slice VA vn vc] 77))
          refine hK.out _ _ hH3 (fun _ => ?_)
          clear hK K
          try simp only [Act.put, List.setIfInBounds_toArray, List.set_cons_zero, List.set_cons_succ]
          have HROW := Lib.hid hrows
          have HVP := Lib.hid hvp
          have HK56 := Lib.hid hk6
          have HBX7A := Lib.hid ((HK47.out.block kb (Array.getElem?_eq_some_iff.1 HBX4.out).1 (fun h => h)).trans HBX4.out)
          have HCN := Lib.hid (fun j u hj => cells_new w6 [.int .u32 pc, .int .i64 many, .slice (some ⟨cgb, 0, none⟩) n n, .slice VA vn vc] 77 j u hj)
          have HOA := Lib.hid (HO4.out.quiet HK47.out)
          have HBB := Lib.hid (show B ≤ (w6.alloc (.cells #[.int .u32 pc, .int .i64 many, .slice (some ⟨cgb, 0, none⟩) n n, .slice VA vn vc] 77)).heap.size from Nat.le_trans (Nat.le_trans HK.out.low (Nat.le_of_lt HLT.out)) (Nat.le_trans (by rw [← HPBE.out]; exact HKK4.out.size) HK47.out.size))
          have HNL := Lib.hid (show (npK (fun k => k.pc == pc) l).length ≤ 1000000 from Nat.le_trans (List.length_filter_le _ _) (by have := HLN.out; omega))
          refine wpAnyH_ready (rs := [11]) (by kernel_rfl) (by simp) ?_
          refine AllReadyH.cons rfl (fun K hK => ?_) AllReadyH.nil
          refine step_append_k rfl _ _ rfl B (npK (fun k => k.pc == pc) l) (.slice A6 n6 c6) (by rfl) HOA.out w6.heap.size ⟨pc, many, some ⟨cgb, 0, none⟩, n, n, VA, vn, vc⟩ (by rfl) HCN.out HNL.out HBB.out ?_
          intro v' w7 hu7 hk7
          obtain ⟨A9, c9, hv9, _⟩ := id hu7
          obtain ⟨n9, hn9⟩ : ∃ x, (npK (fun k => k.pc == pc) l ++ [(⟨pc, many, some ⟨cgb, 0, none⟩, n, n, VA, vn, vc⟩ : K4)]).length = x := ⟨_, rfl⟩
          rw [hn9] at hv9
          subst hv9
          clear hn9
          have hH4 := hH3.trans (hk7.mono (T := fun b => (Value.slice A6 n6 c6).ownBlock = some b ∨ b = kb) (fun b _ h => .inl h)) (fun b _ h => h)
          refine hK.out _ _ hH4 (fun _ => ?_)
          clear hK K
          try simp only [Act.put, List.setIfInBounds_toArray, List.set_cons_zero, List.set_cons_succ]
          refine wpAnyH_take (i := 12) (v := ?_) rfl (by kernel_rfl) (by kernel_rfl) (by kernel_rfl) (fun _ _ _ h => h) (Or.inl ⟨by go_simp, ?_⟩) hH4 ?_
          rotate_left
          · intro w' hSw
            go_simp
            try with_reducible rfl
          simp only [Act.put, List.setIfInBounds_toArray, List.set_cons_zero, List.set_cons_succ]
          refine wpAnyH_take (i := 13) (v := ?_) rfl (by kernel_rfl) (by kernel_rfl) (by kernel_rfl) (fun _ _ _ h => h) (Or.inl ⟨by go_simp, ?_⟩) hH4 ?_
          rotate_left
          · intro w' hSw
            go_simp
            try with_reducible rfl
          simp only [Act.put, List.setIfInBounds_toArray, List.set_cons_zero, List.set_cons_succ]
          refine wpAnyH_ready (rs := [14]) (by kernel_rfl) (by simp) ?_
          refine AllReadyH.cons rfl (fun K hK => ?_) AllReadyH.nil
          have hbx7 := (hk7.block kb (Array.getElem?_eq_some_iff.1 (HBX7A.out)).1 HNG.out.1).trans HBX7A.out
          have c7 : w7.cell? ⟨kb, 1, none⟩ = some (.slice A6 n6 c6) := cell_atK hbx7 1
          have f7 : w7.frozen? ⟨kb, 1, none⟩ = false := frozen_of_block hbx7 1
          go_simp
          have hH5 := hH4.trans ((Keeps.one w7 kb 1 (.slice A9 n9 c9)).mono (T := fun b => (Value.slice A6 n6 c6).ownBlock = some b ∨ b = kb) (fun b _ h => .inr h)) (fun b _ h => h)
          refine hK.out _ _ hH5 (fun _ => ?_)
          clear hK K
          try simp only [Act.put, List.setIfInBounds_toArray, List.set_cons_zero, List.set_cons_succ]
          refine wpAnyH_done (by kernel_rfl) ?_ _
          have hfin := HCLOSE.out w6 w7 HK46.out cgb VA vn vc (HROW.out.quiet HK56.out) HVP.out (.cells #[.int .u32 pc, .int .i64 many, .slice (some ⟨cgb, 0, none⟩) n n, .slice VA vn vc] 77) (.slice A9 n9 c9) hu7 hk7
          generalize World.setCell w7 _ _ = w8 at *
          go_wp2_with fail
          go_meet
          exact ⟨rfl, hfin⟩
        · go_simp
          have hH3 := hH2.alloc (.cells #[.int .u32 pc, .int .i64 many, .slice (some ⟨cgb, 0, none⟩) n n, .slice VA vn vc] 77)
          have HK47 := Lib.hid (HK46.out.alloc (.cells #[.int .u32 pc, .int .i64 many, .slice (some ⟨cgb, 0, none⟩) n n, .slice VA vn vc] 77))
          refine hK.out _ _ hH3 (fun _ => ?_)
          clear hK K
          try simp only [Act.put, List.setIfInBounds_toArray, List.set_cons_zero, List.set_cons_succ]
          refine wpAnyH_ready (rs := [4]) (by kernel_rfl) (by simp) ?_
          refine AllReadyH.cons rfl (fun K hK => ?_) AllReadyH.nil
          have c4x := HK47.out.cell' c4 (fun h => h)
          go_simp
          refine hK.out _ _ hH3 (fun _ => ?_)
          clear hK K c4x
          try simp only [Act.put, List.setIfInBounds_toArray, List.set_cons_zero, List.set_cons_succ]
          have HROW := Lib.hid hrows
          have HVP := Lib.hid hvp
          have HK56 := Lib.hid hk6
          have HBX7A := Lib.hid ((HK47.out.block kb (Array.getElem?_eq_some_iff.1 HBX4.out).1 (fun h => h)).trans HBX4.out)
          have HCN := Lib.hid (fun j u hj => cells_new w6 [.int .u32 pc, .int .i64 many, .slice (some ⟨cgb, 0, none⟩) n n, .slice VA vn vc] 77 j u hj)
          have HOA := Lib.hid (HO4.out.quiet HK47.out)
          have HBB := Lib.hid (show B ≤ (w6.alloc (.cells #[.int .u32 pc, .int .i64 many, .slice (some ⟨cgb, 0, none⟩) n n, .slice VA vn vc] 77)).heap.size from Nat.le_trans (Nat.le_trans HK.out.low (Nat.le_of_lt HLT.out)) (Nat.le_trans (by rw [← HPBE.out]; exact HKK4.out.size) HK47.out.size))
          have HNL := Lib.hid (show (npK (fun k => k.pc == pc) l).length ≤ 1000000 from Nat.le_trans (List.length_filter_le _ _) (by have := HLN.out; omega))
          refine wpAnyH_ready (rs := [11]) (by kernel_rfl) (by simp) ?_
          refine AllReadyH.cons rfl (fun K hK => ?_) AllReadyH.nil
          refine step_append_k rfl _ _ rfl B (npK (fun k => k.pc == pc) l) (.slice A6 n6 c6) (by rfl) HOA.out w6.heap.size ⟨pc, many, some ⟨cgb, 0, none⟩, n, n, VA, vn, vc⟩ (by rfl) HCN.out HNL.out HBB.out ?_
          intro v' w7 hu7 hk7
          obtain ⟨A9, c9, hv9, _⟩ := id hu7
          obtain ⟨n9, hn9⟩ : ∃ x, (npK (fun k => k.pc == pc) l ++ [(⟨pc, many, some ⟨cgb, 0, none⟩, n, n, VA, vn, vc⟩ : K4)]).length = x := ⟨_, rfl⟩
          rw [hn9] at hv9
          subst hv9
          clear hn9
          have hH4 := hH3.trans (hk7.mono (T := fun b => (Value.slice A6 n6 c6).ownBlock = some b ∨ b = kb) (fun b _ h => .inl h)) (fun b _ h => h)
          refine hK.out _ _ hH4 (fun _ => ?_)
          clear hK K
          try simp only [Act.put, List.setIfInBounds_toArray, List.set_cons_zero, List.set_cons_succ]
          refine wpAnyH_take (i := 12) (v := ?_) rfl (by kernel_rfl) (by kernel_rfl) (by kernel_rfl) (fun _ _ _ h => h) (Or.inl ⟨by go_simp, ?_⟩) hH4 ?_
          rotate_left
          · intro w' hSw
            go_simp
            try with_reducible rfl
          simp only [Act.put, List.setIfInBounds_toArray, List.set_cons_zero, List.set_cons_succ]
          refine wpAnyH_take (i := 13) (v := ?_) rfl (by kernel_rfl) (by kernel_rfl) (by kernel_rfl) (fun _ _ _ h => h) (Or.inl ⟨by go_simp, ?_⟩) hH4 ?_
          rotate_left
          · intro w' hSw
            go_simp
            try with_reducible rfl
          simp only [Act.put, List.setIfInBounds_toArray, List.set_cons_zero, List.set_cons_succ]
          refine wpAnyH_ready (rs := [14]) (by kernel_rfl) (by simp) ?_
          refine AllReadyH.cons rfl (fun K hK => ?_) AllReadyH.nil
          have hbx7 := (hk7.block kb (Array.getElem?_eq_some_iff.1 (HBX7A.out)).1 HNG.out.1).trans HBX7A.out
          have c7 : w7.cell? ⟨kb, 1, none⟩ = some (.slice A6 n6 c6) := cell_atK hbx7 1
          have f7 : w7.frozen? ⟨kb, 1, none⟩ = false := frozen_of_block hbx7 1
          go_simp
          have hH5 := hH4.trans ((Keeps.one w7 kb 1 (.slice A9 n9 c9)).mono (T := fun b => (Value.slice A6 n6 c6).ownBlock = some b ∨ b = kb) (fun b _ h => .inr h)) (fun b _ h => h)
          refine hK.out _ _ hH5 (fun _ => ?_)
          clear hK K
          try simp only [Act.put, List.setIfInBounds_toArray, List.set_cons_zero, List.set_cons_succ]
          refine wpAnyH_done (by kernel_rfl) ?_ _
          have hfin := HCLOSE.out w6 w7 HK46.out cgb VA vn vc (HROW.out.quiet HK56.out) HVP.out (.cells #[.int .u32 pc, .int .i64 many, .slice (some ⟨cgb, 0, none⟩) n n, .slice VA vn vc] 77) (.slice A9 n9 c9) hu7 hk7
          generalize World.setCell w7 _ _ = w8 at *
          go_wp2_with fail
          go_meet
          exact ⟨rfl, hfin⟩
  case rest =>
    obtain ⟨rfl, kn, pg', rw', hk1, hk2, hk3, hk4, hk5, hK8, hKT⟩ := hcut
    have hK8 : KeepAt wc B kb mx (npK (fun k => k.pc == pc) l ++ [kn]) pg' rw' := hK8
    have HR := Lib.hid (And.intro hk1 (And.intro hk2 (And.intro hk3 (And.intro hk4 hk5))))
    have HK8 := Lib.hid hK8
    have HKT := Lib.hid hKT
    obtain ⟨v, hb, hko⟩ := hK8.box
    obtain ⟨A8, c8, hv, _⟩ := id hko
    have HLL := Lib.hid (show (npK (fun k => k.pc == pc) l ++ [kn]).length = (npK (fun k => k.pc == pc) l).length + 1 by simp)
    have HPL := Lib.hid (show putL mx l kn = if mx < ((npK (fun k => k.pc == pc) l).length : Int) + 1 then (npK (fun k => k.pc == pc) l ++ [kn]).eraseIdx 0 else npK (fun k => k.pc == pc) l ++ [kn] by
      unfold putL
      rw [hk1])
    have HNL := Lib.hid (show (npK (fun k => k.pc == pc) l).length ≤ 100000 from Nat.le_trans (List.length_filter_le _ _) HLN.out)
    obtain ⟨L8, hL8⟩ : ∃ L, npK (fun k => k.pc == pc) l ++ [kn] = L := ⟨_, rfl⟩
    rw [hL8] at hv HK8 hko HLL HPL
    obtain ⟨n8, hn⟩ : ∃ n, L8.length = n := ⟨_, rfl⟩
    rw [hn] at hv
    subst hv
    have HBX8 := Lib.hid hb
    have HKO8 := Lib.hid hko
    have hn8 : n8 = (npK (fun k => k.pc == pc) l).length + 1 := by rw [← hn]; exact HLL.out
    have HN8 := Lib.hid hn8
    have HNE := Lib.hid hn
    have hn8p : 0 < n8 := by omega
    have hn8b : n8 ≤ 100001 := by have := HNL.out; omega
    clear hb hko hn hk1 hk2 hk3 hk4 hk5 hK8 hKT hL8 hn8
    have b0 : wc.cell? ⟨kb, 0, none⟩ = some (.int .i64 mx) := cell_atK HBX8.out 0
    have b1 : wc.cell? ⟨kb, 1, none⟩ = some (.slice A8 n8 c8) := cell_atK HBX8.out 1
    have HQN := Lib.hid (fun q => (Keeps.refl (fun _ => False) wc).drewN q)
    by_cases hgt : mx < (n8 : Int)
    · have HDEL := Lib.hid (fun q => show Calls Tryz.prog 33 #[.slice A8 n8 c8, .int .i64 0, .int .i64 1] (wc.drewN q) (fun e w' => e = .returned (.slice A8 (n8 - 1) c8) ∧ KOwn w' B (L8.eraseIdx 0) (.slice A8 (n8 - 1) c8) ∧ w'.heap[kb]? = some (.cells #[.int .i64 mx, .slice A8 n8 c8] 67 (0, 0)) ∧ (∀ k ∈ L8, EntAt w' (pg' k) (rw' k) k) ∧ Keeps (fun b => (Value.slice A8 n8 c8).ownBlock = some b) wc w') from by
        have hq := (Keeps.refl (fun _ => False) wc).drewN q
        refine ((deleteFirstK B kb mx L8 pg' rw' A8 n8 c8 (wc.drewN q) (HK8.out.quiet hq) ((hq.block kb (Array.getElem?_eq_some_iff.1 HBX8.out).1 (fun h => h)).trans HBX8.out) (HKO8.out.quiet hq) 0 (by rw [HNE.out]; omega) (by rw [HNE.out]; omega)).2).mono ?_
        rintro e w5 ⟨h1, h2, h3, h4, h5⟩
        exact ⟨h1, h2, h3, h4, (hq.mono (fun _ _ h => h.elim)).trans h5 (fun _ _ h => h)⟩)
      have HIF := Lib.hid (show putL mx l kn = L8.eraseIdx 0 by rw [HPL.out, if_pos (by have := HN8.out; omega)])
      go_wp2_with fail
      go_quiet (fail)
      go_wp2_with fail
      refine (HDEL.out _).mono ?_
      rintro e wd ⟨rfl, hod, hbd, hed, hkd⟩
      have hput := KeepAt.putList (v' := .slice A8 (n8 - 1) c8) ⟨_, hbd⟩ HK.out.low hod (fun k hk => hed k (List.mem_of_mem_eraseIdx hk))
      have c9 : wd.cell? ⟨kb, 1, none⟩ = some (.slice A8 n8 c8) := cell_atK hbd 1
      have f9 : wd.frozen? ⟨kb, 1, none⟩ = false := frozen_of_block hbd 1
      have HPUT := Lib.hid (show PutIs w B kb mx l pg rw pc many ps rows (putL mx l) (wd.setCell ⟨kb, 1, none⟩ (.slice A8 (n8 - 1) c8)) from ⟨kn, pg', rw', HR.out.1, HR.out.2.1, HR.out.2.2.1, HR.out.2.2.2.1, HR.out.2.2.2.2, by rw [HIF.out]; exact hput.1, KT.trans HKT.out ((hkd.mono (T := KT B wc) (fun b _ h => by
        obtain ⟨c2, h2⟩ := HKO8.out.typed b h
        exact ⟨(HKO8.out.low b h).1, _, _, _, h2, .inl rfl⟩)).trans hput.2 (fun b hb e => by
        have e : b = kb := e
        subst e
        exact ⟨HK.out.low, _, _, _, HBX8.out, .inr rfl⟩))⟩)
      clear hput hbd hod hed hkd b0 b1
      go_wp2_with fail
      clear c9 f9
      generalize World.setCell wd _ _ = w9 at *
      go_ret
      exact ⟨rfl, HPUT.out⟩
    · have HIF := Lib.hid (show putL mx l kn = L8 by rw [HPL.out, if_neg (by have := HN8.out; omega)])
      go_wp2_with fail
      go_quiet (fail)
      go_wp2_with fail
      go_ret
      exact ⟨rfl, kn, pg', rw', HR.out.1, HR.out.2.1, HR.out.2.2.1, HR.out.2.2.2.1, HR.out.2.2.2.2, by rw [HIF.out]; exact HK8.out.quiet (HQN.out _), HKT.out.trans (HQN.out _) (fun _ _ h => h.elim)⟩

end Go.Proofs.YtlmnmncdoiealaaGreatDoor
