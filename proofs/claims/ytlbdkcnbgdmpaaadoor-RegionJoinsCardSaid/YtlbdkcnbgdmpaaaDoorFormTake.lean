
/- The walk of former.take. -/
import Derived.Test.YtlbdkcnbgdmpaaaDoorFormIn
import Derived.Deep.RegionHeld3
namespace Go.Proofs.YtlbdkcnbgdmpaaaDoor
open Go.RowKit Go.Deep
set_option linter.unusedVariables false

theorem ints_of_pages {w : World} {B : Nat} {v : Value} {ps : List Nat} (h : w.ownsRow B 3 1 v ps.length (pageL ps)) : ∃ A cap, v = .slice A ps.length cap ∧ IntsAt w A ps.length cap (fun i => ((ps.getD i 0 : Nat) : Int)) := by
  by_cases h0 : ps.length = 0
  · rcases h.2 with ⟨h1, h2⟩ | ⟨g, cap, cur, h1, h2, h3, h4, h5, _⟩
    · exact ⟨none, 0, by rw [h1, h2], by omega, by omega, .inl h0⟩
    · exact ⟨_, cap, h1, h4, by unfold maxLen at h5; omega, .inl h0⟩
  · obtain ⟨g, cap, h1, _, h3, h4, h5⟩ := owns_some h (by omega)
    refine ⟨_, cap, h1, h3, by unfold maxLen at h4; omega, .inr ⟨g, 0, rfl, fun i hi => ?_⟩⟩
    rw [Nat.zero_add]
    exact h5 i _ (by simp [pageL, hi])
theorem mem_getD (ps : List Nat) (p : Nat) : p ∈ ps ↔ ∃ i, i < ps.length ∧ ((ps.getD i 0 : Nat) : Int) = p := by
  constructor
  · intro h
    obtain ⟨i, hi, e⟩ := List.getElem_of_mem h
    exact ⟨i, hi, by simp [hi, e]⟩
  · rintro ⟨i, hi, e⟩
    have : ps[i] = p := by simp [hi] at e; omega
    rw [← this]
    exact List.getElem_mem hi

theorem FAt.addPage {w w1 : World} {B f r : Nat} {most : Int} {pc : Nat} {iv pv pv' : Value} {n : Nat} {ps : List Nat} {st : Nat} {m : Nat → Int} (F : FAt w B f r most pc iv pv n ps st m) (p : Nat)
    (hk : Keeps (fun k => pv.ownBlock = some k) w w1) (hown : w1.ownsRow B 3 1 pv' (ps.length + 1) (pageL ps ++ [.int .i64 p])) (hmv : Moved w pv pv') :
    FAt (w1.setCell ⟨f, 4, none⟩ pv') B f r most pc iv pv' n (ps ++ [p]) st m ∧ Keeps (fun k => k = f ∨ pv.ownBlock = some k) w (w1.setCell ⟨f, 4, none⟩ pv') := by
  have hbl : f < w.heap.size := (Array.getElem?_eq_some_iff.1 F.box).1
  have hb1 := (hk.block f hbl F.fp).trans F.box
  have hst := Keeps.one w1 f 4 pv'
  have htb := hmv.ne hbl F.fp
  have hkk : Keeps (fun k => k = f ∨ pv.ownBlock = some k) w (w1.setCell ⟨f, 4, none⟩ pv') := Keeps.trans (hk.mono (fun k _ h => Or.inr h)) hst (fun k _ h => Or.inl h)
  have hot : ∀ g, iv.ownBlock = some g → ¬ (g = f ∨ pv.ownBlock = some g) := by
    intro g hg h
    rcases h with rfl | h
    · exact F.fi hg
    · rcases F.ip with h0 | h0
      · rw [h0] at hg; cases hg
      · exact h0 (hg.trans h.symm)
  refine ⟨⟨?_, owns_keep F.ins hkk hot, ?_, F.low, F.fi, htb, ?_⟩, hkk⟩
  · exact set_block hb1 4 pv'
  · have := owns_keep hown hst (fun g hg e => htb (e ▸ hg))
    simpa [pageL] using this
  · cases hov : iv.ownBlock with
    | none => exact .inl rfl
    | some g =>
      refine .inr fun e => ?_
      rcases hmv with h | h
      · exact hot g hov (.inr (h ▸ e.symm))
      · have := owns_lt F.ins hov
        have := h g e.symm
        omega
theorem FAt.addIns {w w1 : World} {B f r : Nat} {most : Int} {pc : Nat} {iv iv' pv : Value} {n : Nat} {ps : List Nat} {st : Nat} {m : Nat → Int} (F : FAt w B f r most pc iv pv n ps st m)
    (hk : Keeps (fun k => iv.ownBlock = some k) w w1) (hown : w1.ownsRow B 39 5 iv' (n + 1) (insL m pc n ++ (insC (nth m pc n)).toList)) (hmv : Moved w iv iv') :
    FAt (w1.setCell ⟨f, 3, none⟩ iv') B f r most pc iv' pv (n + 1) ps st m ∧ Keeps (fun k => k = f ∨ iv.ownBlock = some k) w (w1.setCell ⟨f, 3, none⟩ iv') := by
  have hbl : f < w.heap.size := (Array.getElem?_eq_some_iff.1 F.box).1
  have hb1 := (hk.block f hbl F.fi).trans F.box
  have hst := Keeps.one w1 f 3 iv'
  have htb := hmv.ne hbl F.fi
  have hkk : Keeps (fun k => k = f ∨ iv.ownBlock = some k) w (w1.setCell ⟨f, 3, none⟩ iv') := Keeps.trans (hk.mono (fun k _ h => Or.inr h)) hst (fun k _ h => Or.inl h)
  have hot : ∀ g, pv.ownBlock = some g → ¬ (g = f ∨ iv.ownBlock = some g) := by
    intro g hg h
    rcases h with rfl | h
    · exact F.fp hg
    · rcases F.ip with h0 | h0
      · rw [h0] at h; cases h
      · exact h0 (h.trans hg.symm)
  refine ⟨⟨set_block hb1 3 iv', ?_, owns_keep F.pg hkk hot, F.low, htb, F.fp, ?_⟩, hkk⟩
  · rw [insL_succ]
    exact owns_keep hown hst (fun g hg e => htb (e ▸ hg))
  · cases hov : iv'.ownBlock with
    | none => exact .inl rfl
    | some g =>
      refine .inr fun e => ?_
      rcases hmv with h | h
      · exact hot g e.symm (.inr (h ▸ hov))
      · have := owns_lt F.pg e.symm
        have := h g hov
        omega
theorem FAt.addStore {w : World} {B f r : Nat} {most : Int} {pc : Nat} {iv pv : Value} {n : Nat} {ps : List Nat} {st : Nat} {m : Nat → Int} (F : FAt w B f r most pc iv pv n ps st m) (v : Value) (hv : v = .int .i64 ((st + 1 : Nat) : Int)) :
    FAt (w.setCell ⟨f, 5, none⟩ v) B f r most pc iv pv n ps (st + 1) m ∧ Keeps (fun k => k = f) w (w.setCell ⟨f, 5, none⟩ v) := by
  subst hv
  have hst := Keeps.one w f 5 (.int .i64 ((st + 1 : Nat) : Int))
  exact ⟨⟨set_block F.box 5 _, owns_keep F.ins hst (fun g hg e => F.fi (e ▸ hg)), owns_keep F.pg hst (fun g hg e => F.fp (e ▸ hg)), F.low, F.fi, F.fp, F.ip⟩, hst⟩

/-- what a take leaves -/
def Taken (w w' : World) (B f r : Nat) (most : Int) (pc : Nat) (iv pv : Value) (n : Nat) (ps : List Nat) (st : Nat) (m : Nat → Int) : Prop :=
  ∃ iv' pv', FAt w' B f r most pc iv' pv' n ps st m ∧ Moved w iv iv' ∧ Moved w pv pv' ∧ Keeps (fun k => k = f ∨ iv.ownBlock = some k ∨ pv.ownBlock = some k) w w'
def pageStep (pc n : Nat) (ps : List Nat) : List Nat := if (pc + 4 * n) / 256 ∈ ps then ps else ps ++ [(pc + 4 * n) / 256]

set_option maxRecDepth 100000 in
set_option maxHeartbeats 4000000 in
theorem take_any (B f r : Nat) (most : Int) (pc : Nat) (iv pv : Value) (n : Nat) (ps : List Nat) (st : Nat) (m : Nat → Int) (w : World) (F : FAt w B f r most pc iv pv n ps st m) (hp : pc + 4 * n < 4294967296) (hn : n < 24) (hps : ps.length ≤ 24) (hst : st < 1000) (st' : Nat) (hst' : Hid (st' = if kdAt m pc n = 3 then st + 1 else st)) :
    Calls Tryd.prog 36 #[.pointer (some ⟨f, 0, none⟩), .agg (insC (nth m pc n))] w fun e w' => e = .returned (.tuple #[]) ∧
      Taken w w' B f r most pc iv pv (n + 1) (pageStep pc n ps) st' m := by
  obtain ⟨ii, hii, hiz0, hiz1, hiz2⟩ := info_parts Tryd.info_ins
  obtain ⟨i0, hi, hz0, hz1, hz2⟩ := info_parts Tryd.info_int
  have hop : (nth m pc n).op < 54 := (Cd.ok_dec _).op
  have HKD := Lib.hid (show kdAt m pc n = Cd.kd (nth m pc n).op from rfl)
  generalize hnn : nth m pc n = ins at *
  have HNN := Lib.hid hnn
  clear hnn
  obtain ⟨op, S, T, D, imm⟩ := ins
  have hb := blk_alloc_new w (.cells #[.int .i64 op, .int .i64 S, .int .i64 T, .int .i64 D, .int .u32 imm] 39)
  have kb := (Keeps.refl (fun _ => False) w).alloc (.cells #[.int .i64 op, .int .i64 S, .int .i64 T, .int .i64 D, .int .u32 imm] 39)
  have hfw : f < w.heap.size := (Array.getElem?_eq_some_iff.1 F.box).1
  have hiw : ∀ g, iv.ownBlock = some g → g < w.heap.size := fun g hg => owns_lt F.ins hg
  have hpw : ∀ g, pv.ownBlock = some g → g < w.heap.size := fun g hg => owns_lt F.pg hg
  have F1 := F.quiet kb
  have HKB := Lib.hid kb
  unfold insC
  go_enter Tryd.func36, Tryd.ntmps36
  go_wp2_with fail
  generalize w.alloc (.cells #[.int .i64 op, .int .i64 S, .int .i64 T, .int .i64 D, .int .u32 imm] 39) = wb at *
  generalize hx : w.heap.size = x at *
  have HX := Lib.hid hx
  clear hx
  refine (next_any B f r most pc iv pv n ps st m _ F1 hp).mono ?_
  rintro e w2 ⟨rfl, hk2⟩
  have F2 := Lib.hid (F1.quiet hk2)
  have HB2 := Lib.hid (at_end (i := ⟨0, 0, 0, 0, 0⟩) hb hk2)
  have HK2 := Lib.hid (HKB.out.trans hk2 (fun _ _ h => h))
  clear F F1 hb kb hk2
  obtain ⟨A, cp, rfl, hI⟩ := ints_of_pages F2.out.pg
  have HI := Lib.hid hI
  obtain ⟨c0, c1, c2, c3, c4, c5⟩ := F2.out.cells
  clear hI
  go_wp2_with fail
  have hP : ((pc : Int) + 4 * n) / 256 = (((pc + 4 * n) / 256 : Nat) : Int) := by omega
  rw [hP]
  have HPS := Lib.hid (show pageStep pc n ps = if (pc + 4 * n) / 256 ∈ ps then ps else ps ++ [(pc + 4 * n) / 256] from rfl)
  generalize (pc + 4 * n) / 256 = P at *
  clear hP
  refine (contains_any A ps.length cp _ _ (decide (P ∈ ps)) _ HI.out (by rw [decide_eq_true_iff]; exact mem_getD ps P)).mono ?_
  rintro e w' ⟨rfl, rfl⟩
  have HB := Lib.hid (show B ≤ w2.heap.size by have := F2.out.low; have := F2.out.box; have := (Array.getElem?_eq_some_iff.1 this).1; omega)
  have hmx : ps.length + 1 ≤ maxLen := by unfold maxLen; omega
  have hmx2 : n + 1 ≤ maxLen := by unfold maxLen; omega
  have HC4 := Lib.hid c4
  by_cases hmem : P ∈ ps
  · rw [decide_eq_true hmem]
    have F3 : Hid (FAt w2 B f r most pc iv (.slice A ps.length cp) n (pageStep pc n ps) st m) := Lib.hid (by rw [HPS.out, if_pos hmem]; exact F2.out)
    have HM3 : Hid (Moved w (.slice A ps.length cp) (.slice A ps.length cp)) := Lib.hid (.inl rfl)
    have HB3 := HB2
    have HK3 : Hid (Keeps (fun k => k = f ∨ (Value.slice A ps.length cp).ownBlock = some k) w w2) := Lib.hid (HK2.out.mono (fun _ _ h => h.elim))
    have HCN := Lib.hid (fun (j : Nat) (u : Value) (h : [Value.int .i64 op, .int .i64 S, .int .i64 T, .int .i64 D, .int .u32 imm][j]? = some u) => cells_new w2.drew [Value.int .i64 op, .int .i64 S, .int .i64 T, .int .i64 D, .int .u32 imm] 39 j u h)
    obtain ⟨⟨b0, b1, b2, b3, b4⟩, _⟩ := cells5 HB3.out
    clear hmem F2 HB2 HK2
    go_wp2_with fail
    have hcn := HCN.out
    have hcl := cell_alloc c3 (.cells #[.int .i64 op, .int .i64 S, .int .i64 T, .int .i64 D, .int .u32 imm] 39)
    go_region_law (refine step_append_mine rfl (.tmp 34) (.tmp 36) 27 rfl B 39 ii _ 5 40 Tryd.underlying27 hii hiz0 hiz1 hiz2 rfl (by decide) iv n (insL m pc n) (by simp [Act.eval]) (F3.out.ins.alloc _) ⟨w2.heap.size, 0, none⟩ 1 1 [.int .i64 op, .int .i64 S, .int .i64 T, .int .i64 D, .int .u32 imm] (by simp [Act.eval]) rfl hcn (by simp [Value.oneCell']) hmx2 (by omega) (Nat.le_trans HB.out (Keeps.size (((Keeps.refl (fun _ => False) w2).alloc _).drew))) ?_; intro iv' w4 hown hgr hmv; obtain ⟨A4, cap4, rfl⟩ := owns_slice hown; have hk4 : Keeps (fun k => iv.ownBlock = some k) w2 w4 := (((Keeps.refl _ w2).alloc _).drew).grown hgr (fun k hk _ => hk); have hb4 := (hk4.block f (Array.getElem?_eq_some_iff.1 F3.out.box).1 (fun h => F3.out.fi h)).trans F3.out.box; have hc4 : w4.cell? ⟨f, 3, none⟩ = some iv := (by simp [World.cell?, hb4]); have hf4 := frozen_of_block hb4 3)
    all_goals (
      clear hcn hcl b0 b1 b2 b3 b4 c0 c1 c2 c3 c4 c5 hb4 hc4 hf4
      have hown' : w4.ownsRow B 39 5 (.slice A4 (n + 1) cap4) (n + 1) (insL m pc n ++ (insC (nth m pc n)).toList) := by rw [HNN.out]; exact hown
      have hsz3 : w.heap.size ≤ w2.heap.size := HK3.out.size
      have hmv4 : Moved w2 iv (.slice A4 (n + 1) cap4) := hmv.of_le (Keeps.size (((Keeps.refl (fun _ => False) w2).alloc _).drew))
      obtain ⟨F5, K5⟩ := F3.out.addIns hk4 hown' hmv4
      clear hown hown' hgr hmv hk4
      generalize w4.setCell ⟨f, 3, none⟩ (.slice A4 (n + 1) cap4) = w5 at *
      have HB5 := Lib.hid ((K5.block x (Array.getElem?_eq_some_iff.1 HB3.out).1 (fun h => h.elim (fun h => by omega) (fun h => by have := hiw x h; omega))).trans HB3.out)
      have HM4 := Lib.hid (hmv4.of_le hsz3)
      have HK5 : Hid (Keeps (fun k => k = f ∨ iv.ownBlock = some k ∨ (Value.slice A ps.length cp).ownBlock = some k) w w5) := Lib.hid (Keeps.trans (HK3.out.mono (fun k _ h => h.elim .inl (fun h => .inr (.inr h)))) K5 (fun k _ h => h.elim .inl (fun h => .inr (.inl h))))
      have HF5 := Lib.hid F5
      obtain ⟨⟨b0, b1, b2, b3, b4⟩, _⟩ := cells5 HB5.out
      clear F5 K5 hmv4
      go_wp2_with fail
      refine (Kind_any op hop _).mono ?_
      rintro e w6 ⟨rfl, hk6⟩
      have HF6 := Lib.hid (HF5.out.quiet hk6)
      have HK6 := Lib.hid (HK5.out.trans hk6 (fun _ _ h => h.elim))
      obtain ⟨e0, e1, e2, e3, e4, e5⟩ := HF6.out.cells
      have hf6 := frozen_of_block HF6.out.box 5
      have HTS := Lib.hid (kd_test (Cd.kd op) (kd_lt6 op hop)).1
      clear hk6 b0 b1 b2 b3 b4
      by_cases h3 : Cd.kd op = 3
      · have t1 : ((⟨(Cd.kindS (Cd.kd op)).toArray⟩ : ByteArray).toList == [115, 116, 111, 114, 101]) = true := by rw [HTS.out]; simp [h3]
        have HIF := Lib.hid (show st' = st + 1 by rw [hst'.out, HKD.out, if_pos h3])
        generalize (⟨(Cd.kindS (Cd.kd op)).toArray⟩ : ByteArray) = ks at *
        clear h3
        go_wp2_with fail
        refine bodyPost_end (results_none rfl _ _ _) rfl ⟨rfl, ?_⟩
        obtain ⟨F7, K7⟩ := HF6.out.addStore (.int .i64 ((st : Int) + 1)) (by push_cast; rfl)
        rw [HIF.out]
        exact ⟨_, _, F7, HM4.out, HM3.out, HK6.out.trans K7 (fun k _ h => .inl h)⟩
      · have t1 : ((⟨(Cd.kindS (Cd.kd op)).toArray⟩ : ByteArray).toList == [115, 116, 111, 114, 101]) = false := by rw [HTS.out]; simp [h3]
        have HIF := Lib.hid (show st' = st by rw [hst'.out, HKD.out, if_neg h3])
        generalize (⟨(Cd.kindS (Cd.kd op)).toArray⟩ : ByteArray) = ks at *
        clear h3
        go_wp2_with fail
        refine bodyPost_end (results_none rfl _ _ _) rfl ⟨rfl, ?_⟩
        rw [HIF.out]
        exact ⟨_, _, HF6.out, HM4.out, HM3.out, HK6.out⟩)
  · rw [decide_eq_false hmem]
    have hcnp : ∀ j u, [Value.int .i64 (P : Int)][j]? = some u → (w2.alloc (.cells #[.int .i64 (P : Int)] 3)).cell? ((⟨w2.heap.size, 0, none⟩ : Addr).add j) = some u := fun j u h => cells_new w2 _ _ j u h
    go_wp2_with (at_builtin; refine wpList_append_mine rfl (.tmp 22) (.tmp 24) 28 rfl B 3 i0 _ 1 8 Tryd.underlying28 hi hz0 hz1 hz2 rfl (by decide) (.slice A ps.length cp) ps.length (pageL ps) rfl (F2.out.pg.alloc _) ⟨w2.heap.size, 0, none⟩ 1 1 [.int .i64 (P : Int)] rfl rfl hcnp (by simp [Value.oneCell']) hmx (by omega) (Nat.le_trans HB.out (Keeps.size ((Keeps.refl (fun _ => False) w2).alloc _))) ?_; intro pv' w3' hown hgr hmv; obtain ⟨A', cap', rfl⟩ := owns_slice hown; have hk3 : Keeps (fun k => (Value.slice A ps.length cp).ownBlock = some k) w2 w3' := ((Keeps.refl _ w2).alloc _).grown hgr (fun k hk _ => hk); have hb3 := (hk3.block f (Array.getElem?_eq_some_iff.1 F2.out.box).1 (fun h => F2.out.fp h)).trans F2.out.box; have hc3 : w3'.cell? ⟨f, 4, none⟩ = some (.slice A ps.length cp) := (by simp [World.cell?, hb3]); have hf3 := frozen_of_block hb3 4)
    have hmv3 : Moved w2 (.slice A ps.length cp) (.slice A' (ps.length + 1) cap') := hmv.of_le (Keeps.size ((Keeps.refl (fun _ => False) w2).alloc _))
    obtain ⟨F3', K3⟩ := F2.out.addPage P hk3 hown hmv3
    have HKW := Lib.hid (show Keeps (fun k => k = f ∨ (Value.slice A ps.length cp).ownBlock = some k) w w2 from HK2.out.mono (fun _ _ h => h.elim))
    have HB3 := Lib.hid ((K3.block x (Array.getElem?_eq_some_iff.1 HB2.out).1 (fun h => h.elim (fun h => by omega) (fun h => by have := hpw x h; omega))).trans HB2.out)
    have HK3 := Lib.hid (HKW.out.trans K3 (fun _ _ h => h))
    have HM3 := Lib.hid (hmv3.of_le (w := w) HK2.out.size)
    clear hc3 hf3 hb3 hk3 hown hgr hmv hmv3 hcnp c0 c1 c2 c3 c4 c5 K3
    generalize w3'.setCell ⟨f, 4, none⟩ (.slice A' (ps.length + 1) cap') = w3 at *
    have F3 : Hid (FAt w3 B f r most pc iv (.slice A' (ps.length + 1) cap') n (pageStep pc n ps) st m) := Lib.hid (by rw [HPS.out, if_neg hmem]; exact F3')
    have HBW := Lib.hid (show B ≤ w3.heap.size by have := F3.out.low; have := F3.out.box; have := (Array.getElem?_eq_some_iff.1 this).1; omega)
    have HCN := Lib.hid (fun (j : Nat) (u : Value) (h : [Value.int .i64 op, .int .i64 S, .int .i64 T, .int .i64 D, .int .u32 imm][j]? = some u) => cells_new w3.drew [Value.int .i64 op, .int .i64 S, .int .i64 T, .int .i64 D, .int .u32 imm] 39 j u h)
    obtain ⟨⟨b0, b1, b2, b3, b4⟩, _⟩ := cells5 HB3.out
    obtain ⟨c0, c1, c2, c3, c4, c5⟩ := F3.out.cells
    clear hmem F2 HB2 HK2 F3' HC4
    go_wp2_with fail
    have hcn := HCN.out
    have hcl := cell_alloc c3 (.cells #[.int .i64 op, .int .i64 S, .int .i64 T, .int .i64 D, .int .u32 imm] 39)
    go_region_law (refine step_append_mine rfl (.tmp 34) (.tmp 36) 27 rfl B 39 ii _ 5 40 Tryd.underlying27 hii hiz0 hiz1 hiz2 rfl (by decide) iv n (insL m pc n) (by simp [Act.eval]) (F3.out.ins.alloc _) ⟨w3.heap.size, 0, none⟩ 1 1 [.int .i64 op, .int .i64 S, .int .i64 T, .int .i64 D, .int .u32 imm] (by simp [Act.eval]) rfl hcn (by simp [Value.oneCell']) hmx2 (by omega) (Nat.le_trans HBW.out (Keeps.size (((Keeps.refl (fun _ => False) w3).alloc _).drew))) ?_; intro iv' w4 hown hgr hmv; obtain ⟨A4, cap4, rfl⟩ := owns_slice hown; have hk4 : Keeps (fun k => iv.ownBlock = some k) w3 w4 := (((Keeps.refl _ w3).alloc _).drew).grown hgr (fun k hk _ => hk); have hb4 := (hk4.block f (Array.getElem?_eq_some_iff.1 F3.out.box).1 (fun h => F3.out.fi h)).trans F3.out.box; have hc4 : w4.cell? ⟨f, 3, none⟩ = some iv := (by simp [World.cell?, hb4]); have hf4 := frozen_of_block hb4 3)
    all_goals (
      clear hcn hcl b0 b1 b2 b3 b4 c0 c1 c2 c3 c4 c5 hb4 hc4 hf4
      have hown' : w4.ownsRow B 39 5 (.slice A4 (n + 1) cap4) (n + 1) (insL m pc n ++ (insC (nth m pc n)).toList) := by rw [HNN.out]; exact hown
      have hsz3 : w.heap.size ≤ w3.heap.size := HK3.out.size
      have hmv4 : Moved w3 iv (.slice A4 (n + 1) cap4) := hmv.of_le (Keeps.size (((Keeps.refl (fun _ => False) w3).alloc _).drew))
      obtain ⟨F5, K5⟩ := F3.out.addIns hk4 hown' hmv4
      clear hown hown' hgr hmv hk4
      generalize w4.setCell ⟨f, 3, none⟩ (.slice A4 (n + 1) cap4) = w5 at *
      have HB5 := Lib.hid ((K5.block x (Array.getElem?_eq_some_iff.1 HB3.out).1 (fun h => h.elim (fun h => by omega) (fun h => by have := hiw x h; omega))).trans HB3.out)
      have HM4 := Lib.hid (hmv4.of_le hsz3)
      have HK5 : Hid (Keeps (fun k => k = f ∨ iv.ownBlock = some k ∨ (Value.slice A ps.length cp).ownBlock = some k) w w5) := Lib.hid (Keeps.trans (HK3.out.mono (fun k _ h => h.elim .inl (fun h => .inr (.inr h)))) K5 (fun k _ h => h.elim .inl (fun h => .inr (.inl h))))
      have HF5 := Lib.hid F5
      obtain ⟨⟨b0, b1, b2, b3, b4⟩, _⟩ := cells5 HB5.out
      clear F5 K5 hmv4
      go_wp2_with fail
      refine (Kind_any op hop _).mono ?_
      rintro e w6 ⟨rfl, hk6⟩
      have HF6 := Lib.hid (HF5.out.quiet hk6)
      have HK6 := Lib.hid (HK5.out.trans hk6 (fun _ _ h => h.elim))
      obtain ⟨e0, e1, e2, e3, e4, e5⟩ := HF6.out.cells
      have hf6 := frozen_of_block HF6.out.box 5
      have HTS := Lib.hid (kd_test (Cd.kd op) (kd_lt6 op hop)).1
      clear hk6 b0 b1 b2 b3 b4
      by_cases h3 : Cd.kd op = 3
      · have t1 : ((⟨(Cd.kindS (Cd.kd op)).toArray⟩ : ByteArray).toList == [115, 116, 111, 114, 101]) = true := by rw [HTS.out]; simp [h3]
        have HIF := Lib.hid (show st' = st + 1 by rw [hst'.out, HKD.out, if_pos h3])
        generalize (⟨(Cd.kindS (Cd.kd op)).toArray⟩ : ByteArray) = ks at *
        clear h3
        go_wp2_with fail
        refine bodyPost_end (results_none rfl _ _ _) rfl ⟨rfl, ?_⟩
        obtain ⟨F7, K7⟩ := HF6.out.addStore (.int .i64 ((st : Int) + 1)) (by push_cast; rfl)
        rw [HIF.out]
        exact ⟨_, _, F7, HM4.out, HM3.out, HK6.out.trans K7 (fun k _ h => .inl h)⟩
      · have t1 : ((⟨(Cd.kindS (Cd.kd op)).toArray⟩ : ByteArray).toList == [115, 116, 111, 114, 101]) = false := by rw [HTS.out]; simp [h3]
        have HIF := Lib.hid (show st' = st by rw [hst'.out, HKD.out, if_neg h3])
        generalize (⟨(Cd.kindS (Cd.kd op)).toArray⟩ : ByteArray) = ks at *
        clear h3
        go_wp2_with fail
        refine bodyPost_end (results_none rfl _ _ _) rfl ⟨rfl, ?_⟩
        rw [HIF.out]
        exact ⟨_, _, HF6.out, HM4.out, HM3.out, HK6.out⟩)
end Go.Proofs.YtlbdkcnbgdmpaaaDoor
