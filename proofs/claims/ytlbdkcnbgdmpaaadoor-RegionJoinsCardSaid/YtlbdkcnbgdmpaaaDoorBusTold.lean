
/- A bus as it lies; the walk of told. -/
import Derived.Test.YtlbdkcnbgdmpaaaDoorAlike
import Derived.Test.YtlbdkcnbgdmpaaaDoorGrow
namespace Go.Proofs.YtlbdkcnbgdmpaaaDoor
open Go.RowKit Go.Deep
set_option linter.unusedVariables false

theorem Tryd.info_acc : (Tryd.prog.info? 99).map (fun i => (i.zero, i.size, i.bytes)) = some (some (.agg #[.int .i64 0, .bool false, .int .u32 0, .int .u32 0]), 4, 24) := by kernel_rfl

/-- the cells of an access -/
def accC (c : Int) (s : Bool) (a v : Int) : List Value := [.int .i64 c, .bool s, .int .u32 a, .int .u32 v]

/-- a bus as it lies: its box, its rows -/
structure BusAt (w : World) (b r : Nat) (ov : Value) (on : Nat) (ob : List Value) (lamp : Int) (tv : Value) (tn : Nat) (tb : List Value) : Prop where
  box : w.heap[b]? = some (.cells #[.pointer (some ⟨r, 0, none⟩), ov, .int .u32 lamp, tv] 95 (0, 0))
  out : w.ownsRow 0 5 1 ov on ob
  tr : w.ownsRow 0 99 4 tv tn tb
  rng : 0 ≤ lamp ∧ lamp < 4294967296
  ob : ov.ownBlock ≠ some b
  tb : tv.ownBlock ≠ some b
  ot : ov.ownBlock = none ∨ ov.ownBlock ≠ tv.ownBlock

theorem BusAt.keep {w w' : World} {b r : Nat} {ov : Value} {on : Nat} {ob : List Value} {lamp : Int} {tv : Value} {tn : Nat} {tb : List Value} {S : Nat → Prop} (B : BusAt w b r ov on ob lamp tv tn tb) (k : Keeps S w w') (h1 : ¬ S b) (h2 : ∀ g, ov.ownBlock = some g → ¬ S g) (h3 : ∀ g, tv.ownBlock = some g → ¬ S g) : BusAt w' b r ov on ob lamp tv tn tb where
  box := (k.block b (Array.getElem?_eq_some_iff.1 B.box).1 h1).trans B.box
  out := owns_keep B.out k h2
  tr := owns_keep B.tr k h3
  rng := B.rng
  ob := B.ob
  tb := B.tb
  ot := B.ot

theorem Moved.of_le {w w2 : World} {v v' : Value} (h : Moved w2 v v') (hs : w.heap.size ≤ w2.heap.size) : Moved w v v' := by
  rcases h with h | h
  · exact .inl h
  · exact .inr fun k hk => Nat.le_trans hs (h k hk)
theorem owns_lt {w : World} {base : Nat} {e : TypeId} {size : Nat} {v : Value} {n : Nat} {xs : List Value} (h : w.ownsRow base e size v n xs) {k : Nat} (hk : v.ownBlock = some k) : k < w.heap.size := (h.lt k hk).2
theorem Moved.ne {w : World} {v v' : Value} {b : Nat} (h : Moved w v v') (hb : b < w.heap.size) (hn : v.ownBlock ≠ some b) : v'.ownBlock ≠ some b := by
  rcases h with h | h
  · rw [h]; exact hn
  · intro e; have := h b e; omega
theorem told_end {w w1 : World} {b r : Nat} {ov : Value} {on : Nat} {ob : List Value} {lamp : Int} {tv tv' : Value} {tn : Nat} {tb xs : List Value} (B : BusAt w b r ov on ob lamp tv tn tb)
    (hk : Keeps (fun k => tv.ownBlock = some k) w w1) (hown : w1.ownsRow 0 99 4 tv' (tn + 1) xs) (hmv : Moved w tv tv') :
    BusAt (w1.setCell ⟨b, 3, none⟩ tv') b r ov on ob lamp tv' (tn + 1) xs ∧ Moved w tv tv' ∧ Keeps (fun k => k = b ∨ tv.ownBlock = some k) w (w1.setCell ⟨b, 3, none⟩ tv') := by
  have hbl : b < w.heap.size := (Array.getElem?_eq_some_iff.1 B.box).1
  have hb1 := (hk.block b hbl B.tb).trans B.box
  have hst := Keeps.one w1 b 3 tv'
  have htb := hmv.ne hbl B.tb
  have hkk : Keeps (fun k => k = b ∨ tv.ownBlock = some k) w (w1.setCell ⟨b, 3, none⟩ tv') := Keeps.trans (hk.mono (fun k _ h => Or.inr h)) hst (fun k _ h => Or.inl h)
  have hot : ∀ g, ov.ownBlock = some g → ¬ (g = b ∨ tv.ownBlock = some g) := by
    intro g hg h
    rcases h with rfl | h
    · exact B.ob hg
    · rcases B.ot with h0 | h0
      · rw [h0] at hg; cases hg
      · exact h0 (hg.trans h.symm)
  refine ⟨⟨set_block hb1 3 tv', owns_keep B.out hkk hot, owns_keep hown hst (fun g hg e => htb (e ▸ hg)), B.rng, B.ob, htb, ?_⟩, hmv, hkk⟩
  cases hov : ov.ownBlock with
  | none => exact .inl rfl
  | some g =>
    refine .inr fun e => ?_
    rcases hmv with h | h
    · exact hot g hov (.inr (h ▸ e.symm))
    · have := owns_lt B.out hov
      have := h g e.symm
      omega

set_option maxHeartbeats 1000000 in
theorem told_any (b r : Nat) (ov : Value) (on : Nat) (ob : List Value) (lamp : Int) (tv : Value) (tn : Nat) (tb : List Value) (c : Int) (s : Bool) (a v : Int) (w : World) (B : BusAt w b r ov on ob lamp tv tn tb) (hn : tn < 1000000) :
    Calls Tryd.prog 98 #[.pointer (some ⟨b, 0, none⟩), .agg #[.int .i64 c, .bool s, .int .u32 a, .int .u32 v]] w fun e w' => e = .returned (.tuple #[]) ∧
      ∃ tv', BusAt w' b r ov on ob lamp tv' (tn + 1) (tb ++ accC c s a v) ∧ Moved w tv tv' ∧ Keeps (fun k => k = b ∨ tv.ownBlock = some k) w w' := by
  obtain ⟨i0, hi, hz0, hz1, hz2⟩ := info_parts Tryd.info_acc
  have hc3 : w.cell? ⟨b, 3, none⟩ = some tv := by simp [World.cell?, B.box]
  have hcl := cell_alloc hc3 (.cells #[.int .i64 c, .bool s, .int .u32 a, .int .u32 v] 99)
  go_enter Tryd.func98, Tryd.ntmps98
  go_wp2_with fail
  have B1 := B.keep ((Keeps.refl (fun _ => False) w).alloc (.cells #[.int .i64 c, .bool s, .int .u32 a, .int .u32 v] 99)) (fun h => h) (fun _ _ h => h) (fun _ _ h => h)
  have hbx := blk_alloc_new w (.cells #[.int .i64 c, .bool s, .int .u32 a, .int .u32 v] 99)
  have hk1 := (Keeps.refl (fun _ => False) w).alloc (.cells #[.int .i64 c, .bool s, .int .u32 a, .int .u32 v] 99)
  have hbl : b < w.heap.size := (Array.getElem?_eq_some_iff.1 B.box).1
  generalize hwa : w.alloc (.cells #[.int .i64 c, .bool s, .int .u32 a, .int .u32 v] 99) = wa at *
  generalize w.heap.size = x at *
  have c0 : wa.cell? ⟨x, 0, none⟩ = some (.int .i64 c) := by simp [World.cell?, hbx]
  have c1 : wa.cell? ⟨x, 1, none⟩ = some (.bool s) := by simp [World.cell?, hbx]
  have c2 : wa.cell? ⟨x, 2, none⟩ = some (.int .u32 a) := by simp [World.cell?, hbx]
  have c3 : wa.cell? ⟨x, 3, none⟩ = some (.int .u32 v) := by simp [World.cell?, hbx]
  have hcn : ∀ j u, (accC c s a v)[j]? = some u → (wa.drew.alloc (.cells (accC c s a v).toArray 99)).cell? ((⟨wa.heap.size, 0, none⟩ : Addr).add j) = some u := fun j u h => cells_new wa.drew _ _ j u h
  have hcl2 := cell_alloc hcl (.cells #[.int .i64 c, .bool s, .int .u32 a, .int .u32 v] 99)
  have hmx : tn + 1 ≤ maxLen := by unfold maxLen; omega
  go_region_law (refine step_append_mine rfl (.tmp 8) (.tmp 10) 66 rfl 0 99 i0 _ 4 24 Tryd.underlying66 hi hz0 hz1 hz2 rfl (by decide) tv tn tb (by simp [Act.eval]) (B1.tr.alloc _) ⟨wa.heap.size, 0, none⟩ 1 1 (accC c s a v) (by simp [Act.eval]) rfl hcn (by simp [accC, Value.oneCell']) hmx (by omega) (Nat.zero_le _) ?_; intro tv' w1 hown hgr hmv; obtain ⟨A', cap', rfl⟩ := owns_slice hown; have hk2 : Keeps (fun k => tv.ownBlock = some k) wa w1 := (((Keeps.refl _ wa).alloc _).drew).grown hgr (fun k hk _ => hk); have hb2 := (hk2.block b (Array.getElem?_eq_some_iff.1 B1.box).1 (fun h => B1.tb h)).trans B1.box; have hc2 : w1.cell? ⟨b, 3, none⟩ = some tv := (by simp [World.cell?, hb2]); have hf2 := frozen_of_block hb2 3)
  all_goals (
    go_wp2
    refine bodyPost_end (results_none rfl _ _ _) rfl ?_
    exact ⟨rfl, _, told_end B (Keeps.trans (hk1.mono (fun _ _ h => h.elim)) hk2 (fun _ _ h => h)) hown (hmv.of_le (Keeps.size ((hk1.alloc _).drew)))⟩)
end Go.Proofs.YtlbdkcnbgdmpaaaDoor
