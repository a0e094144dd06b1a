import Derived.Test.YtknhfobcejpmeaaDoorPcz18

/- MakeLayL -/
/- A maker's cells turn; what a lay does, by parts. Printed by gen/makelay.py. -/
namespace Go.Proofs.YtknhfobcejpmeaaDoor
open Go.RowKit Go.Deep
set_option linter.unusedVariables false
set_option linter.unusedSimpArgs false

/-- the rows as values -/
structure RowsVs (w : World) (B : Nat) (v : Value) (rows : List (List Ir.Op)) (vs : List Value) : Prop where
  len : vs.length = rows.length
  own : w.ownsRow B 26 1 v rows.length vs
  each : ∀ j, j < rows.length → OpsOwn w B (rows.getD j []) (vs.getD j (.slice none 0 0))
  dist : ∀ i j, i < rows.length → j < rows.length → i ≠ j → ∀ g, (vs.getD i (.slice none 0 0)).ownBlock = some g → ¬ (vs.getD j (.slice none 0 0)).ownBlock = some g
theorem RowsDist.vs {w : World} {B : Nat} {v : Value} {rows : List (List Ir.Op)} (h : RowsDist w B v rows) : ∃ vs, RowsVs w B v rows vs := by
  obtain ⟨vs, h1, h2, h3, h4⟩ := h
  exact ⟨vs, h1, h2, h3, h4⟩
theorem RowsVs.rows {w : World} {B : Nat} {v : Value} {rows : List (List Ir.Op)} {vs : List Value} (h : RowsVs w B v rows vs) : RowsDist w B v rows := ⟨vs, h.len, h.own, h.each, h.dist⟩
theorem RowsVs.quiet {w w' : World} {B : Nat} {v : Value} {rows : List (List Ir.Op)} {vs : List Value} (h : RowsVs w B v rows vs) (k : Keeps (fun _ => False) w w') : RowsVs w' B v rows vs :=
  ⟨h.len, owns_keep h.own k (fun _ _ h => h), fun j hj => (h.each j hj).keepS k (fun _ _ h => h), h.dist⟩
theorem RowsVs.lt {w : World} {B : Nat} {v : Value} {rows : List (List Ir.Op)} {vs : List Value} (h : RowsVs w B v rows vs) (j : Nat) (b : Nat) (hb : (vs.getD j (.slice none 0 0)).ownBlock = some b) : b < w.heap.size := by
  by_cases hj : j < rows.length
  · obtain ⟨A, c, e, ho⟩ := h.each j hj
    exact (ho.lt b hb).2
  · have e : vs.getD j (.slice none 0 0) = .slice none 0 0 := by
      have := h.len
      rw [List.getD_eq_getElem?_getD, List.getElem?_eq_none (by omega)]
      rfl
    rw [e] at hb
    cases hb
theorem RowsVs.snoc {w w3 : World} {B : Nat} {v v' : Value} {rows : List (List Ir.Op)} {vs : List Value} (h : RowsVs w B v rows vs) (hk : Keeps (fun k => v.ownBlock = some k) w w3) (hown : w3.ownsRow B 26 1 v' (rows.length + 1) (vs ++ [Value.slice none 0 0])) : RowsVs w3 B v' (rows ++ [[]]) (vs ++ [Value.slice none 0 0]) := by
  obtain ⟨h1, h2, h3, h4⟩ := rows_snoc h.len h.own h.each h.dist hk hown
  exact ⟨h1, h2, h3, h4⟩
theorem RowsVs.keep {S : Nat → Prop} {w w' : World} {B : Nat} {v : Value} {rows : List (List Ir.Op)} {vs : List Value} (h : RowsVs w B v rows vs) (k : Keeps S w w') (hs : ∀ g c t fz, w.heap[g]? = some (.cells c t fz) → (t = 26 ∨ t = 47) → B ≤ g → ¬ S g) : RowsVs w' B v rows vs := by
  refine ⟨h.len, owns_keep h.own k (fun g hg => ?_), fun j hj => (h.each j hj).keepS k (fun g hg => ?_), h.dist⟩
  · obtain ⟨c, hc⟩ := owns_typed h.own hg
    exact hs g c _ _ hc (.inl rfl) (h.own.lt g hg).1
  · obtain ⟨A, cap, e, ho⟩ := h.each j hj
    obtain ⟨c, hc⟩ := owns_typed ho hg
    exact hs g c _ _ hc (.inr rfl) (ho.lt g hg).1
theorem MakerAt.setSt {w : World} {B x bw br N : Nat} {v : Value} {m : Ir.Mk} (M : MakerAt w B x bw br N v m) (z : Int) (k : Nat) (hz : z = (k : Int) - 1) : MakerAt (w.setCell ⟨x, 3, none⟩ (.int .i64 z)) B x bw br N v { m with st := k } := by
  subst hz
  refine M.turn (Keeps.one _ _ _ _) ?_ rfl rfl rfl
  have := set_block M.blk 3 (.int .i64 ((k : Int) - 1))
  simpa [mkC] using this
theorem MakerAt.setLd {w : World} {B x bw br N : Nat} {v : Value} {m : Ir.Mk} (M : MakerAt w B x bw br N v m) (z : Int) (k : Nat) (hz : z = (k : Int) - 1) : MakerAt (w.setCell ⟨x, 4, none⟩ (.int .i64 z)) B x bw br N v { m with ld := k } := by
  subst hz
  refine M.turn (Keeps.one _ _ _ _) ?_ rfl rfl rfl
  have := set_block M.blk 4 (.int .i64 ((k : Int) - 1))
  simpa [mkC] using this
theorem MakerAt.setLv {w : World} {B x bw br N : Nat} {v : Value} {m : Ir.Mk} (M : MakerAt w B x bw br N v m) (z : Int) (k : Nat) (hz : z = (k : Int)) : MakerAt (w.setCell ⟨x, 5, none⟩ (.int .i64 z)) B x bw br N v { m with leave := k } := by
  subst hz
  refine M.turn (Keeps.one _ _ _ _) ?_ rfl rfl rfl
  have := set_block M.blk 5 (.int .i64 (k : Int))
  simpa [mkC] using this
theorem MakerAt.setFs {w : World} {B x bw br N : Nat} {v : Value} {m : Ir.Mk} (M : MakerAt w B x bw br N v m) (z : Int) (k : Nat) (hz : z = (k : Int)) : MakerAt (w.setCell ⟨x, 6, none⟩ (.int .i64 z)) B x bw br N v { m with first := k } := by
  subst hz
  refine M.turn (Keeps.one _ _ _ _) ?_ rfl rfl rfl
  have := set_block M.blk 6 (.int .i64 (k : Int))
  simpa [mkC] using this
/-- the maker behind an append to its rows, its cell set -/
theorem MakerAt.setRows {w w3 : World} {B x bw br N : Nat} {v v' : Value} {m : Ir.Mk} {rows : List (List Ir.Op)} {vs3 : List Value} (M : MakerAt w B x bw br N v m) (hk : Keeps (fun k => v.ownBlock = some k) w w3) (hr : RowsVs w3 B v' rows vs3) :
    MakerAt (w3.setCell ⟨x, 0, none⟩ v') B x bw br N v' { m with rows := rows } ∧ w3.frozen? ⟨x, 0, none⟩ = false ∧ w3.cell? ⟨x, 0, none⟩ = some v ∧ RowsVs (w3.setCell ⟨x, 0, none⟩ v') B v' rows vs3 := by
  obtain ⟨vs, hvs⟩ := M.rows.vs
  have hx : ∀ b c T, w.heap[b]? = some (.cells c T (0, 0)) → T ≠ 26 → ¬ v.ownBlock = some b := fun b c T hb hT e => by
    obtain ⟨c2, h2⟩ := owns_typed hvs.own e
    rw [hb] at h2
    injection h2 with h2
    injection h2 with _ h3
    exact hT h3
  have hm : ∀ b es c, w.heap[b]? = some (.map es c) → ¬ v.ownBlock = some b := fun b es c hb e => by
    obtain ⟨c2, h2⟩ := owns_typed hvs.own e
    rw [hb] at h2
    injection h2 with h2
    cases h2
  obtain ⟨es1, c1, b1⟩ := M.wr.blk
  obtain ⟨es2, c2, b2⟩ := M.rd.blk
  have hb3 : w3.heap[x]? = some (.cells (mkC v bw br m) 128 (0, 0)) := (hk.block x (Array.getElem?_eq_some_iff.1 M.blk).1 (hx x _ _ M.blk maker_ne.1)).trans M.blk
  have k3 : Keeps (· = x) w3 (w3.setCell ⟨x, 0, none⟩ v') := Keeps.one _ _ _ _
  have hr4 : RowsVs (w3.setCell ⟨x, 0, none⟩ v') B v' rows vs3 := hr.keep k3 (fun g c t fz hg ht _ e => by
    have e : g = x := e
    subst e
    rw [hb3] at hg
    injection hg with hg
    injection hg with _ e2
    rcases ht with rfl | rfl
    · exact maker_ne.1 e2
    · exact maker_ne.2 e2)
  refine ⟨⟨?_, M.low, hr4.rows, (M.wr.keep hk (hm _ _ _ b1)).keep k3 (fun e => M.ne_map.1 e.symm), (M.rd.keep hk (hm _ _ _ b2)).keep k3 (fun e => M.ne_map.2 e.symm)⟩, frozen_of_block hb3 0, ?_, hr4⟩
  · have := set_block hb3 0 v'
    simpa [mkC] using this
  · unfold World.cell?; rw [hb3]; rfl
/-- the maker behind an op's append to a row of its -/
theorem MakerAt.putRow {w w1 w2 : World} {B x bw br N g n cap k : Nat} {u : Value} {m : Ir.Mk} {l : List Ir.Op} {vs : List Value} (M : MakerAt w B x bw br N (.slice (some ⟨g, 0, none⟩) n cap) m) (hn : m.rows.length = n) (H : RowsVs w B (.slice (some ⟨g, 0, none⟩) n cap) m.rows vs) (hk : k < m.rows.length)
    (k1 : Keeps (fun _ => False) w w1) (k2 : Keeps (fun b => (vs.getD k (.slice none 0 0)).ownBlock = some b) w1 w2) (hu : OpsOwn w2 B l u) (hmv : Moved w1 (vs.getD k (.slice none 0 0)) u) :
    MakerAt (w2.setCell ⟨g, k, none⟩ u) B x bw br N (.slice (some ⟨g, 0, none⟩) n cap) { m with rows := m.rows.set k l } ∧ w2.frozen? ⟨g, k, none⟩ = false ∧ w2.cell? ⟨g, k, none⟩ = some (vs.getD k (.slice none 0 0)) ∧
    Keeps (fun b => (vs.getD k (.slice none 0 0)).ownBlock = some b ∨ b = g) w (w2.setCell ⟨g, k, none⟩ u) := by
  obtain ⟨h1, h2, h3⟩ := RowsDist.put (rows := m.rows) (n := n) H.len (by have := H.own; rwa [hn] at this) hn H.each H.dist hk k1 k2 hu hmv
  have kk : Keeps (fun b => (vs.getD k (.slice none 0 0)).ownBlock = some b ∨ b = g) w (w2.setCell ⟨g, k, none⟩ u) :=
    ((k1.mono (fun _ _ h => h.elim)).trans k2 (fun _ _ h => .inl h)).trans (Keeps.one _ _ _ _) (fun _ _ h => .inr h)
  have hx : ∀ b c T, w.heap[b]? = some (.cells c T (0, 0)) → T ≠ 26 → T ≠ 47 → ¬ ((vs.getD k (.slice none 0 0)).ownBlock = some b ∨ b = g) := fun b c T hb hT hT2 e => by
    rcases e with e | e
    · obtain ⟨A, c2, e2, ho⟩ := H.each k hk
      obtain ⟨c3, h3⟩ := owns_typed ho e
      rw [hb] at h3
      injection h3 with h3
      injection h3 with _ h3
      exact hT2 h3
    · subst e
      obtain ⟨c2, h2⟩ := owns_typed H.own (g := b) rfl
      rw [hb] at h2
      injection h2 with h2
      injection h2 with _ h3
      exact hT h3
  have hm : ∀ b es c, w.heap[b]? = some (.map es c) → ¬ ((vs.getD k (.slice none 0 0)).ownBlock = some b ∨ b = g) := fun b es c hb e => by
    rcases e with e | e
    · obtain ⟨A, c2, e2, ho⟩ := H.each k hk
      obtain ⟨c3, h3⟩ := owns_typed ho e
      rw [hb] at h3
      injection h3 with h3
      cases h3
    · subst e
      obtain ⟨c2, h2⟩ := owns_typed H.own (g := b) rfl
      rw [hb] at h2
      injection h2 with h2
      cases h2
  obtain ⟨es1, c1, b1⟩ := M.wr.blk
  obtain ⟨es2, c2, b2⟩ := M.rd.blk
  exact ⟨⟨(kk.block x (Array.getElem?_eq_some_iff.1 M.blk).1 (hx x _ _ M.blk maker_ne.1 maker_ne.2)).trans M.blk, M.low, h1, M.wr.keep kk (hm _ _ _ b1), M.rd.keep kk (hm _ _ _ b2)⟩, h2, h3, kk⟩
namespace Ir
theorem contains_snoc (l : List Int) (a n : Int) : (l ++ [a]).contains n = (l.contains n || n == a) := by
  rw [List.contains_append, List.contains_cons]
  simp
/-- what is read, so far -/
def rdUp (m : Mk) (k : Nat) (l : List Int) : Int → Option Nat := fun n => if l.contains n = true then some (max ((m.read n).getD 0) k) else m.read n
theorem rdUp_step (m : Mk) (k : Nat) (rs : List Int) (i : Nat) (h : i < rs.length) : rdUp m k (rs.take (i + 1)) = fun j => if j = rs.getD i 0 then some (max ((rdUp m k (rs.take i) (rs.getD i 0)).getD 0) k) else rdUp m k (rs.take i) j := by
  have e : rs.getD i 0 = rs[i] := by simp [List.getD, h]
  rw [e]
  funext j
  unfold rdUp
  rw [List.take_succ_eq_append_getElem h, contains_snoc]
  by_cases hj : j = rs[i]
  · subst hj
    rw [if_pos (by simp), if_pos rfl]
    by_cases hc : (rs.take i).contains rs[i] = true
    · rw [if_pos hc]
      simp
    · rw [if_neg hc]
  · rw [if_neg hj]
    have : (j == rs[i]) = false := by simpa using hj
    rw [this, Bool.or_false]
theorem rdUp_lim {m : Mk} {k L : Nat} (h : ∀ n r, m.read n = some r → r < L) (hk : k < L) (l : List Int) (n : Int) : (rdUp m k l n).getD 0 < L := by
  unfold rdUp
  have h0 : (m.read n).getD 0 < L := by
    cases hr : m.read n with
    | none => exact Nat.lt_of_le_of_lt (Nat.zero_le _) hk
    | some r => exact h n r hr
  split
  · exact Nat.max_lt.2 ⟨h0, hk⟩
  · exact h0
theorem layRows_set {rows : List (List Op)} {k : Nat} {o : Op} (h : k < rows.length) : rows.set k (rows.getD k [] ++ [o]) = layRows rows k o := by
  unfold layRows
  rw [if_pos h]
theorem layRows_snoc {rows : List (List Op)} {k : Nat} {o : Op} (h : k = rows.length) : (rows ++ [[]]).set k ((rows ++ [[]]).getD k [] ++ [o]) = layRows rows k o := by
  unfold layRows
  subst h
  rw [if_neg (Nat.lt_irrefl _), getD_snoc_eq, List.set_append_right _ _ (Nat.le_refl _), Nat.sub_self]
  rfl
end Ir
end Go.Proofs.YtknhfobcejpmeaaDoor
