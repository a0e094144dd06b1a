import Derived.Test.YtlmnmncdoiealaaDoorKdz05
import Derived.Test.YtlmnmncdoiealaaDoorKdz06

/- OptRun -/
/- A code made better ends as it did: the plain law. -/
namespace Go.Proofs.YtlmnmncdoiealaaDoor
open Go.RowKit
set_option linter.unusedVariables false
namespace Ir
theorem rg_setX {X : Nat → Int} {d v n : Int} (hd : 1 ≤ d) (hn : n ≠ d) : rg (setX X d v) n = rg X n := by
  unfold rg setX
  rw [if_neg (by omega)]
theorem rg_setX_same {X : Nat → Int} {d v : Int} : rg (setX X d v) d = v := by
  unfold rg setX
  rw [if_pos rfl]
theorem value_nodiv {c : Nat} {a b d e : Int} (h : isDiv c = false) : value c a b d = value c a b e := by
  unfold value
  rw [h]
  rfl
/-- facts that hold of registers -/
def FactsHold (f : Facts) (X : Nat → Int) : Prop := ∀ n v, fof f n = some v → rg X n = v
theorem doOp_sum {m : Nat → Int} {W : Int → Bool} {c : Mc} {o : Op} (h : 10 ≤ kn o.k) : doOp m W c o = some { c with X := setX c.X o.d (value (kn o.k) (rg c.X o.a) (rg c.X o.b) (rg c.X o.d)) } := by
  unfold doOp
  rw [if_neg (by omega), if_neg (by omega), if_neg (by omega), if_neg (by omega), if_neg (by omega)]
theorem doOp_fold (m : Nat → Int) (W : Int → Bool) (c : Mc) (f : Facts) (o : Op) (hf : FactsHold f c.X) : doOp m W c (foldOp f o) = doOp m W c o := by
  unfold foldOp
  split
  · rename_i h
    unfold foldable at h
    simp only [Bool.and_eq_true, Bool.not_eq_true'] at h
    obtain ⟨⟨⟨h1, h2⟩, h3⟩, h4⟩ := h
    have hk : 10 ≤ kn o.k := by unfold isSum at h1; simpa using h1
    obtain ⟨a, ha⟩ := Option.isSome_iff_exists.1 h3
    obtain ⟨b, hb⟩ := Option.isSome_iff_exists.1 h4
    rw [doOp_sum hk, ha, hb, hf _ _ ha, hf _ _ hb]
    unfold doOp
    rw [if_pos (show kn (setOp o.d _ o.at_).k = 1 from kn_set)]
    show some { c with X := setX c.X o.d (value (kn o.k) a b 0) } = _
    rw [value_nodiv h2]
  · split
    · rename_i h
      obtain ⟨h1, h2⟩ := h
      obtain ⟨a, ha⟩ := Option.isSome_iff_exists.1 h2
      rw [ha]
      unfold doOp
      rw [if_pos (show kn (setOp o.d _ o.at_).k = 1 from kn_set), if_neg (by omega), if_pos h1, hf _ _ ha]
      rfl
    · rfl
theorem foldOp_leaves (f : Facts) (o : Op) (h : leaves (kn o.k) = true) : foldOp f o = o := by
  rcases foldOp_or f o with h1 | ⟨h1, _⟩
  · exact h1
  · unfold leaves at h
    have h := of_decide_eq_true h
    omega
theorem foldOp_stays (f : Facts) (o : Op) (h : ¬ leaves (kn o.k) = true) : ¬ leaves (kn (foldOp f o).k) = true := by
  rcases foldOp_or f o with h1 | ⟨_, v, h1⟩
  · rw [h1]; exact h
  · rw [h1, show kn (setOp o.d v o.at_).k = 1 from kn_set]
    decide
theorem writes_foldOp (f : Facts) (o : Op) : writes (foldOp f o) = writes o := by
  rcases foldOp_or f o with h1 | ⟨hk, v, h1⟩
  · rw [h1]
  · rw [h1]
    unfold writes
    rw [show kn (setOp o.d v o.at_).k = 1 from kn_set]
    have : hasD (kn o.k) = true := by unfold hasD; simp; omega
    rw [this, decide_eq_true (show kn o.k ≠ 6 by omega)]
    rfl
/-- what an op that does not leave does to registers -/
theorem doOp_X {m : Nat → Int} {W : Int → Bool} {c c' : Mc} {o : Op} (hi : OpIn o) (hl : ¬ leaves (kn o.k) = true) (h : doOp m W c o = some c') :
    (writes o = 0 ∧ c'.X = c.X) ∨ (1 ≤ writes o ∧ ∃ v, c'.X = setX c.X (writes o) v ∧ (kn o.k = 1 → v = o.imm)) := by
  have hk := hi.k
  have hle := kn_le o.k
  have hn : ¬ (7 ≤ kn o.k ∧ kn o.k ≤ 9) := fun h' => hl (by unfold leaves; exact decide_eq_true h')
  have hw : (kn o.k = 1 ∨ kn o.k = 2 ∨ kn o.k = 5 ∨ 10 ≤ kn o.k) → writes o = o.d := fun hh => by
    unfold writes
    have : hasD (kn o.k) = true := by unfold hasD; simp; omega
    rw [this, decide_eq_true (show kn o.k ≠ 6 by omega)]
    rfl
  have hw0 : (kn o.k = 3 ∨ kn o.k = 4 ∨ kn o.k = 6) → writes o = 0 := fun hh => by
    unfold writes
    rcases hh with h | h | h <;> rw [h] <;> rfl
  unfold doOp at h
  split at h
  · rename_i h1
    cases h
    rw [hw (by omega)]
    exact .inr ⟨(hi.d (by omega)).1, _, rfl, fun _ => rfl⟩
  split at h
  · cases h
    rw [hw (by omega)]
    exact .inr ⟨(hi.d (by omega)).1, _, rfl, fun h => by omega⟩
  split at h
  · split at h
    · cases h
    · cases h
      exact .inl ⟨hw0 (by omega), rfl⟩
  split at h
  · split at h
    · cases h
      rw [hw (by omega)]
      exact .inr ⟨(hi.d (by omega)).1, _, rfl, fun h => by omega⟩
    · cases h
  split at h
  · split at h
    · cases h
      exact .inl ⟨hw0 (by omega), rfl⟩
    · cases h
  · cases h
    rw [hw (by omega)]
    exact .inr ⟨(hi.d (by omega)).1, _, rfl, fun h => by omega⟩
theorem learn_hold {m : Nat → Int} {W : Int → Bool} {c c' : Mc} {f : Facts} {o : Op} (hf : FactsHold f c.X) (hi : OpIn o) (hl : ¬ leaves (kn o.k) = true) (h : doOp m W c o = some c') : FactsHold (learn f (foldOp f o)) c'.X := by
  have hd := doOp_fold m W c f o hf
  intro n v hv
  unfold learn at hv
  rw [writes_foldOp] at hv
  rcases doOp_X hi hl h with ⟨h1, h2⟩ | ⟨h1, u, h2, h3⟩
  · rw [if_pos h1] at hv
    rw [h2]
    exact hf n v hv
  · rw [if_neg (by omega)] at hv
    by_cases hn0 : n = 0
    · subst hn0
      rw [h2, rg_setX h1 (by omega)]
      exact hf 0 v hv
    · unfold fof at hv
      rw [if_neg hn0] at hv
      dsimp only at hv
      by_cases hn : n = writes o
      · rw [if_pos hn] at hv
        split at hv
        · rename_i hk1
          injection hv with hv
          subst hv
          rw [h2, hn, rg_setX_same]
          rw [h] at hd
          unfold doOp at hd
          rw [if_pos hk1] at hd
          injection hd with hd
          have hX := congrArg Mc.X hd
          have hX := congrFun hX (writes o).toNat
          rw [h2] at hX
          have hwd : (foldOp f o).d = writes o := by
            rw [← writes_foldOp f o]
            unfold writes
            rw [hk1]
            rfl
          simp only [setX, hwd] at hX
          simpa using hX.symm
        · cases hv
      · rw [if_neg hn] at hv
        rw [h2, rg_setX h1 hn]
        exact hf n v (by unfold fof; rw [if_neg hn0]; exact hv)
theorem learn_leaves (f : Facts) (o : Op) (h : leaves (kn o.k) = true) : learn f o = f := by
  unfold learn
  have : writes o = 0 := by
    unfold leaves at h
    have h := of_decide_eq_true h
    unfold writes
    have : hasD (kn o.k) = false := by unfold hasD; simp; omega
    rw [this]
    rfl
  rw [if_pos this]
/-- FOLDED, A CODE GOES AS IT WENT -/
theorem fold_evGo (m : Nat → Int) (W : Int → Bool) : ∀ (l : List Op) (f : Facts) (c : Mc), FactsHold f c.X → (∀ o ∈ l, OpIn o) → evGo m W c (foldGo f l) = evGo m W c l
  | [], f, c, _, _ => rfl
  | o :: r, f, c, hf, hi => by
    have hir : ∀ o ∈ r, OpIn o := fun o ho => hi o (List.mem_cons_of_mem _ ho)
    have hio := hi o (List.mem_cons_self ..)
    unfold foldGo evGo
    by_cases hl : leaves (kn o.k) = true
    · rw [foldOp_leaves f o hl, if_pos hl, if_pos hl, learn_leaves f o hl, fold_evGo m W r f c hf hir]
    · rw [if_neg hl, if_neg (foldOp_stays f o hl), doOp_fold m W c f o hf, foldOp_at_]
      cases hd : doOp m W c o with
      | none => rfl
      | some c' => exact fold_evGo m W r _ c' (learn_hold hf hio hl hd) hir
/-- two machines that differ at one register at most -/
def Off (d : Int) (c c' : Mc) : Prop := c.ws = c'.ws ∧ ∀ k, k ≠ d.toNat → c.X k = c'.X k
/-- ends that are alike, as far as a state shows them -/
def Alike : Res → Res → Prop
  | .trap _, .trap _ => True
  | .leave p c, .leave q e => p = q ∧ c.ws = e.ws ∧ ∀ k, k < 34 → c.X k = e.X k
  | .fell _, .fell _ => True
  | _, _ => False
theorem Alike.refl (r : Res) : Alike r r := by
  cases r
  · trivial
  · exact ⟨rfl, rfl, fun _ _ => rfl⟩
  · trivial
theorem Alike.trans {a b c : Res} (h : Alike a b) (k : Alike b c) : Alike a c := by
  cases a <;> cases b <;> cases c <;> first | trivial | exact h.elim | exact k.elim | exact ⟨h.1.trans k.1, h.2.1.trans k.2.1, fun i hi => (h.2.2 i hi).trans (k.2.2 i hi)⟩
theorem off_rg {d n : Int} {c c' : Mc} (h : Off d c c') (hd : 1 ≤ d) (hn : n ≠ d) : rg c.X n = rg c'.X n := h.2 _ (by omega)
theorem Off.eq {d : Int} {c c' : Mc} (h : Off d c c') (hx : c.X d.toNat = c'.X d.toNat) : c = c' := by
  obtain ⟨X, ws⟩ := c
  obtain ⟨X', ws'⟩ := c'
  obtain ⟨h1, h2⟩ := h
  have hX : X = X' := funext fun k => by
    by_cases e : k = d.toNat
    · rw [e]; exact hx
    · exact h2 k e
  have h1 : ws = ws' := h1
  rw [hX, h1]
theorem reads_a {o : Op} {d : Int} (h : (reads o).contains d = false) (ha : hasA (kn o.k) = true) : o.a ≠ d := by
  intro e
  unfold reads at h
  rw [ha] at h
  simp [e] at h
theorem reads_b {o : Op} {d : Int} (h : (reads o).contains d = false) (hb : hasB (kn o.k) = true) (h5 : kn o.k ≠ 5) : o.b ≠ d := by
  intro e
  unfold reads at h
  rw [hb] at h
  simp [e, h5] at h
theorem reads_d {o : Op} {d : Int} (h : (reads o).contains d = false) (hq : isDiv (kn o.k) = true) : o.d ≠ d := by
  intro e
  unfold reads at h
  rw [hq] at h
  simp [e] at h
theorem off_set {d n v : Int} {c c' : Mc} (h : Off d c c') : Off d { c with X := setX c.X n v } { c' with X := setX c'.X n v } :=
  ⟨h.1, fun k hk => by
    show setX c.X n v k = setX c'.X n v k
    unfold setX
    split
    · rfl
    · exact h.2 k hk⟩
/-- an op that does not read d does alike where only d differs -/
theorem doOp_off {m : Nat → Int} {W : Int → Bool} {c c' : Mc} {o : Op} {d : Int} (h : Off d c c') (hd : 1 ≤ d) (hr : (reads o).contains d = false) (hk : kn o.k ≠ 0) (hl : ¬ leaves (kn o.k) = true) :
    (doOp m W c o = none ∧ doOp m W c' o = none) ∨ ∃ e e', doOp m W c o = some e ∧ doOp m W c' o = some e' ∧ Off d e e' ∧ (writes o = d → e = e') := by
  have hle := kn_le o.k
  have hn : ¬ (7 ≤ kn o.k ∧ kn o.k ≤ 9) := fun h' => hl (by unfold leaves; exact decide_eq_true h')
  have hA : 2 ≤ kn o.k → rg c.X o.a = rg c'.X o.a := fun h2 => off_rg h hd (reads_a hr (by unfold hasA; simp; omega))
  have hB : 3 ≤ kn o.k → kn o.k ≠ 5 → rg c.X o.b = rg c'.X o.b := fun h2 h5 => off_rg h hd (reads_b hr (by unfold hasB; simp; omega) h5)
  have hS : ∀ n v, (writes o = d → n = d) → (∃ e e', some ({ c with X := setX c.X n v } : Mc) = some e ∧ some ({ c' with X := setX c'.X n v } : Mc) = some e' ∧ Off d e e' ∧ (writes o = d → e = e')) := fun n v hw =>
    ⟨_, _, rfl, rfl, off_set h, fun e => (off_set h).eq (by
      rw [hw e]
      show setX c.X d v d.toNat = setX c'.X d v d.toNat
      unfold setX
      rw [if_pos rfl, if_pos rfl])⟩
  have hwd : (kn o.k = 1 ∨ kn o.k = 2 ∨ kn o.k = 5 ∨ 10 ≤ kn o.k) → writes o = o.d := fun hh => by
    unfold writes
    have : hasD (kn o.k) = true := by unfold hasD; simp; omega
    rw [this, decide_eq_true (show kn o.k ≠ 6 by omega)]
    rfl
  have hw0 : (kn o.k = 3 ∨ kn o.k = 4 ∨ kn o.k = 6) → writes o = 0 := fun hh => by
    unfold writes
    rcases hh with h | h | h <;> rw [h] <;> rfl
  rcases (show kn o.k = 1 ∨ kn o.k = 2 ∨ (kn o.k = 3 ∨ kn o.k = 4) ∨ kn o.k = 5 ∨ kn o.k = 6 ∨ 10 ≤ kn o.k by omega) with k | k | k | k | k | k
  · right
    have e1 : ∀ x : Mc, doOp m W x o = some { x with X := setX x.X o.d o.imm } := fun x => by unfold doOp; rw [if_pos k]
    rw [e1, e1]
    exact hS _ _ (fun e => by rw [← hwd (by omega)]; exact e)
  · right
    have e1 : ∀ x : Mc, doOp m W x o = some { x with X := setX x.X o.d (rg x.X o.a) } := fun x => by unfold doOp; rw [if_neg (by omega), if_pos k]
    rw [e1, e1, hA (by omega)]
    exact hS _ _ (fun e => by rw [← hwd (by omega)]; exact e)
  · have e1 : ∀ x : Mc, doOp m W x o = if overV (kn o.k) (rg x.X o.a) (rg x.X o.b) = true then none else some x := fun x => by unfold doOp; rw [if_neg (by omega), if_neg (by omega), if_pos k]
    rw [e1, e1, hA (by omega), hB (by omega) (by omega)]
    split
    · exact .inl ⟨rfl, rfl⟩
    · exact .inr ⟨_, _, rfl, rfl, h, fun e => by rw [hw0 (by omega)] at e; omega⟩
  · have e1 : ∀ x : Mc, doOp m W x o = if rightC (adr (rg x.X o.a) o.imm) o.b.natAbs = 0 then some { x with X := setX x.X o.d (loadV m x.ws (adr (rg x.X o.a) o.imm) o.b) } else none := fun x => by
      unfold doOp; rw [if_neg (by omega), if_neg (by omega), if_neg (by omega), if_pos k]
    rw [e1, e1, hA (by omega), h.1]
    split
    · right
      have hh := hS o.d (loadV m c'.ws (adr (rg c'.X o.a) o.imm) o.b) (fun e => by rw [← hwd (by omega)]; exact e)
      rw [h.1] at hh
      exact hh
    · exact .inl ⟨rfl, rfl⟩
  · have e1 : ∀ x : Mc, doOp m W x o = if rightC (adr (rg x.X o.a) o.imm) o.d = 0 ∧ W (adr (rg x.X o.a) o.imm / 256) = false then some { x with ws := x.ws ++ [⟨adr (rg x.X o.a) o.imm, o.d, rg x.X o.b⟩] } else none := fun x => by
      unfold doOp; rw [if_neg (by omega), if_neg (by omega), if_neg (by omega), if_neg (by omega), if_pos k]
    rw [e1, e1, hA (by omega), hB (by omega) (by omega), h.1]
    split
    · exact .inr ⟨_, _, rfl, rfl, ⟨rfl, h.2⟩, fun e => by rw [hw0 (by omega)] at e; omega⟩
    · exact .inl ⟨rfl, rfl⟩
  · right
    rw [doOp_sum k, doOp_sum k, hA (by omega), hB (by omega) (by omega)]
    have hv : value (kn o.k) (rg c'.X o.a) (rg c'.X o.b) (rg c.X o.d) = value (kn o.k) (rg c'.X o.a) (rg c'.X o.b) (rg c'.X o.d) := by
      by_cases hq : isDiv (kn o.k) = true
      · rw [off_rg h hd (reads_d hr hq)]
      · exact value_nodiv (by simpa using hq)
    rw [hv]
    exact hS _ _ (fun e => by rw [← hwd (by omega)]; exact e)
theorem deadGo_seen {d : Int} : ∀ (l : List Op), deadGo d l true = true → 33 < d
  | [], h => by simpa [deadGo] using h
  | x :: r, h => by
    unfold deadGo at h
    split at h
    · cases h
    split at h
    · simpa using h
    · exact deadGo_seen r (by simpa using h)
theorem writes_leaves {o : Op} (h : leaves (kn o.k) = true) : writes o = 0 := by
  unfold leaves at h
  have h := of_decide_eq_true h
  unfold writes
  have : hasD (kn o.k) = false := by unfold hasD; simp; omega
  rw [this]
  rfl
/-- where a register is dead, it makes no difference -/
theorem dead_alike (m : Nat → Int) (W : Int → Bool) (d : Int) (hd : 1 ≤ d) : ∀ (l : List Op) (seen : Bool) (c c' : Mc), Off d c c' → deadGo d l seen = true → (∀ o ∈ l, kn o.k ≠ 0) → (∀ i, i < l.length → isOut (kn (l.getD i nop).k) = true → l.length ≤ i + 1) →
    Alike (evGo m W c l) (evGo m W c' l)
  | [], seen, c, c', h, _, _, _ => trivial
  | o :: r, seen, c, c', h, hg, hk, ho => by
    have hko := hk o (List.mem_cons_self ..)
    have hkr : ∀ o ∈ r, kn o.k ≠ 0 := fun o ho => hk o (List.mem_cons_of_mem _ ho)
    have hor : ∀ i, i < r.length → isOut (kn (r.getD i nop).k) = true → r.length ≤ i + 1 := fun i hi hh => by
      have := ho (i + 1) (by simp; omega) (by simpa using hh)
      simp at this
      omega
    unfold deadGo at hg
    split at hg
    · cases hg
    rename_i hr
    have hr : (reads o).contains d = false := by simpa using hr
    unfold evGo
    by_cases hl : leaves (kn o.k) = true
    · rw [if_pos hl, if_pos hl]
      rw [if_neg (by rw [writes_leaves hl]; omega)] at hg
      have hl' := hl
      unfold leaves at hl'
      have hl' := of_decide_eq_true hl'
      have hgo : goesTo o (rg c.X o.a) = goesTo o (rg c'.X o.a) := by
        by_cases h8 : kn o.k = 8
        · unfold goesTo
          rw [if_neg (by omega), if_pos h8, if_neg (by omega), if_pos h8]
        · rw [off_rg h hd (reads_a hr (by unfold hasA; simp; omega))]
      have h33 : 33 < d ∨ kn o.k = 7 ∧ goesTo o (rg c'.X o.a) = none := by
        rcases (show kn o.k = 7 ∨ kn o.k = 8 ∨ kn o.k = 9 by omega) with k | k | k
        · left
          rw [k] at hg
          have hg2 : deadGo d r true = true := by simpa using hg
          exact deadGo_seen r hg2
        all_goals
          left
          have hlen := ho 0 (by simp) (by unfold isOut; simp [k])
          have hrn : r = [] := by
            simp at hlen
            exact hlen
          subst hrn
          simpa [deadGo] using hg
      rw [hgo]
      cases hgt : goesTo o (rg c'.X o.a) with
      | some pc =>
        rcases h33 with h33 | h33
        · exact ⟨rfl, h.1, fun k hk34 => h.2 k (by omega)⟩
        · rw [hgt] at h33
          cases h33.2
      | none => exact dead_alike m W d hd r _ c c' h hg hkr hor
    · rw [if_neg hl, if_neg hl]
      rcases doOp_off (m := m) (W := W) h hd hr hko hl with ⟨h1, h2⟩ | ⟨e, e', h1, h2, h3, h4⟩
      · rw [h1, h2]
        trivial
      · rw [h1, h2]
        dsimp only
        by_cases hw : writes o = d
        · rw [h4 hw]
          exact Alike.refl _
        · rw [if_neg hw] at hg
          exact dead_alike m W d hd r _ e e' h3 hg hkr hor
theorem fell_alike {m : Nat → Int} {W : Int → Bool} {c c' : Mc} {l l' : List Op} (h : evGo m W c l = evGo m W c' l') : Alike (evGo m W c l) (evGo m W c' l') := by
  rw [h]
  exact Alike.refl _
/-- A DEAD OP TAKEN OUT: the ends are alike -/
theorem erase_alike (m : Nat → Int) (W : Int → Bool) : ∀ (l : List Op) (i : Nat) (c : Mc), i < l.length → dead l i = true → (∀ o ∈ l, OpIn o) → (∀ j, j < l.length → isOut (kn (l.getD j nop).k) = true → l.length ≤ j + 1) →
    Alike (evGo m W c l) (evGo m W c (l.eraseIdx i))
  | [], i, c, h, _, _, _ => absurd h (Nat.not_lt_zero _)
  | o :: r, 0, c, _, hd, hi, ho => by
    have hio := hi o (List.mem_cons_self ..)
    have hir : ∀ o ∈ r, kn o.k ≠ 0 := fun o ho => (hi o (List.mem_cons_of_mem _ ho)).k
    have hor : ∀ i, i < r.length → isOut (kn (r.getD i nop).k) = true → r.length ≤ i + 1 := fun i hi hh => by
      have := ho (i + 1) (by simp; omega) (by simpa using hh)
      simp at this
      omega
    unfold dead at hd
    simp only [Bool.and_eq_true] at hd
    obtain ⟨h1, h2⟩ := hd
    have h1 : plainK (kn o.k) = true := h1
    have h2 : deadGo o.d r false = true := h2
    unfold plainK isSum at h1
    simp at h1
    have hl : ¬ leaves (kn o.k) = true := by unfold leaves; simp; omega
    have hd1 := (hio.d (by omega)).1
    rw [List.eraseIdx_cons_zero]
    conv => arg 1; unfold evGo
    rw [if_neg hl]
    have hdo : ∃ v, doOp m W c o = some { c with X := setX c.X o.d v } := by
      rcases h1 with (h1 | h1) | h1
      · exact ⟨_, by unfold doOp; rw [if_pos h1]⟩
      · exact ⟨_, by unfold doOp; rw [if_neg (by omega), if_pos h1]⟩
      · exact ⟨_, doOp_sum h1⟩
    obtain ⟨v, hv⟩ := hdo
    rw [hv]
    exact dead_alike m W o.d hd1 r false _ c ⟨rfl, fun k hk => by
      show setX c.X o.d v k = c.X k
      unfold setX
      rw [if_neg hk]⟩ h2 hir hor
  | o :: r, i + 1, c, h, hd, hi, ho => by
    have hir : ∀ o ∈ r, OpIn o := fun o ho => hi o (List.mem_cons_of_mem _ ho)
    have hor : ∀ i, i < r.length → isOut (kn (r.getD i nop).k) = true → r.length ≤ i + 1 := fun i hi hh => by
      have := ho (i + 1) (by simp; omega) (by simpa using hh)
      simp at this
      omega
    have hl' : i < r.length := by simpa using h
    have hd' : dead r i = true := by
      unfold dead at hd ⊢
      simpa using hd
    rw [List.eraseIdx_cons_succ]
    unfold evGo
    split
    · split
      · exact Alike.refl _
      · exact erase_alike m W r i c hl' hd' hir hor
    · split
      · trivial
      · exact erase_alike m W r i _ hl' hd' hir hor
theorem opIn_of_good {many : Int} {l : List Op} (h : Good many l) (himm : ∀ o ∈ l, 0 ≤ o.imm ∧ o.imm < 4294967296) : ∀ o ∈ l, OpIn o := fun o ho => by
  obtain ⟨i, hi, hio⟩ := List.getElem_of_mem ho
  have hio2 : l.getD i nop = o := by rw [List.getD_eq_getElem?_getD, List.getElem?_eq_getElem hi, hio]; rfl
  have h1 := (errAt_zero.1 (h.each i hi)).1
  rw [hio2] at h1
  exact opIn_of h1 (himm o ho)
theorem outs_of_good {many : Int} {l : List Op} (h : Good many l) : ∀ j, j < l.length → isOut (kn (l.getD j nop).k) = true → l.length ≤ j + 1 := fun j hj => (errAt_zero.1 (h.each j hj)).2.2
/-- SWEPT, A CODE ENDS ALIKE -/
theorem sweepGo_alike (many : Int) (m : Nat → Int) (W : Int → Bool) : ∀ (n : Nat) (l : List Op) (c : Mc), Good many l → (∀ o ∈ l, 0 ≤ o.imm ∧ o.imm < 4294967296) → Alike (evGo m W c l) (evGo m W c (sweepGo n l))
  | 0, l, c, _, _ => Alike.refl _
  | n + 1, l, c, hg, hm => by
    unfold sweepGo
    cases hf : firstDead l with
    | none => exact Alike.refl _
    | some i =>
      unfold firstDead at hf
      have hd := List.find?_some hf
      have hi := List.mem_range.1 (List.mem_of_find?_eq_some hf)
      have hd' : dead l i = true := hd
      have hp : plainK (kn (l.getD i nop).k) = true := by
        unfold dead at hd'
        simp only [Bool.and_eq_true] at hd'
        exact hd'.1
      exact (erase_alike m W l i c hi hd' (opIn_of_good hg hm) (outs_of_good hg)).trans (sweepGo_alike many m W n _ c (good_erase hg hi hp) (fun o ho => hm o (List.mem_of_mem_eraseIdx ho)))
/-- MADE BETTER, A CODE ENDS ALIKE -/
theorem opt_alike {many : Int} {l : List Op} (h : Good many l) (hm : ∀ o ∈ l, 0 ≤ o.imm ∧ o.imm < 4294967296) (hm2 : ∀ o ∈ fold l, 0 ≤ o.imm ∧ o.imm < 4294967296) (v : Int) (m : Nat → Int) (W : Int → Bool) (c : Mc) (h0 : c.X 0 = 0) : Alike (evGo m W c l) (evGo m W c (opt l v)) := by
  have hf : evGo m W c (fold l) = evGo m W c l := fold_evGo m W l none0 c (fun n x hx => by
    unfold fof none0 at hx
    split at hx
    · rename_i hn
      subst hn
      injection hx with hx
      rw [← hx]
      exact h0
    · cases hx) (opIn_of_good h hm)
  unfold opt
  split
  · exact Alike.refl _
  · split
    · rw [hf]; exact Alike.refl _
    · have := sweepGo_alike many m W (fold l).length (fold l) c (good_fold h) hm2
      rw [hf] at this
      exact this
end Ir
end Go.Proofs.YtlmnmncdoiealaaDoor

/- PlanRun -/
/- Rows of ops: an op that is laid into an earlier row goes as at the end. No program in sight. -/
namespace Go.Proofs.YtlmnmncdoiealaaDoor
open Go.RowKit
set_option linter.unusedVariables false
namespace Ir
/-- what a row, or rows, come to -/
inductive GEnd where
  | trap
  | leave (pc : Int) (X m : Nat → Int)
  | fell (X m : Nat → Int)
def rowTo (W : Int → Bool) (X m : Nat → Int) (l : List Op) : (Nat → Int) × (Nat → Int) := applyRow X m (l.map fun o => (o, resOf X m W o))
def rowGo (W : Int → Bool) (X m : Nat → Int) (l : List Op) : GEnd :=
  if (l.any fun o => (resOf X m W o).trap) = true then .trap
  else match leaveTo none (l.map (resOf X m W)) with
    | some pc => .leave pc (rowTo W X m l).1 (rowTo W X m l).2
    | none => .fell (rowTo W X m l).1 (rowTo W X m l).2
def rowsGo (W : Int → Bool) : (Nat → Int) → (Nat → Int) → List (List Op) → GEnd
  | X, m, [] => .fell X m
  | X, m, l :: r => match rowGo W X m l with
    | .fell X' m' => rowsGo W X' m' r
    | e => e
/-- the end that the document's answer tells -/
def toREnd : GEnd → REnd → Prop
  | .trap, .trap _ => True
  | .leave p X m, .leave q Y n => p = q ∧ X = Y ∧ m = n
  | .fell _ _, .fell => True
  | _, _ => False
theorem trapOf_any (X m : Nat → Int) (W : Int → Bool) : ∀ l : List Op, (l.any fun o => (resOf X m W o).trap) = (trapOf X m W l).isSome
  | [] => rfl
  | o :: r => by
    rw [List.any_cons, trapOf_any X m W r]
    show _ = (if (resOf X m W o).trap = true then some o.at_ else trapOf X m W r).isSome
    cases (resOf X m W o).trap <;> simp
theorem runRows_go (W : Int → Bool) : ∀ (l : List (List Op)) (X m : Nat → Int), toREnd (rowsGo W X m l) (runRows W X m l)
  | [], X, m => trivial
  | l :: r, X, m => by
    unfold rowsGo runRows rowGo
    rw [trapOf_any]
    cases ht : trapOf X m W l with
    | some a => exact trivial
    | none =>
      simp only [Option.isSome_none, Bool.false_eq_true, if_false]
      cases hl : leaveTo none (l.map (resOf X m W)) with
      | some pc => exact ⟨rfl, rfl, rfl⟩
      | none => exact runRows_go W r _ _
/-- an op's result hangs on what it reads -/
theorem res_congr {X Y m n : Nat → Int} {W : Int → Bool} {o : Op} (h0 : kn o.k ≠ 0) (h : ∀ k, (reads o).contains k = true → rg X k = rg Y k) (hm : kn o.k = 5 → m = n) : resOf X m W o = resOf Y n W o := by
  have hle := kn_le o.k
  have hA : hasA (kn o.k) = true → rg X o.a = rg Y o.a := fun ha => h _ (by unfold reads; rw [ha]; simp)
  have hB : hasB (kn o.k) = true → kn o.k ≠ 5 → rg X o.b = rg Y o.b := fun hb h5 => h _ (by unfold reads; rw [hb]; simp [h5])
  have hD : isDiv (kn o.k) = true → rg X o.d = rg Y o.d := fun hq => h _ (by unfold reads; rw [hq]; simp)
  have a2 : 2 ≤ kn o.k → kn o.k ≠ 8 → hasA (kn o.k) = true := fun h1 h2 => by unfold hasA; simp; omega
  have b2 : (3 ≤ kn o.k ∧ kn o.k ≤ 6 ∨ 10 ≤ kn o.k) → hasB (kn o.k) = true := fun h1 => by unfold hasB; simp; omega
  rcases (show kn o.k = 1 ∨ kn o.k = 2 ∨ kn o.k = 3 ∨ kn o.k = 4 ∨ kn o.k = 5 ∨ kn o.k = 6 ∨ kn o.k = 7 ∨ kn o.k = 8 ∨ kn o.k = 9 ∨ 10 ≤ kn o.k by omega) with k | k | k | k | k | k | k | k | k | k
  · simp [resOf, k]
  · simp [resOf, k, hA (a2 (by omega) (by omega))]
  · simp [resOf, k, hA (a2 (by omega) (by omega)), hB (b2 (by omega)) (by omega)]
  · simp [resOf, k, hA (a2 (by omega) (by omega)), hB (b2 (by omega)) (by omega)]
  · simp [resOf, k, hA (a2 (by omega) (by omega)), hm k]
  · simp [resOf, k, hA (a2 (by omega) (by omega)), hB (b2 (by omega)) (by omega)]
  · simp [resOf, k, hA (a2 (by omega) (by omega))]
  · simp [resOf, k]
  · simp [resOf, k, hA (a2 (by omega) (by omega))]
  · have e2 : ∀ (X m : Nat → Int), resOf X m W o = ⟨value (kn o.k) (rg X o.a) (rg X o.b) (rg X o.d), 0, false, false⟩ := fun X m => by
      unfold resOf
      rw [if_neg (by omega), if_neg (by omega), if_neg (by omega), if_neg (by omega), if_neg (by omega), if_neg (by omega), if_neg (by omega), if_neg (by omega)]
    rw [e2, e2, hA (a2 (by omega) (by omega)), hB (b2 (by omega)) (by omega)]
    by_cases hq : isDiv (kn o.k) = true
    · rw [hD hq]
    · rw [value_nodiv (d := rg X o.d) (e := rg Y o.d) (by simpa using hq)]
end Ir
end Go.Proofs.YtlmnmncdoiealaaDoor
