
/- Better codes, said plainly. No program in sight. -/
import Derived.Test.YtlmnmncdoiealaaGreatDoorIrDefs
import Derived.Test.YtlmnmncdoiealaaGreatDoorWordDefs
namespace Go.Proofs.YtlmnmncdoiealaaGreatDoor
namespace Ir
open Go.RowKit
set_option linter.unusedVariables false
/-- what an op reads, and writes -/
def reads (o : Op) : List Int := (if hasA (kn o.k) then [o.a] else []) ++ (if hasB (kn o.k) && decide (kn o.k ≠ 5) then [o.b] else []) ++ (if isDiv (kn o.k) then [o.d] else [])
def writes (o : Op) : Int := if hasD (kn o.k) && decide (kn o.k ≠ 6) then o.d else 0
/-- the value of a sum that is no quotient -/
def sumsV (c : Nat) (a b : Int) : Int :=
  match c with
  | 10 => (a + b) % 4294967296
  | 11 => (a - b) % 4294967296
  | 12 => bits .and .u32 a b
  | 13 => bits .or .u32 a b
  | 14 => bits .xor .u32 a b
  | 15 => bits .xor .u32 4294967295 (bits .or .u32 a b)
  | 18 => Wd.shift 60 a b
  | 19 => Wd.shift 62 a b
  | 20 => Wd.shift 126 a b
  | 21 => Wd.lo a b false
  | 22 => Wd.hi a b true
  | 23 => Wd.hi a b false
  | 16 => if Wd.less a b true then 1 else 0
  | _ => if Wd.less a b false then 1 else 0
def value (c : Nat) (a b d : Int) : Int :=
  if isDiv c then (if b = 0 then d else if c = 24 ∨ c = 26 then Wd.quo a b (decide (c = 24 ∨ c = 25)) else Wd.rst a b (decide (c = 24 ∨ c = 25))) else sumsV c a b
/-- what is known of registers -/
abbrev Facts := Int → Option Int
def fof (f : Facts) (n : Int) : Option Int := if n = 0 then some 0 else f n
def learn (f : Facts) (o : Op) : Facts := if writes o = 0 then f else fun n => if n = writes o then (if kn o.k = 1 then some o.imm else none) else f n
def foldable (f : Facts) (o : Op) : Bool := isSum (kn o.k) && !isDiv (kn o.k) && (fof f o.a).isSome && (fof f o.b).isSome
def none0 : Facts := fun _ => none
def factsOf (l : List Op) : Facts := l.foldl learn none0
def known (l : List Op) : Nat := (List.range l.length).countP fun i => foldable (factsOf (l.take i)) (l.getD i nop)
/-- is an op dead? -/
def deadGo (d : Int) : List Op → Bool → Bool
  | [], _ => decide (33 < d)
  | x :: r, seen => if (reads x).contains d then false else if writes x = d then (decide (33 < d) || !seen) else deadGo d r (seen || decide (kn x.k = 7))
def plainK (c : Nat) : Bool := decide (c = 1 ∨ c = 2) || isSum c
def dead (l : List Op) (i : Nat) : Bool := plainK (kn (l.getD i nop).k) && deadGo (l.getD i nop).d (l.drop (i + 1)) false
def deads (l : List Op) : Nat := (List.range l.length).countP (dead l)
/-- folding -/
def setK : ByteArray := ⟨#[115, 101, 116]⟩
def setOp (d imm at_ : Int) : Op := ⟨setK, d, 0, 0, imm, at_⟩
def foldOp (f : Facts) (o : Op) : Op :=
  if foldable f o then setOp o.d (value (kn o.k) ((fof f o.a).getD 0) ((fof f o.b).getD 0) 0) o.at_
  else if kn o.k = 2 ∧ (fof f o.a).isSome = true then setOp o.d ((fof f o.a).getD 0) o.at_ else o
def foldGo (f : Facts) : List Op → List Op
  | [] => []
  | o :: r => foldOp f o :: foldGo (learn f (foldOp f o)) r
def fold (l : List Op) : List Op := foldGo none0 l
/-- sweeping -/
def firstDead (l : List Op) : Option Nat := (List.range l.length).find? (dead l)
def sweepGo : Nat → List Op → List Op
  | 0, l => l
  | n + 1, l => match firstDead l with | some i => sweepGo n (l.eraseIdx i) | none => l
def sweep (l : List Op) : List Op := sweepGo l.length l
/-- A CODE MADE BETTER, of a right code -/
def opt (l : List Op) (level : Int) : List Op := if level < 1 then l else if level < 2 then fold l else sweep (fold l)

theorem kn_set : kn setK = 1 := by decide +kernel
theorem foldGo_len (l : List Op) : ∀ f, (foldGo f l).length = l.length := by
  induction l with
  | nil => intro f; rfl
  | cons o r ih => intro f; simp [foldGo, ih]
theorem fold_len (l : List Op) : (fold l).length = l.length := foldGo_len l _
theorem foldGo_at (l : List Op) : ∀ f i, i < l.length → (foldGo f l).getD i nop = foldOp (((foldGo f l).take i).foldl learn f) (l.getD i nop) := by
  induction l with
  | nil => intro f i h; simp at h
  | cons o r ih =>
    intro f i h
    cases i with
    | zero => simp [foldGo]
    | succ i =>
      have := ih (learn f (foldOp f o)) i (by simpa using h)
      simp only [foldGo, List.getD_cons_succ, List.take_succ_cons, List.foldl_cons]
      exact this
theorem fold_at (l : List Op) (i : Nat) (h : i < l.length) : (fold l).getD i nop = foldOp (factsOf ((fold l).take i)) (l.getD i nop) := foldGo_at l none0 i h
/-- an op folded: itself, or a setting -/
theorem foldOp_or (f : Facts) (o : Op) : foldOp f o = o ∨ ((kn o.k = 2 ∨ 10 ≤ kn o.k) ∧ ∃ v, foldOp f o = setOp o.d v o.at_) := by
  unfold foldOp
  split
  · rename_i h
    refine .inr ⟨.inr ?_, _, rfl⟩
    unfold foldable at h
    simp only [Bool.and_eq_true] at h
    have := h.1.1.1
    unfold isSum at this
    simpa using this
  · split
    · rename_i h
      exact .inr ⟨.inl h.1, _, rfl⟩
    · exact .inl rfl
theorem foldOp_at_ (f : Facts) (o : Op) : (foldOp f o).at_ = o.at_ := by
  rcases foldOp_or f o with h | ⟨_, v, h⟩ <;> rw [h]
  rfl
theorem foldOp_out (f : Facts) (o : Op) : isOut (kn (foldOp f o).k) = isOut (kn o.k) := by
  rcases foldOp_or f o with h | ⟨hk, v, h⟩ <;> rw [h]
  show isOut (kn setK) = _
  rw [kn_set]
  unfold isOut
  have : ¬ (kn o.k = 8 ∨ kn o.k = 9) := by omega
  simp [this]
theorem foldOp_store (f : Facts) (o : Op) : (kn (foldOp f o).k = 6) ↔ (kn o.k = 6) := by
  rcases foldOp_or f o with h | ⟨hk, v, h⟩ <;> rw [h]
  show kn setK = 6 ↔ _
  rw [kn_set]
  omega
theorem opErr_fold (f : Facts) (o : Op) (many : Int) (h : opErr o many = 0) : opErr (foldOp f o) many = 0 := by
  rcases foldOp_or f o with h1 | ⟨hk, v, h1⟩
  · rw [h1]; exact h
  · rw [h1]
    unfold opErr at h ⊢
    have hs : kn (setOp o.d v o.at_).k = 1 := kn_set
    rw [if_neg (by rw [hs]; decide)]
    rw [if_neg (by omega)] at h
    split at h
    · cases h
    rename_i h2
    rw [Bool.not_eq_false] at h2
    simp only [Bool.and_eq_true, decide_eq_true_eq] at h2
    obtain ⟨⟨⟨h3, h4⟩, h5⟩, h6⟩ := h2
    have hd : 1 ≤ o.d ∧ o.d < 64 := by
      unfold regs at h3
      simp only [Bool.and_eq_true, Bool.or_eq_true, decide_eq_true_eq, Bool.not_eq_true'] at h3
      rcases h3.1.1 with (h7 | h7) | h7
      · unfold hasD at h7
        simp at h7
        omega
      · omega
      · exact h7
    have e1 : regs (setOp o.d v o.at_) = true := by
      unfold regs
      rw [hs]
      show ((!hasD 1 || decide (1 = 6) || decide (1 ≤ o.d ∧ o.d < 64)) && (!hasA 1 || decide ((0 : Int) ≤ 0 ∧ (0 : Int) < 64)) && (!hasB 1 || decide (1 = 5) || decide ((0 : Int) ≤ 0 ∧ (0 : Int) < 64))) = true
      simp [hd]
    have e2 : bytes (setOp o.d v o.at_) = true := by
      unfold bytes
      rw [hs]
      rfl
    have e3 : bare (setOp o.d v o.at_) = true := by
      unfold bare
      rw [hs]
      rfl
    rw [e1, e2, e3]
    have e4 : decide (0 ≤ (setOp o.d v o.at_).at_) = true := decide_eq_true h5
    have e5 : decide ((setOp o.d v o.at_).at_ < many) = true := decide_eq_true h6
    rw [e4, e5]
    rfl

/-- A RIGHT CODE -/
structure Good (many : Int) (l : List Op) : Prop where
  range : 1 ≤ many ∧ many ≤ 24
  len : l.length ≤ 200
  stores : stores l ≤ 8
  pos : l.length ≠ 0
  last : isOut (kn (l.getD (l.length - 1) nop).k) = true
  each : ∀ i, i < l.length → errAt many l i = 0
theorem fault_good {many : Int} {l : List Op} (h : Good many l) : fault many l = (0, -1) := by
  unfold fault
  have h1 := h.range
  have h2 := h.len
  have h3 := h.stores
  have h4 := h.pos
  rw [if_neg (by omega), if_neg (by omega), if_neg (by omega), if_neg h4, if_neg (by rw [h.last]; decide), firstBad_none h.each]
theorem good_of_fault {many : Int} {l : List Op} (h : (fault many l).1 = 0) : Good many l := by
  unfold fault at h
  split at h
  · cases h
  split at h
  · cases h
  split at h
  · cases h
  split at h
  · cases h
  split at h
  · cases h
  rename_i h1 h2 h3 h4 h5
  refine ⟨by omega, by omega, by omega, h4, by simpa using h5, ?_⟩
  split at h
  · rename_i i hb
    have := List.find?_some hb
    simp only [bne_iff_ne, ne_eq] at this
    exact absurd h this
  · rename_i hb
    unfold firstBad at hb
    rw [List.find?_eq_none] at hb
    intro i hi
    simpa using hb i (List.mem_range.2 hi)
theorem fault_or (many : Int) (l : List Op) : (fault many l).1 = 0 ∨ ∃ c : Nat, 1 ≤ c ∧ c ≤ 10 ∧ (fault many l).1 = c := by
  have h1 : ∀ o, opErr o many ≤ 10 := fun o => by unfold opErr; split <;> (try split) <;> (try split) <;> omega
  have h2 : ∀ i, errAt many l i ≤ 10 := fun i => by unfold errAt; split <;> (try split) <;> first | exact h1 _ | omega
  have h3 : (fault many l).1 ≤ 10 := by
    unfold fault
    split <;> (try split) <;> (try split) <;> (try split) <;> (try split) <;> (try split) <;> first | exact h2 _ | (show _ ≤ 10; decide)
  by_cases h : (fault many l).1 = 0
  · exact .inl h
  · exact .inr ⟨_, by omega, h3, rfl⟩
/-- errAt is 0, taken apart -/
theorem errAt_zero {many : Int} {l : List Op} {i : Nat} : errAt many l i = 0 ↔ opErr (l.getD i nop) many = 0 ∧ (0 < i → (l.getD (i - 1) nop).at_ ≤ (l.getD i nop).at_) ∧ (isOut (kn (l.getD i nop).k) = true → l.length ≤ i + 1) := by
  unfold errAt
  constructor
  · intro h
    split at h
    · rename_i h1; exact absurd h h1
    · rename_i h1
      split at h
      · cases h
      · rename_i h2
        refine ⟨by omega, fun h3 => ?_, fun h3 => ?_⟩
        · rcases Int.lt_or_le (l.getD i nop).at_ (l.getD (i - 1) nop).at_ with h4 | h4
          · exact absurd (.inl ⟨h3, h4⟩) h2
          · exact h4
        · rcases Nat.lt_or_ge (i + 1) l.length with h4 | h4
          · exact absurd (.inr ⟨h3, h4⟩) h2
          · exact h4
  · intro ⟨h1, h2, h3⟩
    rw [if_neg (by omega), if_neg]
    rintro (⟨h4, h5⟩ | ⟨h4, h5⟩)
    · have := h2 h4; omega
    · have := h3 h4; omega
theorem foldGo_stores (l : List Op) : ∀ f, stores (foldGo f l) = stores l := by
  induction l with
  | nil => intro f; rfl
  | cons o r ih =>
    intro f
    have h1 := ih (learn f (foldOp f o))
    unfold stores at h1 ⊢
    rw [foldGo, List.countP_cons, List.countP_cons, h1]
    have : decide (kn (foldOp f o).k = 6) = decide (kn o.k = 6) := decide_eq_decide.2 (foldOp_store f o)
    rw [this]
theorem good_fold {many : Int} {l : List Op} (h : Good many l) : Good many (fold l) := by
  have hl := fold_len l
  have hp := h.pos
  refine ⟨h.range, by rw [hl]; exact h.len, by rw [show stores (fold l) = stores l from foldGo_stores l _]; exact h.stores, by rw [hl]; exact hp, ?_, fun i hi => ?_⟩
  · rw [hl, fold_at l _ (by omega), foldOp_out]
    exact h.last
  · rw [hl] at hi
    obtain ⟨h1, h2, h3⟩ := errAt_zero.1 (h.each i hi)
    rw [errAt_zero, fold_at l i hi]
    refine ⟨opErr_fold _ _ _ h1, fun h4 => ?_, fun h4 => ?_⟩
    · rw [fold_at l (i - 1) (by omega), foldOp_at_, foldOp_at_]
      exact h2 h4
    · rw [foldOp_out] at h4
      rw [hl]
      exact h3 h4
theorem known_fold (l : List Op) : known (fold l) = 0 := by
  unfold known
  rw [List.countP_eq_zero]
  intro i hi
  have hi := List.mem_range.1 hi
  rw [fold_len] at hi
  rw [fold_at l i hi]
  generalize factsOf ((fold l).take i) = f
  unfold foldOp
  split
  · unfold foldable
    show ¬ (isSum (kn setK) && _ && _ && _) = true
    rw [kn_set]
    simp [isSum]
  · rename_i h
    split
    · unfold foldable
      show ¬ (isSum (kn setK) && _ && _ && _) = true
      rw [kn_set]
      simp [isSum]
    · exact h
/-- sweeping: each step takes one dead op away -/
theorem firstDead_some {l : List Op} {i : Nat} (h : firstDead l = some i) : i < l.length ∧ dead l i = true := ⟨List.mem_range.1 (List.mem_of_find?_eq_some h), List.find?_some h⟩
theorem firstDead_none {l : List Op} (h : firstDead l = none) : ∀ i, i < l.length → dead l i = false := fun i hi => by
  unfold firstDead at h
  rw [List.find?_eq_none] at h
  simpa using h i (List.mem_range.2 hi)
theorem getD_erase (l : List Op) (i j : Nat) : (l.eraseIdx i).getD j nop = if j < i then l.getD j nop else l.getD (j + 1) nop := by
  simp only [List.getD_eq_getElem?_getD, List.getElem?_eraseIdx]
  split <;> rfl
theorem good_erase {many : Int} {l : List Op} {i : Nat} (h : Good many l) (hi : i < l.length) (hd : plainK (kn (l.getD i nop).k) = true) : Good many (l.eraseIdx i) := by
  have hl : (l.eraseIdx i).length = l.length - 1 := List.length_eraseIdx_of_lt hi
  have hp := h.pos
  have hne : i ≠ l.length - 1 := by
    rintro rfl
    have h1 := h.last
    unfold plainK isSum at hd
    unfold isOut at h1
    simp at hd h1
    omega
  have hat : ∀ j, 0 < j → j < l.length → (l.getD (j - 1) nop).at_ ≤ (l.getD j nop).at_ := fun j h1 h2 => (errAt_zero.1 (h.each j h2)).2.1 h1
  refine ⟨h.range, by rw [hl]; have := h.len; omega, ?_, by omega, ?_, fun j hj => ?_⟩
  · have h1 : stores (l.eraseIdx i) ≤ stores l := by
      unfold stores
      exact (List.eraseIdx_sublist l i).countP_le
    have := h.stores
    omega
  · rw [hl, getD_erase, if_neg (by omega), show l.length - 1 - 1 + 1 = l.length - 1 by omega]
    exact h.last
  · rw [hl] at hj
    rw [errAt_zero, getD_erase, hl]
    by_cases h1 : j < i
    · rw [if_pos h1]
      obtain ⟨h2, h3, h4⟩ := errAt_zero.1 (h.each j (by omega))
      refine ⟨h2, fun h5 => ?_, fun h5 => ?_⟩
      · rw [getD_erase, if_pos (by omega)]
        exact h3 h5
      · have := h4 h5; omega
    · rw [if_neg h1]
      obtain ⟨h2, h3, h4⟩ := errAt_zero.1 (h.each (j + 1) (by omega))
      refine ⟨h2, fun h5 => ?_, fun h5 => ?_⟩
      · rw [getD_erase]
        split
        · rename_i h6
          obtain rfl : j = i := by omega
          have e1 := hat j h5 (by omega)
          have e2 := hat (j + 1) (by omega) (by omega)
          rw [show j + 1 - 1 = j by omega] at e2
          omega
        · rw [show j - 1 + 1 = j by omega]
          have e2 := hat (j + 1) (by omega) (by omega)
          rw [show j + 1 - 1 = j by omega] at e2
          exact e2
      · have := h4 h5; omega
theorem sweepGo_good {many : Int} : ∀ (n : Nat) (l : List Op), Good many l → Good many (sweepGo n l)
  | 0, _, h => h
  | n + 1, l, h => by
    unfold sweepGo
    split
    · rename_i i hi
      obtain ⟨h1, h2⟩ := firstDead_some hi
      unfold dead at h2
      simp only [Bool.and_eq_true] at h2
      exact sweepGo_good n _ (good_erase h h1 h2.1)
    · exact h
theorem sweepGo_len : ∀ (n : Nat) (l : List Op), (sweepGo n l).length ≤ l.length
  | 0, _ => Nat.le_refl _
  | n + 1, l => by
    unfold sweepGo
    split
    · rename_i i hi
      have h1 := (firstDead_some hi).1
      have h2 := sweepGo_len n (l.eraseIdx i)
      have h3 : (l.eraseIdx i).length = l.length - 1 := List.length_eraseIdx_of_lt h1
      omega
    · exact Nat.le_refl _
theorem sweepGo_dead : ∀ (n : Nat) (l : List Op), l.length ≤ n → ∀ i, i < (sweepGo n l).length → dead (sweepGo n l) i = false
  | 0, l, h => fun i hi => by
    have : (sweepGo 0 l).length = l.length := rfl
    omega
  | n + 1, l, h => by
    unfold sweepGo
    split
    · rename_i i hi
      have h1 := (firstDead_some hi).1
      have h3 : (l.eraseIdx i).length = l.length - 1 := List.length_eraseIdx_of_lt h1
      exact sweepGo_dead n _ (by omega)
    · rename_i hi
      exact firstDead_none hi
theorem deads_sweep (l : List Op) : deads (sweep l) = 0 := by
  unfold deads
  rw [List.countP_eq_zero]
  intro i hi
  have := sweepGo_dead l.length l (Nat.le_refl _) i (List.mem_range.1 hi)
  unfold sweep
  simp [this]
theorem opt_good {many : Int} {l : List Op} (h : Good many l) (v : Int) : Good many (opt l v) := by
  unfold opt
  split
  · exact h
  · split
    · exact good_fold h
    · exact sweepGo_good _ _ (good_fold h)
theorem opt_len (l : List Op) (v : Int) : (opt l v).length ≤ l.length := by
  unfold opt
  split
  · exact Nat.le_refl _
  · split
    · rw [fold_len]; exact Nat.le_refl _
    · have := sweepGo_len (fold l).length (fold l)
      rw [fold_len] at this
      unfold sweep
      rw [fold_len]
      exact this
end Ir
end Go.Proofs.YtlmnmncdoiealaaGreatDoor
