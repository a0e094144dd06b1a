import Derived.Test.YtlmnmncdoiealaaGreatDoorKaz08

/- PlanMake -/
/- A plan as it is made, said plainly: it goes as the code goes; its rows are right; no two of them could plainly be one. No program in sight. -/
namespace Go.Proofs.YtlmnmncdoiealaaGreatDoor
open Go.RowKit
set_option linter.unusedVariables false
namespace Ir
/-- an op's class, and how many a row may have -/
def cls (o : Op) : Nat := if kn o.k = 5 ∨ kn o.k = 6 then 1 else if leaves (kn o.k) = true then 2 else 0
def room (c : Nat) : Nat := if c = 0 then 3 else 1
def cnt (l : List Op) (c : Nat) : Nat := l.countP fun o => decide (cls o = c)
/-- a maker of plans: st, ld: one more than the last row with a store, a load -/
structure Mk where
  rows : List (List Op)
  write : Int → Option Nat
  read : Int → Option Nat
  st : Nat
  ld : Nat
  leave : Nat
  first : Nat
def mk0 : Mk := ⟨[], fun _ => none, fun _ => none, 0, 0, 0, 0⟩
def up (f : Int → Option Nat) (n k d : Nat) (r : Int) : Nat := match f r with | some w => max k (w + d) | none => k
def fromR (f : Int → Option Nat) : Nat → List Int → Nat
  | k, [] => k
  | k, r :: t => fromR f (match f r with | some w => max k (w + 1) | none => k) t
def fromW (m : Mk) (d : Int) (k : Nat) : Nat :=
  if d = 0 then k else
    let k1 := match m.write d with | some w => max k (w + 1) | none => k
    match m.read d with | some r => max k1 r | none => k1
def fromK (m : Mk) (o : Op) : Nat :=
  let k := fromW m (writes o) (fromR m.write m.first (reads o))
  if kn o.k = 5 then max k m.st else if kn o.k = 6 then max (max k m.st) (m.ld - 1) else if leaves (kn o.k) = true then max k m.leave else k
def fits (m : Mk) (k : Nat) (o : Op) : Bool :=
  decide (m.rows.length ≤ k) || (decide ((m.rows.getD k []).length < 4) && decide (cnt (m.rows.getD k []) (cls o) < room (cls o)))
def seek (m : Mk) (o : Op) : Nat → Nat → Nat
  | 0, k => k
  | n + 1, k => if fits m k o = true then k else seek m o n (k + 1)
def layAt (m : Mk) (o : Op) : Nat := seek m o (m.rows.length - fromK m o) (fromK m o)
def layRows (rows : List (List Op)) (k : Nat) (o : Op) : List (List Op) := if k < rows.length then rows.set k (rows.getD k [] ++ [o]) else rows ++ [[o]]
def lay (m : Mk) (o : Op) : Mk :=
  let k := layAt m o
  { rows := layRows m.rows k o
    write := if writes o = 0 then m.write else fun n => if n = writes o then some k else m.write n
    read := fun n => if (reads o).contains n = true then some (max ((m.read n).getD 0) k) else m.read n
    st := if kn o.k = 6 then k + 1 else m.st
    ld := if kn o.k = 5 then max m.ld (k + 1) else m.ld
    leave := max m.leave k
    first := if leaves (kn o.k) = true then k + 1 else m.first }
def make (l : List Op) : Mk := l.foldl lay mk0

theorem fromR_ge (f : Int → Option Nat) : ∀ (l : List Int) (k : Nat), k ≤ fromR f k l ∧ ∀ n w, l.contains n = true → f n = some w → w + 1 ≤ fromR f k l
  | [], k => ⟨Nat.le_refl _, fun n w h => by simp at h⟩
  | r :: t, k => by
    have ih := fromR_ge f t (match f r with | some w => max k (w + 1) | none => k)
    have h0 : k ≤ (match f r with | some w => max k (w + 1) | none => k) := by
      cases f r with
      | some w => exact Nat.le_max_left _ _
      | none => exact Nat.le_refl _
    refine ⟨Nat.le_trans h0 ih.1, fun n w hn hw => ?_⟩
    rw [List.contains_cons] at hn
    by_cases e : n = r
    · subst e
      have : w + 1 ≤ (match f n with | some w => max k (w + 1) | none => k) := by
        rw [hw]
        exact Nat.le_max_right _ _
      exact Nat.le_trans this ih.1
    · have hn2 : t.contains n = true := by
        rw [Bool.or_eq_true] at hn
        rcases hn with hn | hn
        · exact absurd (by simpa using hn) e
        · exact hn
      exact ih.2 n w hn2 hw
theorem fromW_ge (m : Mk) (d : Int) (k : Nat) : k ≤ fromW m d k ∧ (d ≠ 0 → (∀ w, m.write d = some w → w + 1 ≤ fromW m d k) ∧ ∀ r, m.read d = some r → r ≤ fromW m d k) := by
  unfold fromW
  by_cases h : d = 0
  · rw [if_pos h]
    exact ⟨Nat.le_refl _, fun h' => absurd h h'⟩
  · rw [if_neg h]
    cases hw : m.write d with
    | none =>
      cases hr : m.read d with
      | none => exact ⟨Nat.le_refl _, fun _ => ⟨fun _ h => (by cases h), fun _ h => (by cases h)⟩⟩
      | some r =>
        refine ⟨Nat.le_max_left _ _, fun _ => ⟨fun _ h => (by cases h), fun x h => ?_⟩⟩
        injection h with h
        subst h
        exact Nat.le_max_right _ _
    | some w =>
      cases hr : m.read d with
      | none =>
        refine ⟨Nat.le_max_left _ _, fun _ => ⟨fun x h => ?_, fun _ h => (by cases h)⟩⟩
        injection h with h
        subst h
        exact Nat.le_max_right _ _
      | some r => 
        have h1 := Nat.le_max_left k (w + 1)
        have h2 := Nat.le_max_right k (w + 1)
        have h3 := Nat.le_max_left (max k (w + 1)) r
        have h4 := Nat.le_max_right (max k (w + 1)) r
        refine ⟨Nat.le_trans h1 h3, fun _ => ⟨fun x h => ?_, fun x h => ?_⟩⟩
        · injection h with h; subst h; exact Nat.le_trans h2 h3
        · injection h with h; subst h; exact h4
theorem fromK_ge (m : Mk) (o : Op) : m.first ≤ fromK m o ∧ (∀ n w, (reads o).contains n = true → m.write n = some w → w + 1 ≤ fromK m o) ∧ (writes o ≠ 0 → (∀ w, m.write (writes o) = some w → w + 1 ≤ fromK m o) ∧ ∀ r, m.read (writes o) = some r → r ≤ fromK m o) ∧
    (kn o.k = 5 ∨ kn o.k = 6 → m.st ≤ fromK m o) ∧ (kn o.k = 6 → m.ld ≤ fromK m o + 1) ∧ (leaves (kn o.k) = true → m.leave ≤ fromK m o) := by
  have h1 := fromR_ge m.write (reads o) m.first
  have h2 := fromW_ge m (writes o) (fromR m.write m.first (reads o))
  have h3 : fromW m (writes o) (fromR m.write m.first (reads o)) ≤ fromK m o := by
    unfold fromK
    dsimp only
    split
    · exact Nat.le_max_left _ _
    · split
      · omega
      · split
        · exact Nat.le_max_left _ _
        · exact Nat.le_refl _
  refine ⟨by omega, fun n w hn hw => by have := h1.2 n w hn hw; omega, fun hd => ⟨fun w hw => by have := (h2.2 hd).1 w hw; omega, fun r hr => by have := (h2.2 hd).2 r hr; omega⟩, fun h => ?_, fun h => ?_, fun h => ?_⟩
  · unfold fromK
    dsimp only
    rcases h with h | h
    · rw [if_pos h]; omega
    · rw [if_neg (by omega), if_pos h]; omega
  · unfold fromK
    dsimp only
    rw [if_neg (by omega), if_pos h]; omega
  · unfold fromK
    dsimp only
    have h' := h
    unfold leaves at h'
    have h' := of_decide_eq_true h'
    rw [if_neg (by omega), if_neg (by omega), if_pos h]; omega
theorem seek_ge (m : Mk) (o : Op) : ∀ n k, k ≤ seek m o n k ∧ seek m o n k ≤ k + n ∧ (∀ j, k ≤ j → j < seek m o n k → fits m j o = false) ∧ (fits m (k + n) o = true → fits m (seek m o n k) o = true)
  | 0, k => ⟨Nat.le_refl _, Nat.le_refl _, fun j h1 h2 => absurd (show j < k from h2) (by omega), fun h => h⟩
  | n + 1, k => by
    unfold seek
    split
    · rename_i h
      exact ⟨Nat.le_refl _, by omega, fun j h1 h2 => by omega, fun _ => h⟩
    · rename_i h
      obtain ⟨h1, h2, h3, h4⟩ := seek_ge m o n (k + 1)
      refine ⟨by omega, by omega, fun j h5 h6 => ?_, fun h5 => h4 (by rw [show k + 1 + n = k + (n + 1) by omega]; exact h5)⟩
      by_cases e : j = k
      · subst e
        simpa using h
      · exact h3 j (by omega) h6
/-- a row is not loose towards the one behind it -/
def plainO (o : Op) : Bool := plainK (kn o.k)
def Tight (a b : List Op) : Prop := (∃ p ∈ a, plainO p = false) ∨ (∃ p ∈ b, plainO p = false) ∨ 3 ≤ a.length ∨ ∃ p ∈ a, ∃ q ∈ b, 0 < writes p ∧ (writes q = writes p ∨ (reads q).contains (writes p) = true)
theorem Tight.mono {a b a' b' : List Op} (h : Tight a b) (ha : ∀ p ∈ a, p ∈ a') (hb : ∀ p ∈ b, p ∈ b') (hl : a.length ≤ a'.length) : Tight a' b' := by
  rcases h with ⟨p, h1, h2⟩ | ⟨p, h1, h2⟩ | h | ⟨p, h1, q, h2, h3⟩
  · exact .inl ⟨p, ha p h1, h2⟩
  · exact .inr (.inl ⟨p, hb p h1, h2⟩)
  · exact .inr (.inr (.inl (by omega)))
  · exact .inr (.inr (.inr ⟨p, ha p h1, q, hb q h2, h3⟩))
/-- what a maker keeps -/
structure Inv (m : Mk) (l : List Op) : Prop where
  go : ∀ W X mm, rowsGo W X mm m.rows = rowsGo W X mm (l.map fun o => [o])
  perm : m.rows.flatten.Perm l
  ne : ∀ i, i < m.rows.length → m.rows.getD i [] ≠ []
  wr : ∀ i p, p ∈ m.rows.getD i [] → 0 < writes p → ∃ w, m.write (writes p) = some w ∧ i ≤ w
  rd : ∀ i p, p ∈ m.rows.getD i [] → ∀ n, (reads p).contains n = true → ∃ r, m.read n = some r ∧ i ≤ r
  st : ∀ i p, p ∈ m.rows.getD i [] → kn p.k = 6 → i < m.st
  ld : ∀ i p, p ∈ m.rows.getD i [] → kn p.k = 5 → i < m.ld
  fs : ∀ i p, p ∈ m.rows.getD i [] → leaves (kn p.k) = true → i < m.first
  lv : m.rows.length ≤ m.leave + 1
  wrB : ∀ n w, m.write n = some w → w < m.rows.length ∧ 0 < n ∧ ∃ p ∈ m.rows.getD w [], writes p = n
  rdB : ∀ n r, m.read n = some r → r < m.rows.length
  stB : m.st ≤ m.rows.length
  ldB : m.ld ≤ m.rows.length
  lvB : m.leave ≤ m.rows.length
  fsB : m.first ≤ m.rows.length ∧ (m.first = 0 ∨ ∃ p ∈ m.rows.getD (m.first - 1) [], leaves (kn p.k) = true)
  four : ∀ i, (m.rows.getD i []).length ≤ 4
  fitR : ∀ i c, cnt (m.rows.getD i []) c ≤ room c
  dist : ∀ i, (m.rows.getD i []).Pairwise fun p q => 0 < writes p → writes p ≠ writes q
  tight : ∀ i, i + 1 < m.rows.length → Tight (m.rows.getD i []) (m.rows.getD (i + 1) [])
  kind : ∀ p ∈ l, kn p.k ≠ 0 ∧ 0 ≤ writes p
theorem layRows_at {rows : List (List Op)} {k : Nat} {o : Op} (hk : k ≤ rows.length) (i : Nat) : (layRows rows k o).getD i [] = if i = k then rows.getD k [] ++ [o] else rows.getD i [] := by
  unfold layRows
  by_cases h : k < rows.length
  · rw [if_pos h]
    simp only [List.getD_eq_getElem?_getD, List.getElem?_set]
    by_cases e : i = k
    · subst e
      simp [h]
    · rw [if_neg e, if_neg (fun h => e h.symm)]
  · obtain rfl : k = rows.length := by omega
    rw [if_neg h]
    simp only [List.getD_eq_getElem?_getD]
    by_cases e : i = rows.length
    · subst e
      rw [if_pos rfl, List.getElem?_append_right (Nat.le_refl _), Nat.sub_self, List.getElem?_eq_none (Nat.le_refl _)]
      rfl
    · rw [if_neg e]
      by_cases h2 : i < rows.length
      · rw [List.getElem?_append_left h2]
      · rw [List.getElem?_append_right (by omega), List.getElem?_eq_none (by simp; omega), List.getElem?_eq_none (by omega)]
theorem layRows_len {rows : List (List Op)} {k : Nat} {o : Op} (hk : k ≤ rows.length) : (layRows rows k o).length = max rows.length (k + 1) := by
  unfold layRows
  split
  · rw [List.length_set]; omega
  · rw [List.length_append, List.length_singleton]; omega
theorem layRows_perm {rows : List (List Op)} {k : Nat} {o : Op} : (layRows rows k o).flatten.Perm (rows.flatten ++ [o]) := by
  unfold layRows
  split
  · rename_i h
    have e1 : rows = rows.take k ++ rows.getD k [] :: rows.drop (k + 1) := by
      rw [List.getD_eq_getElem?_getD, List.getElem?_eq_getElem h]
      show rows = rows.take k ++ rows[k] :: rows.drop (k + 1)
      rw [← List.drop_eq_getElem_cons h, List.take_append_drop]
    rw [List.set_eq_take_append_cons_drop, if_pos h]
    conv => rhs; rw [e1]
    generalize rows.getD k [] = R
    rw [List.flatten_append, List.flatten_append, List.flatten_cons, List.flatten_cons, List.append_assoc, List.append_assoc, List.append_assoc]
    exact List.Perm.append_left _ (List.Perm.append_left _ List.perm_append_comm)
  · rw [List.flatten_append]
    exact List.Perm.refl _
theorem rowsGo_snoc {W : Int → Bool} {A B : List (List Op)} {r : List Op} {X m : Nat → Int} (h : rowsGo W X m A = rowsGo W X m B) : rowsGo W X m (A ++ [r]) = rowsGo W X m (B ++ [r]) := by
  rw [rowsGo_append, rowsGo_append, h]
theorem cnt_snoc (l : List Op) (o : Op) (c : Nat) : cnt (l ++ [o]) c = cnt l c + if cls o = c then 1 else 0 := by
  unfold cnt
  rw [List.countP_append, List.countP_singleton]
  by_cases h : cls o = c <;> simp [h]
theorem cnt_le (l : List Op) (c : Nat) : cnt l c ≤ l.length := List.countP_le_length
theorem mk0_inv : Inv mk0 [] where
  go := fun _ _ _ => rfl
  perm := List.Perm.refl _
  ne := fun i h => by simp [mk0] at h
  wr := fun i p h => by simp [mk0] at h
  rd := fun i p h => by simp [mk0] at h
  st := fun i p h => by simp [mk0] at h
  ld := fun i p h => by simp [mk0] at h
  fs := fun i p h => by simp [mk0] at h
  lv := by simp [mk0]
  wrB := fun n w h => by simp [mk0] at h
  rdB := fun n w h => by simp [mk0] at h
  stB := by simp [mk0]
  ldB := by simp [mk0]
  lvB := by simp [mk0]
  fsB := by simp [mk0]
  four := fun i => by simp [mk0]
  fitR := fun i c => by simp [mk0, cnt]
  dist := fun i => by simp [mk0]
  tight := fun i h => by simp [mk0] at h
  kind := fun p h => by simp at h
/-- where an op is laid -/
theorem fromK_le {m : Mk} {l : List Op} (I : Inv m l) (o : Op) : fromK m o ≤ m.rows.length := by
  have hR : ∀ (t : List Int) (k : Nat), k ≤ m.rows.length → fromR m.write k t ≤ m.rows.length := by
    intro t
    induction t with
    | nil => intro k h; exact h
    | cons r t ih =>
      intro k h
      refine ih _ ?_
      cases hw : m.write r with
      | none => exact h
      | some w => have := (I.wrB r w hw).1; dsimp only; omega
  have h1 := hR (reads o) m.first I.fsB.1
  have h2 : fromW m (writes o) (fromR m.write m.first (reads o)) ≤ m.rows.length := by
    unfold fromW
    split
    · exact h1
    · cases hw : m.write (writes o) with
      | none =>
        cases hr : m.read (writes o) with
        | none => exact h1
        | some r => have := I.rdB _ r hr; dsimp only; omega
      | some w =>
        have := (I.wrB _ w hw).1
        cases hr : m.read (writes o) with
        | none => exact Nat.max_le.2 ⟨h1, by omega⟩
        | some r => have := I.rdB _ r hr; exact Nat.max_le.2 ⟨Nat.max_le.2 ⟨h1, by omega⟩, by omega⟩
  have := I.stB
  have := I.ldB
  have := I.lvB
  unfold fromK
  dsimp only
  split
  · omega
  · split
    · omega
    · split
      · omega
      · omega
theorem layAt_all {m : Mk} {l : List Op} (I : Inv m l) (o : Op) : fromK m o ≤ layAt m o ∧ layAt m o ≤ m.rows.length ∧ (∀ j, fromK m o ≤ j → j < layAt m o → fits m j o = false) ∧ fits m (layAt m o) o = true := by
  have h0 := fromK_le I o
  obtain ⟨h1, h2, h3, h4⟩ := seek_ge m o (m.rows.length - fromK m o) (fromK m o)
  unfold layAt
  refine ⟨h1, by omega, h3, h4 ?_⟩
  unfold fits
  rw [decide_eq_true (by omega), Bool.true_or]
theorem mem_drop_row {rows : List (List Op)} {j : Nat} {r : List Op} (h : r ∈ rows.drop j) : ∃ i, j ≤ i ∧ i < rows.length ∧ rows.getD i [] = r := by
  obtain ⟨i, hi, he⟩ := List.getElem_of_mem h
  rw [List.length_drop] at hi
  refine ⟨j + i, by omega, by omega, ?_⟩
  rw [List.getD_eq_getElem?_getD, List.getElem?_eq_getElem (by omega)]
  rw [List.getElem_drop] at he
  exact he
theorem mild_of {m : Mk} {l : List Op} (I : Inv m l) {o p : Op} {i k : Nat} (hp : p ∈ m.rows.getD i []) (hk : fromK m o ≤ k) (hik : k ≤ i) (hpl : kn p.k ≠ 0 ∧ 0 ≤ writes p) : Mild o p := by
  obtain ⟨f1, f2, f3, f4, f5, f6⟩ := fromK_ge m o
  refine ⟨hpl.1, ?_, fun hw e => ?_, fun hw => ?_, fun h h6 => ?_⟩
  · cases hl : leaves (kn p.k) with
    | false => rfl
    | true => have := I.fs i p hp hl; omega
  · obtain ⟨w, hw1, hw2⟩ := I.wr i p hp (by omega)
    have := (f3 (by omega)).1 w (by rw [← e]; exact hw1)
    omega
  · cases hc : (reads o).contains (writes p) with
    | false => rfl
    | true =>
      obtain ⟨w, hw1, hw2⟩ := I.wr i p hp hw
      have := f2 _ w hc hw1
      omega
  · have := I.st i p hp h6
    have := f4 h
    omega
theorem late_of {m : Mk} {l : List Op} (I : Inv m l) {o p : Op} {i k : Nat} (hp : p ∈ m.rows.getD i []) (hk : fromK m o ≤ k) (hik : k < i) (hpl : kn p.k ≠ 0 ∧ 0 ≤ writes p) : Late o p := by
  obtain ⟨f1, f2, f3, f4, f5, f6⟩ := fromK_ge m o
  refine ⟨mild_of I hp hk (by omega) hpl, fun hw => ?_, fun h h5 => ?_⟩
  · cases hc : (reads p).contains (writes o) with
    | false => rfl
    | true =>
      obtain ⟨r, hr1, hr2⟩ := I.rd i p hp _ hc
      have := (f3 (by omega)).2 r hr1
      omega
  · have := I.ld i p hp h5
    have := f5 h
    omega
theorem mem_flat {rows : List (List Op)} {i : Nat} {p : Op} (h : p ∈ rows.getD i []) : p ∈ rows.flatten := by
  rw [List.getD_eq_getElem?_getD] at h
  by_cases hi : i < rows.length
  · rw [List.getElem?_eq_getElem hi] at h
    exact List.mem_flatten.2 ⟨rows[i], List.getElem_mem hi, h⟩
  · rw [List.getElem?_eq_none (by omega)] at h
    cases h
/-- AN OP THAT IS LAID IN GOES AS AT THE END -/
theorem lay_go {m : Mk} {l : List Op} (I : Inv m l) {o : Op} (h0 : kn o.k ≠ 0) (W : Int → Bool) (X mm : Nat → Int) : rowsGo W X mm (layRows m.rows (layAt m o) o) = rowsGo W X mm (m.rows ++ [[o]]) := by
  obtain ⟨a1, a2, a3, a4⟩ := layAt_all I o
  unfold layRows
  split
  · rename_i h
    have e1 : m.rows = m.rows.take (layAt m o) ++ m.rows.getD (layAt m o) [] :: m.rows.drop (layAt m o + 1) := by
      rw [List.getD_eq_getElem?_getD, List.getElem?_eq_getElem h]
      show m.rows = m.rows.take _ ++ m.rows[layAt m o] :: m.rows.drop (layAt m o + 1)
      rw [← List.drop_eq_getElem_cons h, List.take_append_drop]
    rw [List.set_eq_take_append_cons_drop, if_pos h]
    conv => rhs; rw [e1, List.append_assoc, List.cons_append]
    refine insert_row h0 (fun p hp => ?_) (fun r hr p hp => ?_) (fun hl => ?_) X mm
    · exact mild_of I hp a1 (Nat.le_refl _) (I.kind p (I.perm.subset (mem_flat hp)))
    · obtain ⟨i, i1, i2, rfl⟩ := mem_drop_row hr
      exact late_of I hp a1 (by omega) (I.kind p (I.perm.subset (mem_flat hp)))
    · have := (fromK_ge m o).2.2.2.2.2 hl
      have := I.lv
      exact List.drop_eq_nil_of_le (by omega)
  · rfl
/-- a maker keeps what it keeps -/
theorem lay_inv {m : Mk} {l : List Op} (I : Inv m l) {o : Op} (h0 : kn o.k ≠ 0) (hw0 : 0 ≤ writes o) : Inv (lay m o) (l ++ [o]) := by
  obtain ⟨a1, a2, a3, a4⟩ := layAt_all I o
  have hgo := fun W X mm => lay_go I h0 W X mm
  obtain ⟨f1, f2, f3, f4, f5, f6⟩ := fromK_ge m o
  have hkind := fun i p (hp : p ∈ m.rows.getD i []) => I.kind p (I.perm.subset (mem_flat hp))
  have hmild : ∀ p ∈ m.rows.getD (layAt m o) [], Mild o p := fun p hp => mild_of I hp a1 (Nat.le_refl _) (hkind _ p hp)
  have hat := fun i => layRows_at (rows := m.rows) (o := o) a2 i
  have hlen := layRows_len (rows := m.rows) (o := o) a2
  have hfit : m.rows.length ≤ layAt m o ∨ ((m.rows.getD (layAt m o) []).length < 4 ∧ cnt (m.rows.getD (layAt m o) []) (cls o) < room (cls o)) := by
    unfold fits at a4
    simpa using a4
  have hnil : m.rows.length ≤ layAt m o → m.rows.getD (layAt m o) [] = [] := fun h => by
    rw [List.getD_eq_getElem?_getD, List.getElem?_eq_none h]; rfl
  have hroom : 1 ≤ room (cls o) := by unfold room; split <;> omega
  have hunfit : ∀ j, fromK m o ≤ j → j < layAt m o → 3 ≤ (m.rows.getD j []).length ∨ plainO o = false := fun j h1 h2 => by
    have := a3 j h1 h2
    unfold fits at this
    simp only [Bool.or_eq_false_iff, decide_eq_false_iff_not, Bool.and_eq_false_iff] at this
    rcases this.2 with h | h
    · left; omega
    · by_cases hc : cls o = 0
      · left
        have h3 := cnt_le (m.rows.getD j []) (cls o)
        have : room (cls o) = 3 := by unfold room; rw [if_pos hc]
        omega
      · right
        unfold cls at hc
        unfold plainO plainK isSum
        split at hc
        · rename_i h5
          simp only [Bool.or_eq_false_iff, decide_eq_false_iff_not]
          omega
        · split at hc
          · rename_i h5 h6
            unfold leaves at h6
            have h6 := of_decide_eq_true h6
            simp only [Bool.or_eq_false_iff, decide_eq_false_iff_not]
            omega
          · exact absurd rfl hc
  generalize hkk : layAt m o = k at *
  have L : (lay m o) = { rows := layRows m.rows k o, write := if writes o = 0 then m.write else fun n => if n = writes o then some k else m.write n, read := fun n => if (reads o).contains n = true then some (max ((m.read n).getD 0) k) else m.read n, st := if kn o.k = 6 then k + 1 else m.st, ld := if kn o.k = 5 then max m.ld (k + 1) else m.ld, leave := max m.leave k, first := if leaves (kn o.k) = true then k + 1 else m.first } := by
    unfold lay
    rw [hkk]
  rw [L]
  have mem : ∀ i p, p ∈ (layRows m.rows k o).getD i [] → (p = o ∧ i = k) ∨ p ∈ m.rows.getD i [] := fun i p hp => by
    rw [hat] at hp
    split at hp
    · rename_i e
      rw [List.mem_append, List.mem_singleton] at hp
      rcases hp with hp | hp
      · exact .inr (by rw [e]; exact hp)
      · exact .inl ⟨hp, e⟩
    · exact .inr hp
  have mem' : ∀ i p, p ∈ m.rows.getD i [] → p ∈ (layRows m.rows k o).getD i [] := fun i p hp => by
    rw [hat]
    split
    · rename_i e
      rw [← e]
      exact List.mem_append_left _ hp
    · exact hp
  have memo : o ∈ (layRows m.rows k o).getD k [] := by
    rw [hat, if_pos rfl]
    exact List.mem_append_right _ (List.mem_singleton_self _)
  have hstB := I.stB
  have hldB := I.ldB
  have hlvB := I.lvB
  have hfsB := I.fsB
  have hlv := I.lv
  refine ⟨?_, ?_, ?_, ?_, ?_, ?_, ?_, ?_, ?_, ?_, ?_, ?_, ?_, ?_, ?_, ?_, ?_, ?_, ?_, ?_⟩ <;> try dsimp only
  · intro W X mm
    rw [hgo, List.map_append]
    exact rowsGo_snoc (I.go W X mm)
  · exact layRows_perm.trans (List.Perm.append_right _ I.perm)
  · intro i hi
    rw [hat]
    split
    · simp
    · exact I.ne i (by omega)
  · intro i p hp hw
    rcases mem i p hp with ⟨rfl, rfl⟩ | hp
    · exact ⟨i, by rw [if_neg (by omega), if_pos rfl], Nat.le_refl _⟩
    · obtain ⟨w, hw1, hw2⟩ := I.wr i p hp hw
      by_cases e : writes o = 0
      · exact ⟨w, by rw [if_pos e]; exact hw1, hw2⟩
      · rw [if_neg e]
        by_cases e2 : writes p = writes o
        · have := (f3 e).1 w (by rw [← e2]; exact hw1)
          exact ⟨k, by rw [if_pos e2], by omega⟩
        · exact ⟨w, by rw [if_neg e2]; exact hw1, hw2⟩
  · intro i p hp n hn
    rcases mem i p hp with ⟨rfl, rfl⟩ | hp
    · exact ⟨_, by rw [if_pos hn], Nat.le_max_right _ _⟩
    · obtain ⟨r, hr1, hr2⟩ := I.rd i p hp n hn
      by_cases e : (reads o).contains n = true
      · exact ⟨_, by rw [if_pos e], by rw [hr1]; show i ≤ max r k; omega⟩
      · exact ⟨r, by rw [if_neg e]; exact hr1, hr2⟩
  · intro i p hp h6
    rcases mem i p hp with ⟨rfl, rfl⟩ | hp
    · rw [if_pos h6]; omega
    · have := I.st i p hp h6
      split
      · rename_i h
        have := f4 (.inr h)
        omega
      · exact this
  · intro i p hp h5
    rcases mem i p hp with ⟨rfl, rfl⟩ | hp
    · rw [if_pos h5]; omega
    · have := I.ld i p hp h5
      split <;> omega
  · intro i p hp hl
    rcases mem i p hp with ⟨rfl, rfl⟩ | hp
    · rw [if_pos hl]; omega
    · have := I.fs i p hp hl
      split <;> omega
  · rw [hlen]; omega
  · intro n w hn
    rw [hlen]
    by_cases e : writes o = 0
    · rw [if_pos e] at hn
      obtain ⟨b1, b0, p, hp, hq⟩ := I.wrB n w hn
      exact ⟨by omega, b0, p, mem' w p hp, hq⟩
    · rw [if_neg e] at hn
      split at hn
      · rename_i e2
        injection hn with hn
        subst hn
        exact ⟨by omega, by omega, o, memo, e2.symm⟩
      · obtain ⟨b1, b0, p, hp, hq⟩ := I.wrB n w hn
        exact ⟨by omega, b0, p, mem' w p hp, hq⟩
  · intro n r hn
    rw [hlen]
    split at hn
    · injection hn with hn
      subst hn
      cases hr : m.read n with
      | none => show max 0 k < _; omega
      | some r => have := I.rdB n r hr; show max r k < _; omega
    · have := I.rdB n r hn; omega
  · rw [hlen]; split <;> omega
  · rw [hlen]; split <;> omega
  · rw [hlen]; omega
  · rw [hlen]
    split
    · rename_i h
      exact ⟨by omega, .inr ⟨o, by rw [Nat.add_sub_cancel]; exact memo, h⟩⟩
    · refine ⟨by omega, ?_⟩
      rcases hfsB.2 with h | ⟨p, hp, hq⟩
      · exact .inl h
      · exact .inr ⟨p, mem' _ p hp, hq⟩
  · intro i
    rw [hat]
    split
    · rw [List.length_append, List.length_singleton]
      rcases hfit with h | h
      · rw [hnil h]; simp
      · omega
    · exact I.four i
  · intro i c
    rw [hat]
    split
    · rw [cnt_snoc]
      have := I.fitR k c
      split
      · rename_i e
        subst e
        rcases hfit with h | h
        · rw [hnil h]; show 0 + 1 ≤ _; omega
        · omega
      · omega
    · exact I.fitR i c
  · intro i
    rw [hat]
    split
    · rw [List.pairwise_append]
      refine ⟨I.dist k, List.pairwise_singleton _ _, fun p hp q hq hw e => ?_⟩
      rw [List.mem_singleton] at hq
      subst hq
      exact (hmild p hp).w (by omega) e
    · exact I.dist i
  · intro i hi
    rw [hlen] at hi
    by_cases hik : i + 1 < m.rows.length
    · refine (I.tight i hik).mono (mem' i) (mem' (i + 1)) ?_
      rw [hat]
      split
      · rename_i e; subst e; rw [List.length_append]; omega
      · exact Nat.le_refl _
    · obtain ⟨rfl, hk1⟩ : k = i + 1 ∧ m.rows.length = i + 1 := by omega
      by_cases hpl : plainO o = false
      · exact .inr (.inl ⟨o, memo, hpl⟩)
      · rcases Nat.lt_or_ge i (fromK m o) with hfr | hfr
        · -- what forced it
          have hold : ∀ p, p ∈ m.rows.getD i [] → p ∈ (layRows m.rows (i + 1) o).getD i [] := mem' i
          have hpk : ¬ (kn o.k = 5) ∧ ¬ (kn o.k = 6) ∧ ¬ leaves (kn o.k) = true := by
            unfold plainO plainK isSum at hpl
            rw [Bool.not_eq_false, Bool.or_eq_true] at hpl
            have := of_decide_eq_true (p := (kn o.k = 1 ∨ kn o.k = 2) ∨ 10 ≤ kn o.k) (by rcases hpl with h | h <;> simp at h <;> simp <;> omega)
            refine ⟨by omega, by omega, fun h => ?_⟩
            unfold leaves at h
            have h := of_decide_eq_true h
            omega
          have e1 : fromK m o = fromW m (writes o) (fromR m.write m.first (reads o)) := by
            unfold fromK
            dsimp only
            rw [if_neg hpk.1, if_neg hpk.2.1, if_neg hpk.2.2]
          rw [e1] at hfr
          have hW : i < fromR m.write m.first (reads o) ∨ ∃ w, m.write (writes o) = some w ∧ i ≤ w ∧ writes o ≠ 0 := by
            unfold fromW at hfr
            split at hfr
            · exact .inl hfr
            · rename_i hd
              cases hw : m.write (writes o) with
              | none =>
                rw [hw] at hfr
                cases hr : m.read (writes o) with
                | none => rw [hr] at hfr; exact .inl hfr
                | some r =>
                  rw [hr] at hfr
                  have := I.rdB _ r hr
                  dsimp only at hfr
                  left; omega
              | some w =>
                rw [hw] at hfr
                cases hr : m.read (writes o) with
                | none =>
                  rw [hr] at hfr
                  dsimp only at hfr
                  by_cases h : i < fromR m.write m.first (reads o)
                  · exact .inl h
                  · refine .inr ⟨w, rfl, ?_, hd⟩
                    rcases Nat.lt_or_ge w i with hwi | hwi
                    · exact absurd (Nat.max_le.2 ⟨show fromR m.write m.first (reads o) ≤ i by omega, show w + 1 ≤ i by omega⟩) (Nat.not_le.2 hfr)
                    · exact hwi
                | some r =>
                  rw [hr] at hfr
                  have := I.rdB _ r hr
                  dsimp only at hfr
                  by_cases h : i < fromR m.write m.first (reads o)
                  · exact .inl h
                  · refine .inr ⟨w, rfl, ?_, hd⟩
                    rcases Nat.lt_or_ge w i with hwi | hwi
                    · exact absurd (Nat.max_le.2 ⟨Nat.max_le.2 ⟨show fromR m.write m.first (reads o) ≤ i by omega, show w + 1 ≤ i by omega⟩, show r ≤ i by omega⟩) (Nat.not_le.2 hfr)
                    · exact hwi
          have hR : ∀ (t : List Int) (k : Nat), i < fromR m.write k t → i < k ∨ ∃ n w, t.contains n = true ∧ m.write n = some w ∧ i ≤ w := by
            intro t
            induction t with
            | nil => intro k h; exact .inl h
            | cons r t ih =>
              intro k h
              rcases ih _ h with h | ⟨n, w, h1, h2, h3⟩
              · cases hw : m.write r with
                | none => rw [hw] at h; exact .inl h
                | some w =>
                  rw [hw] at h
                  dsimp only at h
                  by_cases hk : i < k
                  · exact .inl hk
                  · exact .inr ⟨r, w, by rw [List.contains_cons]; simp, hw, by omega⟩
              · exact .inr ⟨n, w, by rw [List.contains_cons, h1, Bool.or_true], h2, h3⟩
          rcases hW with h | ⟨w, h1, h2, h3⟩
          · rcases hR _ _ h with h | ⟨n, w, h1, h2, h3⟩
            · rcases hfsB.2 with h' | ⟨p, hp, hq⟩
              · omega
              · have : m.first - 1 = i := by omega
                rw [this] at hp
                refine .inl ⟨p, hold p hp, ?_⟩
                unfold leaves at hq
                have hq := of_decide_eq_true hq
                unfold plainO plainK isSum
                simp only [Bool.or_eq_false_iff, decide_eq_false_iff_not]
                omega
            · obtain ⟨b1, b0, p, hp, hq⟩ := I.wrB n w h2
              obtain rfl : w = i := by omega
              exact .inr (.inr (.inr ⟨p, hold p hp, o, memo, by omega, .inr (by rw [hq]; exact h1)⟩))
          · obtain ⟨b1, b0, p, hp, hq⟩ := I.wrB _ w h1
            obtain rfl : w = i := by omega
            exact .inr (.inr (.inr ⟨p, hold p hp, o, memo, by omega, .inl hq.symm⟩))
        · rcases hunfit i hfr (by omega) with h | h
          · refine .inr (.inr (.inl ?_))
            rw [hat, if_neg (by omega)]
            exact h
          · exact absurd h hpl
  · intro p hp
    rw [List.mem_append, List.mem_singleton] at hp
    rcases hp with hp | rfl
    · exact I.kind p hp
    · exact ⟨h0, hw0⟩
end Ir
end Go.Proofs.YtlmnmncdoiealaaGreatDoor
