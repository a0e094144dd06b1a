import Derived.Test.YtknhfobcejpmeaaDoorPcz13

/- PlanErr -/
/- What is wrong of a row, of a plan, said plainly; a plan that was made is right, and no two of its rows could be one. No program in sight. -/
namespace Go.Proofs.YtknhfobcejpmeaaDoor
open Go.RowKit
set_option linter.unusedVariables false
namespace Ir
/-- the first op of a row that is wrong: its error; 0: none is -/
def opErrs (many : Int) : List Op → Nat
  | [] => 0
  | o :: r => if opErr o many ≠ 0 then opErr o many else opErrs many r
/-- does a row write a register twice? -/
def dupW : List Op → Bool
  | [] => false
  | o :: r => (r.any fun p => decide (0 < writes p ∧ writes p = writes o)) || dupW r
def outs (l : List Op) : Nat := l.countP fun o => isOut (kn o.k)
def rowErr (many : Int) (l : List Op) (last : Bool) : Nat :=
  if l.length = 0 ∨ 4 < l.length then 3 else if opErrs many l ≠ 0 then opErrs many l
  else if 3 < cnt l 0 ∨ 1 < cnt l 1 ∨ 1 < cnt l 2 then 8 else if dupW l = true then 7 else if last ≠ decide (0 < outs l) then 3 else 0
/-- rows from number i on: the first that is wrong -/
def rowsErr (many : Int) (n : Nat) : Nat → List (List Op) → Option (Nat × Nat)
  | _, [] => none
  | i, l :: r => if rowErr many l (decide (i + 1 = n)) ≠ 0 then some (rowErr many l (decide (i + 1 = n)), i) else rowsErr many n (i + 1) r
def planStores (rows : List (List Op)) : Nat := (rows.map stores).sum
def planFault (many : Int) (rows : List (List Op)) : Nat × Int :=
  if many < 1 ∨ 24 < many then (2, -1) else if 200 < rows.length then (8, -1) else if rows.length = 0 then (3, -1)
  else match rowsErr many rows.length 0 rows with
    | some (c, i) => (c, i)
    | none => if 8 < planStores rows then (8, -1) else (0, -1)
theorem opErrs_zero {many : Int} : ∀ {l : List Op}, (∀ o ∈ l, opErr o many = 0) → opErrs many l = 0
  | [], _ => rfl
  | o :: r, h => by
    unfold opErrs
    rw [if_neg (by have := h o (List.mem_cons_self ..); omega)]
    exact opErrs_zero (fun p hp => h p (List.mem_cons_of_mem _ hp))
theorem dupW_false : ∀ {l : List Op}, l.Pairwise (fun p q => 0 < writes p → writes p ≠ writes q) → (∀ o ∈ l, 0 ≤ writes o) → dupW l = false
  | [], _, _ => rfl
  | o :: r, h, h0 => by
    rw [List.pairwise_cons] at h
    unfold dupW
    rw [Bool.or_eq_false_iff]
    refine ⟨?_, dupW_false h.2 (fun p hp => h0 p (List.mem_cons_of_mem _ hp))⟩
    rw [List.any_eq_false]
    intro p hp
    simp only [decide_eq_true_eq]
    rintro ⟨h1, h2⟩
    exact h.1 p hp (by omega) h2.symm
theorem stores_flat : ∀ (rows : List (List Op)), planStores rows = stores rows.flatten
  | [] => rfl
  | l :: r => by
    have := stores_flat r
    unfold planStores at this ⊢
    unfold stores at this ⊢
    rw [List.map_cons, List.sum_cons, List.flatten_cons, List.countP_append, this]
/-- A PLAN THAT WAS MADE OF A RIGHT CODE: what a maker keeps, of all -/
theorem make_inv : ∀ (l k : List Op) (m : Mk), Inv m k → (∀ o ∈ l, kn o.k ≠ 0 ∧ 0 ≤ writes o) → Inv (l.foldl lay m) (k ++ l)
  | [], k, m, I, _ => by rw [List.append_nil]; exact I
  | o :: r, k, m, I, h => by
    have h1 := h o (List.mem_cons_self ..)
    have := make_inv r (k ++ [o]) (lay m o) (lay_inv I h1.1 h1.2) (fun p hp => h p (List.mem_cons_of_mem _ hp))
    rw [List.append_assoc] at this
    exact this
theorem rowsErr_none {many : Int} {n : Nat} : ∀ (r : List (List Op)) (i : Nat), (∀ j, j < r.length → rowErr many (r.getD j []) (decide (i + j + 1 = n)) = 0) → rowsErr many n i r = none
  | [], i, _ => rfl
  | l :: r, i, h => by
    have h0 := h 0 (by simp)
    unfold rowsErr
    rw [if_neg (by
      have e : rowErr many l (decide (i + 1 = n)) = 0 := h0
      rw [e]
      decide)]
    refine rowsErr_none r (i + 1) (fun j hj => ?_)
    have := h (j + 1) (by simpa using hj)
    rw [show i + 1 + j + 1 = i + (j + 1) + 1 by omega]
    exact this
theorem flatten_len : ∀ (rows : List (List Op)), (∀ i, i < rows.length → rows.getD i [] ≠ []) → rows.length ≤ rows.flatten.length
  | [], _ => Nat.le_refl _
  | l :: r, h => by
    have h1 : l ≠ [] := h 0 (by simp)
    have h2 := flatten_len r (fun i hi => h (i + 1) (by simpa using hi))
    have h3 : 1 ≤ l.length := by
      cases l with
      | nil => exact absurd rfl h1
      | cons => simp
    rw [List.flatten_cons, List.length_append, List.length_cons]
    omega
theorem writes_ge {o : Op} (h : OpIn o) : 0 ≤ writes o := by
  have hle := kn_le o.k
  have h0 := h.k
  rcases (show (kn o.k = 1 ∨ kn o.k = 2 ∨ kn o.k = 5 ∨ 10 ≤ kn o.k) ∨ (kn o.k = 3 ∨ kn o.k = 4 ∨ (6 ≤ kn o.k ∧ kn o.k ≤ 9)) by omega) with h1 | h1
  · rw [writes_d h1]
    have := (h.d h1).1
    omega
  · rw [writes_0 h1]
    omega
/-- the last op's row is the last one; no other leaves for good -/
theorem make_outs {many : Int} {l : List Op} (hG : Good many l) (hin : ∀ o ∈ l, OpIn o) (i : Nat) (hi : i < (make l).rows.length) : decide (i + 1 = (make l).rows.length) = decide (0 < outs ((make l).rows.getD i [])) := by
  have hpos := hG.pos
  have hl : l = l.take (l.length - 1) ++ [l.getD (l.length - 1) nop] := by
    have h1 : l.length - 1 < l.length := by omega
    have := List.take_succ_eq_append_getElem h1
    rw [show l.length - 1 + 1 = l.length by omega, List.take_length] at this
    rw [List.getD_eq_getElem?_getD, List.getElem?_eq_getElem h1]
    exact this
  have hkw : ∀ o ∈ l, kn o.k ≠ 0 ∧ 0 ≤ writes o := fun o ho => ⟨(hin o ho).k, writes_ge (hin o ho)⟩
  have I := make_inv (l.take (l.length - 1)) [] mk0 mk0_inv (fun o ho => hkw o (List.mem_of_mem_take ho))
  rw [List.nil_append] at I
  have hmk : make l = lay ((l.take (l.length - 1)).foldl lay mk0) (l.getD (l.length - 1) nop) := by
    unfold make
    conv => lhs; rw [hl]
    rw [List.foldl_append]
    rfl
  have hnot : ∀ p ∈ l.take (l.length - 1), isOut (kn p.k) = false := fun p hp => by
    obtain ⟨j, hj, rfl⟩ := List.getElem_of_mem hp
    rw [List.length_take] at hj
    have h2 := (errAt_zero.1 (hG.each j (by omega))).2.2
    rw [List.getElem_take]
    rw [List.getD_eq_getElem?_getD, List.getElem?_eq_getElem (by omega)] at h2
    cases ho : isOut (kn (l[j]'(by omega)).k) with
    | false => rfl
    | true =>
      have := h2 ho
      omega
  have hout := hG.last
  obtain ⟨o, ho⟩ : ∃ o, l.getD (l.length - 1) nop = o := ⟨_, rfl⟩
  rw [ho] at hout hmk
  obtain ⟨m, hm⟩ : ∃ m, (l.take (l.length - 1)).foldl lay mk0 = m := ⟨_, rfl⟩
  rw [hm] at I hmk
  obtain ⟨k', hk'⟩ : ∃ k', l.take (l.length - 1) = k' := ⟨_, rfl⟩
  rw [hk'] at I hnot
  obtain ⟨a1, a2, a3, a4⟩ := layAt_all I o
  have hlv : leaves (kn o.k) = true := by
    unfold isOut at hout
    unfold leaves
    simp at hout ⊢
    omega
  have hk := (fromK_ge m o).2.2.2.2.2 hlv
  have hlv2 := I.lv
  have hrows : (make l).rows = layRows m.rows (layAt m o) o := by rw [hmk]; rfl
  rw [hrows] at hi ⊢
  rw [layRows_len a2] at hi ⊢
  rw [layRows_at a2]
  have hz : ∀ j, outs (m.rows.getD j []) = 0 := fun j => by
    unfold outs
    rw [List.countP_eq_zero]
    intro p hp
    rw [hnot p (I.perm.subset (mem_flat hp))]
    decide
  by_cases e : i = layAt m o
  · rw [if_pos e]
    have h1 : 0 < outs (m.rows.getD (layAt m o) [] ++ [o]) := by
      unfold outs
      rw [List.countP_append, List.countP_singleton, hout]
      simp
    rw [decide_eq_true h1, decide_eq_true (by omega)]
  · rw [if_neg e, hz i]
    rw [decide_eq_false (by omega), decide_eq_false (by omega)]
/-- A PLAN THAT WAS MADE OF A RIGHT CODE IS RIGHT -/
theorem make_fault {many : Int} {l : List Op} (hG : Good many l) (hin : ∀ o ∈ l, OpIn o) : planFault many (make l).rows = (0, -1) ∧ (make l).rows.length ≤ l.length ∧ Inv (make l) l := by
  have I : Inv (make l) l := by
    have := make_inv l [] mk0 mk0_inv (fun o ho => ⟨(hin o ho).k, writes_ge (hin o ho)⟩)
    rwa [List.nil_append] at this
  have hlen : (make l).rows.length ≤ l.length := by
    have := flatten_len (make l).rows I.ne
    rwa [I.perm.length_eq] at this
  have hne : (make l).rows.length ≠ 0 := fun h => by
    have h1 := List.eq_nil_of_length_eq_zero h
    have h2 := I.perm.length_eq
    rw [h1] at h2
    have := hG.pos
    simp at h2
    omega
  refine ⟨?_, hlen, I⟩
  have hr : rowsErr many (make l).rows.length 0 (make l).rows = none := rowsErr_none _ 0 (fun j hj => by
    have h1 := I.ne j hj
    have h2 := I.four j
    have h3 : opErrs many ((make l).rows.getD j []) = 0 := opErrs_zero (fun o ho => by
      have hol := I.perm.subset (mem_flat ho)
      obtain ⟨i, hi, rfl⟩ := List.getElem_of_mem hol
      have := (errAt_zero.1 (hG.each i hi)).1
      rwa [List.getD_eq_getElem?_getD, List.getElem?_eq_getElem hi] at this)
    have f0 := I.fitR j 0
    have f1 := I.fitR j 1
    have f2 := I.fitR j 2
    have hd := dupW_false (I.dist j) (fun o ho => (I.kind o (I.perm.subset (mem_flat ho))).2)
    have ho := make_outs hG hin j hj
    unfold rowErr
    have hz : ((make l).rows.getD j []).length ≠ 0 := fun h => h1 (List.eq_nil_of_length_eq_zero h)
    unfold room at f0 f1 f2
    simp at f0 f1 f2
    have hn0 : ¬ (((make l).rows.getD j []).length = 0 ∨ 4 < ((make l).rows.getD j []).length) := by omega
    have hn1 : ¬ (opErrs many ((make l).rows.getD j []) ≠ 0) := by omega
    have hn2 : ¬ (3 < cnt ((make l).rows.getD j []) 0 ∨ 1 < cnt ((make l).rows.getD j []) 1 ∨ 1 < cnt ((make l).rows.getD j []) 2) := by
      simp only [List.getD_eq_getElem?_getD] at *
      omega
    rw [if_neg hn0, if_neg hn1, if_neg hn2, if_neg (by rw [hd]; decide), if_neg (by rw [Nat.zero_add, ho]; simp)])
  unfold planFault
  have hst : planStores (make l).rows = stores l := by
    rw [stores_flat]
    exact I.perm.countP_eq _
  have hs := hG.stores
  have hl2 := hG.len
  have hrg := hG.range
  rw [if_neg (by omega), if_neg (by omega), if_neg hne, hr]
  dsimp only
  rw [hst, if_neg (by omega)]
/-- how many rows, with the one behind, could plainly be one -/
def plainRow (l : List Op) : Bool := l.all plainO
def touches (a b : List Op) : Bool := a.any fun p => b.any fun q => decide (writes q = writes p) || (reads q).contains (writes p)
def looseAt (a b : List Op) : Bool := plainRow a && plainRow b && decide (a.length + b.length ≤ 3) && !touches a b && !touches b a
def loose : List (List Op) → Nat
  | [] => 0
  | a :: r => (match r with | [] => 0 | b :: _ => if looseAt a b = true then 1 else 0) + loose r
theorem tight_not {a b : List Op} (h : Tight a b) (hb : b ≠ []) : looseAt a b = false := by
  cases hl : looseAt a b with
  | false => rfl
  | true =>
    exfalso
    unfold looseAt at hl
    simp only [Bool.and_eq_true, decide_eq_true_eq, Bool.not_eq_true'] at hl
    obtain ⟨⟨⟨⟨h1, h2⟩, h3⟩, h4⟩, h5⟩ := hl
    unfold plainRow at h1 h2
    rw [List.all_eq_true] at h1 h2
    have hb1 : 1 ≤ b.length := by
      cases b with
      | nil => exact absurd rfl hb
      | cons => simp
    rcases h with ⟨p, hp, hq⟩ | ⟨p, hp, hq⟩ | h | ⟨p, hp, q, hq, hw, hr⟩
    · rw [h1 p hp] at hq; cases hq
    · rw [h2 p hp] at hq; cases hq
    · omega
    · have : touches a b = true := by
        unfold touches
        rw [List.any_eq_true]
        refine ⟨p, hp, ?_⟩
        rw [List.any_eq_true]
        refine ⟨q, hq, ?_⟩
        rw [Bool.or_eq_true, decide_eq_true_eq]
        exact hr
      rw [this] at h4
      cases h4
theorem loose_zero : ∀ (rows : List (List Op)), (∀ i, i + 1 < rows.length → Tight (rows.getD i []) (rows.getD (i + 1) [])) → (∀ i, i < rows.length → rows.getD i [] ≠ []) → loose rows = 0
  | [], _, _ => rfl
  | [a], _, _ => rfl
  | a :: b :: r, h, hn => by
    have h0 := tight_not (h 0 (by simp)) (hn 1 (by simp))
    have h1 := loose_zero (b :: r) (fun i hi => h (i + 1) (by simpa using hi)) (fun i hi => hn (i + 1) (by simpa using hi))
    show (if looseAt a b = true then 1 else 0) + loose (b :: r) = 0
    rw [h1, show looseAt a b = false from h0]
    rfl
theorem make_loose {l : List Op} (I : Inv (make l) l) : loose (make l).rows = 0 := loose_zero _ I.tight I.ne
end Ir
end Go.Proofs.YtknhfobcejpmeaaDoor
