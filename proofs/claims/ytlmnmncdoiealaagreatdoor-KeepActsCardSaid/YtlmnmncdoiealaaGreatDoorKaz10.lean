import Derived.Test.YtlmnmncdoiealaaGreatDoorKaz09
import Derived.Test.YtlmnmncdoiealaaGreatDoorKaz07
import Derived.Test.YtlmnmncdoiealaaGreatDoorKaz06
import Derived.Shelf.GgClosure.Gives

/- PlanErr -/
/- What is wrong of a row, of a plan, said plainly; a plan that was made is right, and no two of its rows could be one. No program in sight. -/
namespace Go.Proofs.YtlmnmncdoiealaaGreatDoor
open Go.RowKit
set_option linter.unusedVariables false
namespace Ir
/-- the first op of a row that is wrong: its error; 0: none is -/
def opErrs (many : Int) : List Op → Nat
  | [] => 0
  | o :: r => if opErr o many ≠ 0 then opErr o many else opErrs many r
/-- does a row write a register twice? -/
def dupW : List Op → Bool
  | [] => false
  | o :: r => (r.any fun p => decide (0 < writes p ∧ writes p = writes o)) || dupW r
def outs (l : List Op) : Nat := l.countP fun o => isOut (kn o.k)
def rowErr (many : Int) (l : List Op) (last : Bool) : Nat :=
  if l.length = 0 ∨ 4 < l.length then 3 else if opErrs many l ≠ 0 then opErrs many l
  else if 3 < cnt l 0 ∨ 1 < cnt l 1 ∨ 1 < cnt l 2 then 8 else if dupW l = true then 7 else if last ≠ decide (0 < outs l) then 3 else 0
/-- rows from number i on: the first that is wrong -/
def rowsErr (many : Int) (n : Nat) : Nat → List (List Op) → Option (Nat × Nat)
  | _, [] => none
  | i, l :: r => if rowErr many l (decide (i + 1 = n)) ≠ 0 then some (rowErr many l (decide (i + 1 = n)), i) else rowsErr many n (i + 1) r
def planStores (rows : List (List Op)) : Nat := (rows.map stores).sum
def planFault (many : Int) (rows : List (List Op)) : Nat × Int :=
  if many < 1 ∨ 24 < many then (2, -1) else if 200 < rows.length then (8, -1) else if rows.length = 0 then (3, -1)
  else match rowsErr many rows.length 0 rows with
    | some (c, i) => (c, i)
    | none => if 8 < planStores rows then (8, -1) else (0, -1)
theorem opErrs_zero {many : Int} : ∀ {l : List Op}, (∀ o ∈ l, opErr o many = 0) → opErrs many l = 0
  | [], _ => rfl
  | o :: r, h => by
    unfold opErrs
    rw [if_neg (by have := h o (List.mem_cons_self ..); omega)]
    exact opErrs_zero (fun p hp => h p (List.mem_cons_of_mem _ hp))
theorem dupW_false : ∀ {l : List Op}, l.Pairwise (fun p q => 0 < writes p → writes p ≠ writes q) → (∀ o ∈ l, 0 ≤ writes o) → dupW l = false
  | [], _, _ => rfl
  | o :: r, h, h0 => by
    rw [List.pairwise_cons] at h
    unfold dupW
    rw [Bool.or_eq_false_iff]
    refine ⟨?_, dupW_false h.2 (fun p hp => h0 p (List.mem_cons_of_mem _ hp))⟩
    rw [List.any_eq_false]
    intro p hp
    simp only [decide_eq_true_eq]
    rintro ⟨h1, h2⟩
    exact h.1 p hp (by omega) h2.symm
theorem stores_flat : ∀ (rows : List (List Op)), planStores rows = stores rows.flatten
  | [] => rfl
  | l :: r => by
    have := stores_flat r
    unfold planStores at this ⊢
    unfold stores at this ⊢
    rw [List.map_cons, List.sum_cons, List.flatten_cons, List.countP_append, this]
/-- A PLAN THAT WAS MADE OF A RIGHT CODE: what a maker keeps, of all -/
theorem make_inv : ∀ (l k : List Op) (m : Mk), Inv m k → (∀ o ∈ l, kn o.k ≠ 0 ∧ 0 ≤ writes o) → Inv (l.foldl lay m) (k ++ l)
  | [], k, m, I, _ => by rw [List.append_nil]; exact I
  | o :: r, k, m, I, h => by
    have h1 := h o (List.mem_cons_self ..)
    have := make_inv r (k ++ [o]) (lay m o) (lay_inv I h1.1 h1.2) (fun p hp => h p (List.mem_cons_of_mem _ hp))
    rw [List.append_assoc] at this
    exact this
theorem rowsErr_none {many : Int} {n : Nat} : ∀ (r : List (List Op)) (i : Nat), (∀ j, j < r.length → rowErr many (r.getD j []) (decide (i + j + 1 = n)) = 0) → rowsErr many n i r = none
  | [], i, _ => rfl
  | l :: r, i, h => by
    have h0 := h 0 (by simp)
    unfold rowsErr
    rw [if_neg (by
      have e : rowErr many l (decide (i + 1 = n)) = 0 := h0
      rw [e]
      decide)]
    refine rowsErr_none r (i + 1) (fun j hj => ?_)
    have := h (j + 1) (by simpa using hj)
    rw [show i + 1 + j + 1 = i + (j + 1) + 1 by omega]
    exact this
theorem flatten_len : ∀ (rows : List (List Op)), (∀ i, i < rows.length → rows.getD i [] ≠ []) → rows.length ≤ rows.flatten.length
  | [], _ => Nat.le_refl _
  | l :: r, h => by
    have h1 : l ≠ [] := h 0 (by simp)
    have h2 := flatten_len r (fun i hi => h (i + 1) (by simpa using hi))
    have h3 : 1 ≤ l.length := by
      cases l with
      | nil => exact absurd rfl h1
      | cons => simp
    rw [List.flatten_cons, List.length_append, List.length_cons]
    omega
theorem writes_ge {o : Op} (h : OpIn o) : 0 ≤ writes o := by
  have hle := kn_le o.k
  have h0 := h.k
  rcases (show (kn o.k = 1 ∨ kn o.k = 2 ∨ kn o.k = 5 ∨ 10 ≤ kn o.k) ∨ (kn o.k = 3 ∨ kn o.k = 4 ∨ (6 ≤ kn o.k ∧ kn o.k ≤ 9)) by omega) with h1 | h1
  · rw [writes_d h1]
    have := (h.d h1).1
    omega
  · rw [writes_0 h1]
    omega
/-- the last op's row is the last one; no other leaves for good -/
theorem make_outs {many : Int} {l : List Op} (hG : Good many l) (hin : ∀ o ∈ l, OpIn o) (i : Nat) (hi : i < (make l).rows.length) : decide (i + 1 = (make l).rows.length) = decide (0 < outs ((make l).rows.getD i [])) := by
  have hpos := hG.pos
  have hl : l = l.take (l.length - 1) ++ [l.getD (l.length - 1) nop] := by
    have h1 : l.length - 1 < l.length := by omega
    have := List.take_succ_eq_append_getElem h1
    rw [show l.length - 1 + 1 = l.length by omega, List.take_length] at this
    rw [List.getD_eq_getElem?_getD, List.getElem?_eq_getElem h1]
    exact this
  have hkw : ∀ o ∈ l, kn o.k ≠ 0 ∧ 0 ≤ writes o := fun o ho => ⟨(hin o ho).k, writes_ge (hin o ho)⟩
  have I := make_inv (l.take (l.length - 1)) [] mk0 mk0_inv (fun o ho => hkw o (List.mem_of_mem_take ho))
  rw [List.nil_append] at I
  have hmk : make l = lay ((l.take (l.length - 1)).foldl lay mk0) (l.getD (l.length - 1) nop) := by
    unfold make
    conv => lhs; rw [hl]
    rw [List.foldl_append]
    rfl
  have hnot : ∀ p ∈ l.take (l.length - 1), isOut (kn p.k) = false := fun p hp => by
    obtain ⟨j, hj, rfl⟩ := List.getElem_of_mem hp
    rw [List.length_take] at hj
    have h2 := (errAt_zero.1 (hG.each j (by omega))).2.2
    rw [List.getElem_take]
    rw [List.getD_eq_getElem?_getD, List.getElem?_eq_getElem (by omega)] at h2
    cases ho : isOut (kn (l[j]'(by omega)).k) with
    | false => rfl
    | true =>
      have := h2 ho
      omega
  have hout := hG.last
  obtain ⟨o, ho⟩ : ∃ o, l.getD (l.length - 1) nop = o := ⟨_, rfl⟩
  rw [ho] at hout hmk
  obtain ⟨m, hm⟩ : ∃ m, (l.take (l.length - 1)).foldl lay mk0 = m := ⟨_, rfl⟩
  rw [hm] at I hmk
  obtain ⟨k', hk'⟩ : ∃ k', l.take (l.length - 1) = k' := ⟨_, rfl⟩
  rw [hk'] at I hnot
  obtain ⟨a1, a2, a3, a4⟩ := layAt_all I o
  have hlv : leaves (kn o.k) = true := by
    unfold isOut at hout
    unfold leaves
    simp at hout ⊢
    omega
  have hk := (fromK_ge m o).2.2.2.2.2 hlv
  have hlv2 := I.lv
  have hrows : (make l).rows = layRows m.rows (layAt m o) o := by rw [hmk]; rfl
  rw [hrows] at hi ⊢
  rw [layRows_len a2] at hi ⊢
  rw [layRows_at a2]
  have hz : ∀ j, outs (m.rows.getD j []) = 0 := fun j => by
    unfold outs
    rw [List.countP_eq_zero]
    intro p hp
    rw [hnot p (I.perm.subset (mem_flat hp))]
    decide
  by_cases e : i = layAt m o
  · rw [if_pos e]
    have h1 : 0 < outs (m.rows.getD (layAt m o) [] ++ [o]) := by
      unfold outs
      rw [List.countP_append, List.countP_singleton, hout]
      simp
    rw [decide_eq_true h1, decide_eq_true (by omega)]
  · rw [if_neg e, hz i]
    rw [decide_eq_false (by omega), decide_eq_false (by omega)]
/-- A PLAN THAT WAS MADE OF A RIGHT CODE IS RIGHT -/
theorem make_fault {many : Int} {l : List Op} (hG : Good many l) (hin : ∀ o ∈ l, OpIn o) : planFault many (make l).rows = (0, -1) ∧ (make l).rows.length ≤ l.length ∧ Inv (make l) l := by
  have I : Inv (make l) l := by
    have := make_inv l [] mk0 mk0_inv (fun o ho => ⟨(hin o ho).k, writes_ge (hin o ho)⟩)
    rwa [List.nil_append] at this
  have hlen : (make l).rows.length ≤ l.length := by
    have := flatten_len (make l).rows I.ne
    rwa [I.perm.length_eq] at this
  have hne : (make l).rows.length ≠ 0 := fun h => by
    have h1 := List.eq_nil_of_length_eq_zero h
    have h2 := I.perm.length_eq
    rw [h1] at h2
    have := hG.pos
    simp at h2
    omega
  refine ⟨?_, hlen, I⟩
  have hr : rowsErr many (make l).rows.length 0 (make l).rows = none := rowsErr_none _ 0 (fun j hj => by
    have h1 := I.ne j hj
    have h2 := I.four j
    have h3 : opErrs many ((make l).rows.getD j []) = 0 := opErrs_zero (fun o ho => by
      have hol := I.perm.subset (mem_flat ho)
      obtain ⟨i, hi, rfl⟩ := List.getElem_of_mem hol
      have := (errAt_zero.1 (hG.each i hi)).1
      rwa [List.getD_eq_getElem?_getD, List.getElem?_eq_getElem hi] at this)
    have f0 := I.fitR j 0
    have f1 := I.fitR j 1
    have f2 := I.fitR j 2
    have hd := dupW_false (I.dist j) (fun o ho => (I.kind o (I.perm.subset (mem_flat ho))).2)
    have ho := make_outs hG hin j hj
    unfold rowErr
    have hz : ((make l).rows.getD j []).length ≠ 0 := fun h => h1 (List.eq_nil_of_length_eq_zero h)
    unfold room at f0 f1 f2
    simp at f0 f1 f2
    have hn0 : ¬ (((make l).rows.getD j []).length = 0 ∨ 4 < ((make l).rows.getD j []).length) := by omega
    have hn1 : ¬ (opErrs many ((make l).rows.getD j []) ≠ 0) := by omega
    have hn2 : ¬ (3 < cnt ((make l).rows.getD j []) 0 ∨ 1 < cnt ((make l).rows.getD j []) 1 ∨ 1 < cnt ((make l).rows.getD j []) 2) := by
      simp only [List.getD_eq_getElem?_getD] at *
      omega
    rw [if_neg hn0, if_neg hn1, if_neg hn2, if_neg (by rw [hd]; decide), if_neg (by rw [Nat.zero_add, ho]; simp)])
  unfold planFault
  have hst : planStores (make l).rows = stores l := by
    rw [stores_flat]
    exact I.perm.countP_eq _
  have hs := hG.stores
  have hl2 := hG.len
  have hrg := hG.range
  rw [if_neg (by omega), if_neg (by omega), if_neg hne, hr]
  dsimp only
  rw [hst, if_neg (by omega)]
/-- how many rows, with the one behind, could plainly be one -/
def plainRow (l : List Op) : Bool := l.all plainO
def touches (a b : List Op) : Bool := a.any fun p => b.any fun q => decide (writes q = writes p) || (reads q).contains (writes p)
def looseAt (a b : List Op) : Bool := plainRow a && plainRow b && decide (a.length + b.length ≤ 3) && !touches a b && !touches b a
def loose : List (List Op) → Nat
  | [] => 0
  | a :: r => (match r with | [] => 0 | b :: _ => if looseAt a b = true then 1 else 0) + loose r
theorem tight_not {a b : List Op} (h : Tight a b) (hb : b ≠ []) : looseAt a b = false := by
  cases hl : looseAt a b with
  | false => rfl
  | true =>
    exfalso
    unfold looseAt at hl
    simp only [Bool.and_eq_true, decide_eq_true_eq, Bool.not_eq_true'] at hl
    obtain ⟨⟨⟨⟨h1, h2⟩, h3⟩, h4⟩, h5⟩ := hl
    unfold plainRow at h1 h2
    rw [List.all_eq_true] at h1 h2
    have hb1 : 1 ≤ b.length := by
      cases b with
      | nil => exact absurd rfl hb
      | cons => simp
    rcases h with ⟨p, hp, hq⟩ | ⟨p, hp, hq⟩ | h | ⟨p, hp, q, hq, hw, hr⟩
    · rw [h1 p hp] at hq; cases hq
    · rw [h2 p hp] at hq; cases hq
    · omega
    · have : touches a b = true := by
        unfold touches
        rw [List.any_eq_true]
        refine ⟨p, hp, ?_⟩
        rw [List.any_eq_true]
        refine ⟨q, hq, ?_⟩
        rw [Bool.or_eq_true, decide_eq_true_eq]
        exact hr
      rw [this] at h4
      cases h4
theorem loose_zero : ∀ (rows : List (List Op)), (∀ i, i + 1 < rows.length → Tight (rows.getD i []) (rows.getD (i + 1) [])) → (∀ i, i < rows.length → rows.getD i [] ≠ []) → loose rows = 0
  | [], _, _ => rfl
  | [a], _, _ => rfl
  | a :: b :: r, h, hn => by
    have h0 := tight_not (h 0 (by simp)) (hn 1 (by simp))
    have h1 := loose_zero (b :: r) (fun i hi => h (i + 1) (by simpa using hi)) (fun i hi => hn (i + 1) (by simpa using hi))
    show (if looseAt a b = true then 1 else 0) + loose (b :: r) = 0
    rw [h1, show looseAt a b = false from h0]
    rfl
theorem make_loose {l : List Op} (I : Inv (make l) l) : loose (make l).rows = 0 := loose_zero _ I.tight I.ne
end Ir
end Go.Proofs.YtlmnmncdoiealaaGreatDoor

/- KeepO -/
/- The walks of keep's New, Drop. -/
namespace Go.Proofs.YtlmnmncdoiealaaGreatDoor
open Go.RowKit Go.Deep
set_option linter.unusedVariables false
set_option linter.unusedSimpArgs false

theorem RowsOwn.keepP {S : Nat → Prop} {w w' : World} {B : Nat} {v : Value} {rows : List (List Ir.Op)} (h : RowsOwn w B v rows) (k : Keeps S w w') (hs : ∀ g c t fz, w.heap[g]? = some (.cells c t fz) → (t = 40 ∨ t = 64) → ¬ S g) : RowsOwn w' B v rows := by
  obtain ⟨vs, h1, h2, h3⟩ := h
  refine ⟨vs, h1, owns_keep h2 k (fun g hg => ?_), fun j hj => (h3 j hj).keepS k (fun g hg => ?_)⟩
  · obtain ⟨c, e⟩ := owns_typed h2 hg
    exact hs g c _ _ e (.inl rfl)
  · obtain ⟨A, cap, he, ho⟩ := h3 j hj
    obtain ⟨c, e⟩ := owns_typed ho hg
    exact hs g c _ _ e (.inr rfl)
/-- an entry as it lies -/
structure EntAt (w : World) (ps : List Int) (rs : List (List Ir.Op)) (k : K4) : Prop where
  pages : IOwn w 0 ps (.slice k.P k.pn k.pcap)
  rows : RowsOwn w 0 (.slice k.A k.n k.c) rs
  good : (Ir.planFault k.many rs).1 = 0
  short : ps.length ≤ 1000
def EntT (t : TypeId) : Prop := t = 3 ∨ t = 40 ∨ t = 64
theorem ent_ne {t : TypeId} (h : EntT t) : t ≠ 77 ∧ t ≠ 67 ∧ t ≠ 57 ∧ t ≠ 34 ∧ t ≠ 48 := by
  rcases h with rfl | rfl | rfl <;> decide
theorem EntAt.keep {S : Nat → Prop} {w w' : World} {ps : List Int} {rs : List (List Ir.Op)} {q : K4} (h : EntAt w ps rs q) (k : Keeps S w w') (hs : ∀ g cs t fz, w.heap[g]? = some (.cells cs t fz) → EntT t → ¬ S g) : EntAt w' ps rs q :=
  ⟨h.pages.keep k (fun g cs fz hg => hs g cs _ fz hg (.inl rfl)), h.rows.keepP k (fun g cs t fz hg ht => hs g cs t fz hg (.inr ht)), h.good, h.short⟩
/-- a block of a keep, or of its list -/
def KT (B : Nat) (w : World) (b : Nat) : Prop := B ≤ b ∧ ∃ cs t fz, w.heap[b]? = some (.cells cs t fz) ∧ (t = 77 ∨ t = 67)
theorem KT.trans {B : Nat} {w w1 w2 : World} (h : Keeps (KT B w) w w1) (k : Keeps (KT B w1) w1 w2) : Keeps (KT B w) w w2 := h.trans k (fun b hb ⟨hB, cs, t, fz, e, ht⟩ => Classical.byContradiction fun hn => hn ⟨hB, cs, t, fz, (h.block b hb hn).symm.trans e, ht⟩)
theorem KT.not {B : Nat} {w : World} {g : Nat} {cs : Array Value} {t : TypeId} {fz : Nat × Nat} (hg : w.heap[g]? = some (.cells cs t fz)) (h1 : t ≠ 77) (h2 : t ≠ 67) : ¬ KT B w g := fun ⟨_, c2, t2, f2, e, ht⟩ => by
  rw [hg] at e
  injection e with e
  injection e with _ e _
  subst e
  exact ht.elim h1 h2
theorem EntAt.keepT {B : Nat} {w w' : World} {ps : List Int} {rs : List (List Ir.Op)} {q : K4} (h : EntAt w ps rs q) (k : Keeps (KT B w) w w') : EntAt w' ps rs q :=
  h.keep k (fun g cs t fz hg ht => KT.not hg (ent_ne ht).1 (ent_ne ht).2.1)
/-- a keep as it lies -/
structure KeepAt (w : World) (B kb : Nat) (mx : Int) (l : List K4) (pg : K4 → List Int) (rw : K4 → List (List Ir.Op)) : Prop where
  box : ∃ v, w.heap[kb]? = some (.cells #[.int .i64 mx, v] 67 (0, 0)) ∧ KOwn w B l v
  ents : ∀ k ∈ l, EntAt w (pg k) (rw k) k
  low : B ≤ kb
theorem KeepAt.quiet {w w' : World} {B kb : Nat} {mx : Int} {l : List K4} {pg : K4 → List Int} {rw : K4 → List (List Ir.Op)} (h : KeepAt w B kb mx l pg rw) (k : Keeps (fun _ => False) w w') : KeepAt w' B kb mx l pg rw := by
  obtain ⟨⟨v, h1, h2⟩, h3, h4⟩ := h
  exact ⟨⟨v, (k.block kb (Array.getElem?_eq_some_iff.1 h1).1 (fun h => h)).trans h1, h2.quiet k⟩, fun q hq => (h3 q hq).keep k (fun _ _ _ _ _ _ h => h), h4⟩
theorem KeepAt.keepS {S : Nat → Prop} {w w' : World} {B kb : Nat} {mx : Int} {l : List K4} {pg : K4 → List Int} {rw : K4 → List (List Ir.Op)} (h : KeepAt w B kb mx l pg rw) (k : Keeps S w w') (hs : ∀ g cs t fz, w.heap[g]? = some (.cells cs t fz) → (t = 77 ∨ t = 67 ∨ EntT t) → ¬ S g) : KeepAt w' B kb mx l pg rw := by
  obtain ⟨⟨v, h1, h2⟩, h3, h4⟩ := h
  refine ⟨⟨v, (k.block kb (Array.getElem?_eq_some_iff.1 h1).1 (hs _ _ _ _ h1 (.inr (.inl rfl)))).trans h1, h2.keep k (fun g hg => ?_)⟩, fun q hq => (h3 q hq).keep k (fun g cs t fz hg ht => hs g cs t fz hg (.inr (.inr ht))), h4⟩
  obtain ⟨cs, e⟩ := h2.typed g hg
  exact hs _ _ _ _ e (.inl rfl)
theorem KeepAt.keepO {S : Nat → Prop} {w w' : World} {B kb : Nat} {mx : Int} {l : List K4} {pg : K4 → List Int} {rw : K4 → List (List Ir.Op)} (h : KeepAt w B kb mx l pg rw) (k : Keeps S w w') (hs : ∀ g cs t fz, w.heap[g]? = some (.cells cs t fz) → t ≠ 48 → ¬ S g) : KeepAt w' B kb mx l pg rw :=
  h.keepS k (fun g cs t fz hg ht => hs g cs t fz hg (by
    rcases ht with rfl | rfl | ht
    · decide
    · decide
    · exact (ent_ne ht).2.2.2.2))
theorem KeepAt.lt {w : World} {B kb : Nat} {mx : Int} {l : List K4} {pg : K4 → List Int} {rw : K4 → List (List Ir.Op)} (h : KeepAt w B kb mx l pg rw) : kb < w.heap.size := by
  obtain ⟨v, h1, _⟩ := h.box
  exact (Array.getElem?_eq_some_iff.1 h1).1
theorem keep_ne2 : 67 ≠ 57 ∧ 67 ≠ 34 ∧ 67 ≠ 77 ∧ 3 ≠ 77 ∧ 57 ≠ 77 ∧ 34 ≠ 77 ∧ 3 ≠ 67 := by decide
theorem obj_ty {w : World} {b : Nat} {c1 c2 : Array Value} {t1 t2 : TypeId} {f1 f2 : Nat × Nat} (h1 : w.heap[b]? = some (.cells c1 t1 f1)) (h2 : w.heap[b]? = some (.cells c2 t2 f2)) : t1 = t2 := by
  rw [h1] at h2
  injection h2 with h2
  injection h2 with _ h _
/-- the state of Drop's closure stays when the list's block changes -/
theorem DropSt.other {l : List K4} {pg : K4 → List Int} {page : Int} {gb db B : Nat} {done : List K4} {W W' : World} {G : Option Nat} (h : DropSt l pg page gb db B done W) (ht : ∀ q, G = some q → ∃ cs, W.heap[q]? = some (.cells cs 77 (0, 0))) (k : Keeps (fun b => G = some b) W W') : DropSt l pg page gb db B done W' := by
  obtain ⟨h1, ⟨dv, h2, h3⟩, h4, h5, h6⟩ := h
  have hn : ∀ b cs t fz, W.heap[b]? = some (.cells cs t fz) → t ≠ 77 → ¬ G = some b := fun b cs t fz hb hne e => by
    obtain ⟨c2, h⟩ := ht b e
    exact hne (obj_ty hb h)
  exact ⟨(k.block gb (Array.getElem?_eq_some_iff.1 h1).1 (hn _ _ _ _ h1 keep_ne2.2.2.2.1)).trans h1, ⟨dv, (k.block db (Array.getElem?_eq_some_iff.1 h2).1 (hn _ _ _ _ h2 keep_ne2.2.2.2.2.1)).trans h2, h3.keep k (fun g hg => by
    obtain ⟨cs, h⟩ := h3.typed g hg
    exact hn _ _ _ _ h keep_ne2.2.2.2.2.2.1)⟩, fun q hq => (h4 q hq).keep k (fun g cs fz hg => hn _ _ _ _ hg keep_ne2.2.2.2.1), h5, Nat.le_trans h6 k.size⟩
theorem npK_mem {p : K4 → Bool} {l : List K4} {k : K4} (h : k ∈ npK p l) : k ∈ l := (List.mem_filter.1 h).1
set_option maxHeartbeats 4000000 in
set_option maxRecDepth 100000 in
theorem keepDrop_any (B kb : Nat) (mx : Int) (l : List K4) (pg : K4 → List Int) (rw : K4 → List (List Ir.Op)) (page : Int) (w : World) (K : KeepAt w B kb mx l pg rw) (hl : l.length ≤ 100000) :
    Calls Tryz.prog 17 #[.pointer (some ⟨kb, 0, none⟩), .int .i64 page] w fun e w' => ∃ dv, e = .returned dv ∧ UOwn w' w.heap.size ((l.filter fun k => (pg k).contains page).map K4.pc) dv ∧ KeepAt w' B kb mx (npK (fun k => (pg k).contains page) l) pg rw ∧ Keeps (KT B w) w w' := by
  have HK := Lib.hid K
  have HLT := Lib.hid K.lt
  have HLN := Lib.hid hl
  have HA := Lib.hid (((Keeps.refl (fun _ => False) w).alloc (.cells #[.int .i64 page] 3)).alloc (.cells #[.slice none 0 0] 57))
  have HD0 := Lib.hid (show DropSt l pg page w.heap.size (w.heap.size + 1) w.heap.size [] ((w.alloc (.cells #[.int .i64 page] 3)).alloc (.cells #[.slice none 0 0] 57)) from by
    have h1 := blk_alloc_new w (.cells #[.int .i64 page] 3)
    have h2 := blk_alloc_new (w.alloc (.cells #[.int .i64 page] 3)) (.cells #[.slice none 0 0] 57)
    rw [nblk_alloc] at h2
    have k2 := (Keeps.refl (fun _ => False) (w.alloc (.cells #[.int .i64 page] 3))).alloc (.cells #[.slice none 0 0] 57)
    refine ⟨(k2.block _ (Array.getElem?_eq_some_iff.1 h1).1 (fun h => h)).trans h1, ⟨_, h2, UOwn.nil _ _⟩, fun k hk => (K.ents k hk).pages.keep HA.out (fun _ _ _ _ h => h), Nat.zero_le _, HA.out.size⟩)
  obtain ⟨v, hb, hko⟩ := K.box
  obtain ⟨A, cap, hv, _⟩ := id hko
  obtain ⟨n, hn⟩ : ∃ n, l.length = n := ⟨_, rfl⟩
  rw [hn] at hv
  subst hv
  have HBX := Lib.hid hb
  have HKO := Lib.hid hko
  have HLE := Lib.hid hn
  clear K hl hb hko hn
  go_enter Tryz.func17, Tryz.ntmps17
  go_upto_region 2 with fail
  have HKO1 := Lib.hid (HKO.out.quiet HA.out)
  have HBX1 := Lib.hid ((HA.out.block kb HLT.out (fun h => h)).trans HBX.out)
  have HSZ := Lib.hid HA.out.size
  generalize (w.alloc _).alloc _ = w1 at *
  obtain ⟨gb, hgb⟩ : ∃ g, w.heap.size = g := ⟨_, rfl⟩
  have HGB := Lib.hid hgb
  rw [hgb] at HD0 HLT ⊢
  obtain ⟨db, hdb⟩ : ∃ d, gb + 1 = d := ⟨_, rfl⟩
  have HDB := Lib.hid hdb
  rw [hdb] at HD0 ⊢
  clear hgb hdb
  have c0 : w1.cell? ⟨kb, 1, none⟩ = some (.slice A n cap) := cell_atK HBX1.out 1
  have HDEL := Lib.hid (deleteK_any 37 #[.pointer (some ⟨gb, 0, none⟩), .pointer (some ⟨db, 0, none⟩)] (fun k => (pg k).contains page) (DropS db) (fun b => gb ≤ b) (DropSt l pg page gb db gb) (enters_of Tryz.func37 (by kernel_rfl) rfl) B A n cap l w1 HKO1.out HLE.out (by have := HLN.out; have := HLE.out; omega) (drop1_pred l pg page gb db gb HLN.out) HD0.out
    (fun done W b h hs => by
      rcases hs with rfl | ⟨v, hv, hg⟩
      · exact .inl (by have := HDB.out; omega)
      · obtain ⟨dv, h1, A2, c2, rfl, ho⟩ := h.out
        rw [cell_atK h1 0] at hv
        injection hv with hv
        subst hv
        exact .inl (ho.lt b hg).1) (fun done W W' ht k h => h.other ht k))
  go_wp2_with fail
  refine HDEL.out.mono ?_
  rintro e w2 ⟨v2, rfl, ho2, hg2, hd2, hk2⟩
  obtain ⟨A6, c6, hv6, _⟩ := id ho2
  obtain ⟨n6, hn6⟩ : ∃ x, (npK (fun k => (pg k).contains page) l).length = x := ⟨_, rfl⟩
  rw [hn6] at hv6
  subst hv6
  have HOLD := Lib.hid (show ∀ b, b < gb → (Value.slice A n cap).ownBlock ≠ some b → ¬ (gb ≤ b ∨ (Value.slice A n cap).ownBlock = some b) from fun b hb hne h => h.elim (fun h => by omega) hne)
  have HNG := Lib.hid (show (Value.slice A n cap).ownBlock ≠ some kb from fun e => by
    obtain ⟨cs, h⟩ := HKO1.out.typed kb e
    exact keep_ne2.2.2.1 (obj_ty HBX1.out h))
  have HBX2 := Lib.hid ((hk2.block kb (Array.getElem?_eq_some_iff.1 HBX1.out).1 (HOLD.out kb HLT.out HNG.out)).trans HBX1.out)
  obtain ⟨dv, hd3, hu3⟩ := hd2.out
  obtain ⟨A7, c7, hv7, _⟩ := id hu3
  obtain ⟨n7, hn7⟩ : ∃ x, ((l.filter fun k => (pg k).contains page).map K4.pc).length = x := ⟨_, rfl⟩
  rw [hn7] at hv7
  subst hv7
  clear hn6 hn7
  have HNK := Lib.hid (show db ≠ kb from fun e => by
    rw [e] at hd3
    exact keep_ne2.1 (obj_ty HBX2.out hd3))
  have hks := Keeps.one w2 kb 1 (.slice A6 n6 c6)
  have HU := Lib.hid (show UOwn (w2.setCell ⟨kb, 1, none⟩ (.slice A6 n6 c6)) gb ((l.filter fun k => (pg k).contains page).map K4.pc) (.slice A7 n7 c7) from hu3.keep hks (fun g hg e => by
    have e : g = kb := e
    obtain ⟨cs, h⟩ := hu3.typed g hg
    rw [e] at h
    exact keep_ne2.2.1 (obj_ty HBX2.out h)))
  have HK2E := Lib.hid ((HA.out.mono (T := fun b => gb ≤ b ∨ (Value.slice A n cap).ownBlock = some b) (fun _ _ h => h.elim)).trans hk2 (fun _ _ h => h))
  have HKF := Lib.hid (show KeepAt (w2.setCell ⟨kb, 1, none⟩ (.slice A6 n6 c6)) B kb mx (npK (fun k => (pg k).contains page) l) pg rw from by
    refine ⟨⟨.slice A6 n6 c6, ?_, ho2.keep hks (fun g hg e => ?_)⟩, fun k hk => ((HK.out.ents k (npK_mem hk)).keep HK2E.out (fun g cs t fz hg ht h => ?_)).keep hks (fun g cs t fz hg ht e => ?_), HK.out.low⟩
    · have := set_block HBX2.out 1 (.slice A6 n6 c6)
      simpa using this
    · have e : g = kb := e
      obtain ⟨cs, h⟩ := ho2.typed g hg
      rw [e] at h
      exact keep_ne2.2.2.1 (obj_ty HBX2.out h)
    · rcases h with h | h
      · have h1 := (Array.getElem?_eq_some_iff.1 hg).1
        have h2 := HGB.out
        omega
      · obtain ⟨c, h2⟩ := HKO.out.typed g h
        exact (ent_ne ht).1 (obj_ty hg h2)
    · have e : g = kb := e
      rw [e] at hg
      exact (ent_ne ht).2.1 (obj_ty hg HBX2.out))
  have HKK := Lib.hid (show Keeps (KT B w) w (w2.setCell ⟨kb, 1, none⟩ (.slice A6 n6 c6)) from (HK2E.out.mono (T := KT B w) (fun b hb h => by
    rcases h with h | h
    · have h2 := HGB.out
      omega
    · obtain ⟨c, h2⟩ := HKO.out.typed b h
      exact ⟨(HKO.out.low b h).1, _, _, _, h2, .inl rfl⟩)).trans hks (fun b hb e => by
    have e : b = kb := e
    subst e
    exact ⟨HK.out.low, _, _, _, HBX.out, .inr rfl⟩))
  have c2 : w2.cell? ⟨kb, 1, none⟩ = some (.slice A n cap) := cell_atK HBX2.out 1
  have f2 : w2.frozen? ⟨kb, 1, none⟩ = false := frozen_of_block HBX2.out 1
  have HC3 := Lib.hid (show (w2.setCell ⟨kb, 1, none⟩ (.slice A6 n6 c6)).cell? ⟨db, 0, none⟩ = some (.slice A7 n7 c7) from hks.cell' (cell_atK hd3 0) HNK.out)
  clear hks hd3 hu3 hd2 hk2 ho2 hg2 c0
  go_upto_region 3 with fail
  clear c2 f2
  generalize w2.setCell _ _ = w3 at *
  have c3 := HC3.out
  go_wp2_with fail
  go_ret
  exact ⟨_, rfl, by rw [HGB.out]; exact HU.out, HKF.out, HKK.out⟩
end Go.Proofs.YtlmnmncdoiealaaGreatDoor

/- KeepN -/
/- The walks of keep's New, PCs. -/
namespace Go.Proofs.YtlmnmncdoiealaaGreatDoor
open Go.RowKit Go.Deep
set_option linter.unusedVariables false
set_option linter.unusedSimpArgs false

theorem keepNew_any (mx : Int) (pg : K4 → List Int) (rw : K4 → List (List Ir.Op)) (w : World) (h1 : 1 ≤ mx) (h2 : mx ≤ 40) :
    Calls Tryz.prog 5 #[.int .i64 mx] w fun e w' => ∃ kb, e = .returned (.tuple #[.pointer (some ⟨kb, 0, none⟩), .nilIface]) ∧ KeepAt w' w.heap.size kb mx [] pg rw ∧ Keeps (fun _ => False) w w' := by
  have ha : decide (mx < 1) = false := decide_eq_false (by omega)
  have hb : decide (40 < mx) = false := decide_eq_false (by omega)
  have HK := Lib.hid ((Keeps.refl (fun _ => False) w).alloc (.cells #[.int .i64 mx, .slice none 0 0] 67))
  have HA := Lib.hid (show KeepAt (w.alloc (.cells #[.int .i64 mx, .slice none 0 0] 67)) w.heap.size w.heap.size mx [] pg rw from ⟨⟨_, blk_alloc_new _ _, KOwn.nil _ _⟩, fun k hk => (by cases hk), Nat.le_refl _⟩)
  go_enter Tryz.func5, Tryz.ntmps5
  go_wp2_with fail
  go_ret2
  exact ⟨_, rfl, HA.out, HK.out⟩
set_option maxHeartbeats 4000000 in
set_option maxRecDepth 100000 in
theorem keepPCs_any (B kb : Nat) (mx : Int) (l : List K4) (pg : K4 → List Int) (rw : K4 → List (List Ir.Op)) (w : World) (K : KeepAt w B kb mx l pg rw) (hl : l.length ≤ 100000) :
    Calls Tryz.prog 19 #[.pointer (some ⟨kb, 0, none⟩)] w fun e w' => ∃ v, e = .returned v ∧ UOwn w' w.heap.size (l.map K4.pc) v ∧ Keeps (fun _ => False) w w' := by
  have HK := Lib.hid K
  obtain ⟨v, hb, hko⟩ := K.box
  obtain ⟨A, cap, hv, _⟩ := id hko
  obtain ⟨n, hn⟩ : ∃ n, l.length = n := ⟨_, rfl⟩
  rw [hn] at hv
  subst hv
  have HBX := Lib.hid hb
  have HKO := Lib.hid hko
  have HLE := Lib.hid hn
  have hnb : n ≤ 100000 := by omega
  have HLN := Lib.hid hnb
  obtain ⟨H, hH⟩ : ∃ H, w.heap.size = H := ⟨_, rfl⟩
  have HHE := Lib.hid hH
  rw [hH]
  clear K hl hb hko hn hH
  go_enter Tryz.func19, Tryz.ntmps19
  have c0 : w.cell? ⟨kb, 1, none⟩ = some (.slice A n cap) := cell_atK HBX.out 1
  go_wp2_with fail
  clear c0
  go_loopw [3, 11] (fun s3 s11 wr => ∃ i : Nat, i ≤ n ∧ s11 = .int .i64 i ∧ UOwn wr H ((l.take i).map K4.pc) s3 ∧ Keeps (fun _ => False) w wr) (fun _ s11 _ => n - (intOf s11).toNat)
  case atStart => exact ⟨0, by omega, rfl, UOwn.nil _ _, Keeps.refl _ _⟩
  case round =>
    obtain ⟨i, hi, rfl, hU, hK⟩ := hrel
    have HU := Lib.hid hU
    have HKK := Lib.hid hK
    clear hU hK
    by_cases hlt : i < n
    · have hil : i < l.length := by rw [HLE.out]; exact hlt
      obtain ⟨g, go, cg, hvg, hgo, hcell⟩ := (HKO.out.quiet HKK.out).get (i := i) hil
      clear hgo
      rw [HLE.out] at hvg
      injection hvg with e1 e2 e3
      subst e1 e3
      have hi63 : (i : Int) < n := by omega
      have HTK := Lib.hid (take_getD l i hil k40)
      obtain ⟨k, hk⟩ : ∃ k, l.getD i k40 = k := ⟨_, rfl⟩
      rw [hk] at hcell HTK
      clear hk hil
      have e0 : wr.cell? ⟨g, go + i * 4, none⟩ = some (.int .u32 k.pc) := hcell 0 _ (by omega) rfl
      have e1 : wr.cell? ⟨g, go + i * 4 + 1, none⟩ = some (.int .i64 k.many) := hcell 1 _ (by omega) rfl
      have e2 : wr.cell? ⟨g, go + i * 4 + 2, none⟩ = some (.slice k.A k.n k.c) := hcell 2 _ (by omega) rfl
      have e3 : wr.cell? ⟨g, go + i * 4 + 3, none⟩ = some (.slice k.P k.pn k.pcap) := hcell 3 _ (by omega) rfl
      have HXB := Lib.hid (blk_alloc_new wr (.cells #[.int .u32 k.pc, .int .i64 k.many, .slice k.A k.n k.c, .slice k.P k.pn k.pcap] 77))
      have HXK := Lib.hid ((Keeps.refl (fun _ => False) wr).alloc (.cells #[.int .u32 k.pc, .int .i64 k.many, .slice k.A k.n k.c, .slice k.P k.pn k.pcap] 77))
      go_upto_region 5 with fail
      have HK1 := Lib.hid (HKK.out.trans HXK.out (fun _ _ h => h))
      have HU1 := Lib.hid (HU.out.keep HXK.out (fun _ _ h => h))
      clear HXK HU HKK e0 e1 e2 e3 hcell
      generalize wr.alloc _ = w1 at *
      generalize wr.heap.size = x at *
      have x0 : w1.cell? ⟨x, 0, none⟩ = some (.int .u32 k.pc) := cell_atK HXB.out 0
      have HMN := Lib.hid (show (l.take (i + 1)).map K4.pc = (l.take i).map K4.pc ++ [k.pc] by rw [HTK.out, List.map_append]; rfl)
      have hll : ((l.take i).map K4.pc).length ≤ 1000000 := by rw [List.length_map, List.length_take]; have := HLN.out; omega
      obtain ⟨ul, hul⟩ : ∃ x, (l.take i).map K4.pc = x := ⟨_, rfl⟩
      rw [hul] at HU1 HMN hll
      have HFL := Lib.hid hll
      clear hul hll
      obtain ⟨A5, c5, hv5, _⟩ := id HU1.out
      obtain ⟨un, hun⟩ : ∃ x, ul.length = x := ⟨_, rfl⟩
      rw [hun] at hv5
      subst hv5
      clear hun
      have HKA := Lib.hid ((Keeps.refl (fun _ => False) w1).alloc (.cells #[.int .u32 k.pc] 34))
      have HCN := Lib.hid (fun j u hj => cells_new w1 [.int .u32 k.pc] 34 j u hj)
      have HUA := Lib.hid (HU1.out.keep HKA.out (fun _ _ h => h))
      have HBS := Lib.hid (show H ≤ (w1.alloc (.cells #[.int .u32 k.pc] 34)).heap.size by rw [nblk_alloc, ← HHE.out]; have := HK1.out.size; omega)
      have HOWN := Lib.hid (show ∀ b, (Value.slice A5 un c5).ownBlock = some b → H ≤ b from fun b hb => by
        obtain ⟨A, c, e, ho⟩ := HU1.out
        rw [e] at hb ho
        exact (ho.lt b hb).1)
      go_wp2_with (at_builtin; go_loud (refine wpList_append_u rfl _ _ rfl H ul (.slice A5 un c5) rfl HUA.out w1.heap.size k.pc rfl HCN.out HFL.out HBS.out ?c0))
      case c0 =>
        intro v' w4 hown hk4
        have HU4 := Lib.hid (show UOwn w4 H ((l.take (i + 1)).map K4.pc) v' by rw [HMN.out]; exact hown)
        have HK4 := Lib.hid (show Keeps (fun _ => False) w w4 from (HK1.out.trans HKA.out (fun _ _ h => h)).trans hk4 (fun b hb h => by
          have := HOWN.out b h
          have := HHE.out
          omega))
        clear hown hk4 x0
        go_wp2_with fail
        go_roundw
        case rel => exact ⟨i + 1, by omega, by go_num, HU4.out, HK4.out⟩
        case measure => simp [intOf]; omega
    · obtain rfl : i = n := by omega
      have HF := Lib.hid (show UOwn wr H (l.map K4.pc) _ from by
        have := HU.out
        rwa [List.take_of_length_le (by rw [HLE.out]; exact Nat.le_refl _)] at this)
      go_wp2_with fail
      go_ret
      exact ⟨_, rfl, HF.out, HKK.out⟩
end Go.Proofs.YtlmnmncdoiealaaGreatDoor
