import Derived.Test.YtlmnmncdoiealaaGreatDoorKaz03
import Derived.Test.YtlmnmncdoiealaaGreatDoorKaz07

/- PlanRun -/
/- Rows of ops: an op that is laid into an earlier row goes as at the end. No program in sight. -/
namespace Go.Proofs.YtlmnmncdoiealaaGreatDoor
open Go.RowKit
set_option linter.unusedVariables false
namespace Ir
/-- what a row, or rows, come to -/
inductive GEnd where
  | trap
  | leave (pc : Int) (X m : Nat → Int)
  | fell (X m : Nat → Int)
def rowTo (W : Int → Bool) (X m : Nat → Int) (l : List Op) : (Nat → Int) × (Nat → Int) := applyRow X m (l.map fun o => (o, resOf X m W o))
def rowGo (W : Int → Bool) (X m : Nat → Int) (l : List Op) : GEnd :=
  if (l.any fun o => (resOf X m W o).trap) = true then .trap
  else match leaveTo none (l.map (resOf X m W)) with
    | some pc => .leave pc (rowTo W X m l).1 (rowTo W X m l).2
    | none => .fell (rowTo W X m l).1 (rowTo W X m l).2
def rowsGo (W : Int → Bool) : (Nat → Int) → (Nat → Int) → List (List Op) → GEnd
  | X, m, [] => .fell X m
  | X, m, l :: r => match rowGo W X m l with
    | .fell X' m' => rowsGo W X' m' r
    | e => e
/-- the end that the document's answer tells -/
def toREnd : GEnd → REnd → Prop
  | .trap, .trap _ => True
  | .leave p X m, .leave q Y n => p = q ∧ X = Y ∧ m = n
  | .fell _ _, .fell => True
  | _, _ => False
theorem trapOf_any (X m : Nat → Int) (W : Int → Bool) : ∀ l : List Op, (l.any fun o => (resOf X m W o).trap) = (trapOf X m W l).isSome
  | [] => rfl
  | o :: r => by
    rw [List.any_cons, trapOf_any X m W r]
    show _ = (if (resOf X m W o).trap = true then some o.at_ else trapOf X m W r).isSome
    cases (resOf X m W o).trap <;> simp
theorem runRows_go (W : Int → Bool) : ∀ (l : List (List Op)) (X m : Nat → Int), toREnd (rowsGo W X m l) (runRows W X m l)
  | [], X, m => trivial
  | l :: r, X, m => by
    unfold rowsGo runRows rowGo
    rw [trapOf_any]
    cases ht : trapOf X m W l with
    | some a => exact trivial
    | none =>
      simp only [Option.isSome_none, Bool.false_eq_true, if_false]
      cases hl : leaveTo none (l.map (resOf X m W)) with
      | some pc => exact ⟨rfl, rfl, rfl⟩
      | none => exact runRows_go W r _ _
/-- an op's result hangs on what it reads -/
theorem res_congr {X Y m n : Nat → Int} {W : Int → Bool} {o : Op} (h0 : kn o.k ≠ 0) (h : ∀ k, (reads o).contains k = true → rg X k = rg Y k) (hm : kn o.k = 5 → m = n) : resOf X m W o = resOf Y n W o := by
  have hle := kn_le o.k
  have hA : hasA (kn o.k) = true → rg X o.a = rg Y o.a := fun ha => h _ (by unfold reads; rw [ha]; simp)
  have hB : hasB (kn o.k) = true → kn o.k ≠ 5 → rg X o.b = rg Y o.b := fun hb h5 => h _ (by unfold reads; rw [hb]; simp [h5])
  have hD : isDiv (kn o.k) = true → rg X o.d = rg Y o.d := fun hq => h _ (by unfold reads; rw [hq]; simp)
  have a2 : 2 ≤ kn o.k → kn o.k ≠ 8 → hasA (kn o.k) = true := fun h1 h2 => by unfold hasA; simp; omega
  have b2 : (3 ≤ kn o.k ∧ kn o.k ≤ 6 ∨ 10 ≤ kn o.k) → hasB (kn o.k) = true := fun h1 => by unfold hasB; simp; omega
  rcases (show kn o.k = 1 ∨ kn o.k = 2 ∨ kn o.k = 3 ∨ kn o.k = 4 ∨ kn o.k = 5 ∨ kn o.k = 6 ∨ kn o.k = 7 ∨ kn o.k = 8 ∨ kn o.k = 9 ∨ 10 ≤ kn o.k by omega) with k | k | k | k | k | k | k | k | k | k
  · simp [resOf, k]
  · simp [resOf, k, hA (a2 (by omega) (by omega))]
  · simp [resOf, k, hA (a2 (by omega) (by omega)), hB (b2 (by omega)) (by omega)]
  · simp [resOf, k, hA (a2 (by omega) (by omega)), hB (b2 (by omega)) (by omega)]
  · simp [resOf, k, hA (a2 (by omega) (by omega)), hm k]
  · simp [resOf, k, hA (a2 (by omega) (by omega)), hB (b2 (by omega)) (by omega)]
  · simp [resOf, k, hA (a2 (by omega) (by omega))]
  · simp [resOf, k]
  · simp [resOf, k, hA (a2 (by omega) (by omega))]
  · have e2 : ∀ (X m : Nat → Int), resOf X m W o = ⟨value (kn o.k) (rg X o.a) (rg X o.b) (rg X o.d), 0, false, false⟩ := fun X m => by
      unfold resOf
      rw [if_neg (by omega), if_neg (by omega), if_neg (by omega), if_neg (by omega), if_neg (by omega), if_neg (by omega), if_neg (by omega), if_neg (by omega)]
    rw [e2, e2, hA (a2 (by omega) (by omega)), hB (b2 (by omega)) (by omega)]
    by_cases hq : isDiv (kn o.k) = true
    · rw [hD hq]
    · rw [value_nodiv (d := rg X o.d) (e := rg Y o.d) (by simpa using hq)]
end Ir
end Go.Proofs.YtlmnmncdoiealaaGreatDoor

/- PlanRun2 -/
/- An op laid into an earlier row goes as at the end: the law. No program in sight. -/
namespace Go.Proofs.YtlmnmncdoiealaaGreatDoor
open Go.RowKit
set_option linter.unusedVariables false
namespace Ir
/-- p lies beside o, or behind it, without harm: what both ask -/
structure Mild (o p : Op) : Prop where
  k : kn p.k ≠ 0
  stay : leaves (kn p.k) = false
  w : 0 < writes o → writes p ≠ writes o
  r : 0 < writes p → (reads o).contains (writes p) = false
  st : kn o.k = 5 ∨ kn o.k = 6 → kn p.k ≠ 6
/-- p lies behind o -/
structure Late (o p : Op) : Prop extends Mild o p where
  d : 0 < writes o → (reads p).contains (writes o) = false
  ld : kn o.k = 6 → kn p.k ≠ 5
/-- ops alone do not leave -/
theorem res_stay {X m : Nat → Int} {W : Int → Bool} {p : Op} (h : leaves (kn p.k) = false) : (resOf X m W p).leave = false := by
  unfold leaves at h
  have h := of_decide_eq_false h
  unfold resOf
  repeat' split
  all_goals first | rfl | omega
theorem leaveTo_none {W : Int → Bool} {X m : Nat → Int} : ∀ (l : List Op), (∀ p ∈ l, leaves (kn p.k) = false) → leaveTo none (l.map (resOf X m W)) = none
  | [], _ => rfl
  | p :: r, h => by
    rw [List.map_cons]
    unfold leaveTo
    rw [res_stay (h p (List.mem_cons_self ..))]
    exact leaveTo_none r (fun q hq => h q (List.mem_cons_of_mem _ hq))
theorem applyRow_append (X m : Nat → Int) : ∀ (a b : List (Op × RRes)), applyRow X m (a ++ b) = applyRow (applyRow X m a).1 (applyRow X m a).2 b := by
  intro a
  induction a generalizing X m with
  | nil => intro b; rfl
  | cons p r ih => intro b; exact ih _ _ b
/-- what ops write, a register that none of them writes keeps -/
theorem applyRow_keep (n : Int) : ∀ (l : List (Op × RRes)) (X m : Nat → Int), (∀ p ∈ l, 0 < writes p.1 → writes p.1 ≠ n) → rg (applyRow X m l).1 n = rg X n
  | [], X, m, _ => rfl
  | p :: r, X, m, h => by
    have h1 := applyRow_keep n r (applyX X p.1 p.2) (applyM m p.1 p.2) (fun q hq => h q (List.mem_cons_of_mem _ hq))
    show rg (applyRow (applyX X p.1 p.2) (applyM m p.1 p.2) r).1 n = rg X n
    rw [h1]
    unfold applyX
    split
    · rename_i hw
      exact rg_setX (by omega) (fun e => h p (List.mem_cons_self ..) hw e.symm)
    · rfl
theorem applyRow_mem : ∀ (l : List (Op × RRes)) (X m : Nat → Int), (∀ p ∈ l, kn p.1.k ≠ 6) → (applyRow X m l).2 = m
  | [], X, m, _ => rfl
  | p :: r, X, m, h => by
    have h1 := applyRow_mem r (applyX X p.1 p.2) (applyM m p.1 p.2) (fun q hq => h q (List.mem_cons_of_mem _ hq))
    show (applyRow (applyX X p.1 p.2) (applyM m p.1 p.2) r).2 = m
    rw [h1]
    unfold applyM
    rw [if_neg (h p (List.mem_cons_self ..))]
theorem setX_comm {X : Nat → Int} {a b u v : Int} (ha : 0 < a) (hb : 0 < b) (h : a ≠ b) : setX (setX X a u) b v = setX (setX X b v) a u := by
  funext k
  unfold setX
  by_cases e1 : k = b.toNat <;> by_cases e2 : k = a.toNat <;> simp [e1, e2]
  all_goals omega
theorem apply_comm {X m : Nat → Int} {o p : Op} {r q : RRes} (h : Mild o p) : applyX (applyX X o r) p q = applyX (applyX X p q) o r ∧ (kn o.k ≠ 6 ∨ kn p.k ≠ 6 → applyM (applyM m o r) p q = applyM (applyM m p q) o r) := by
  constructor
  · unfold applyX
    by_cases h1 : 0 < writes o <;> by_cases h2 : 0 < writes p <;> simp only [h1, h2, if_true, if_false]
    exact setX_comm h1 h2 (fun e => h.w h1 e.symm)
  · intro hm
    unfold applyM
    by_cases h1 : kn o.k = 6 <;> by_cases h2 : kn p.k = 6 <;> simp [h1, h2]
    omega
theorem mild_mem {o p : Op} (h : Mild o p) : kn o.k ≠ 6 ∨ kn p.k ≠ 6 := by
  by_cases h6 : kn o.k = 6
  · exact .inr (h.st (.inr h6))
  · exact .inl h6
theorem res_late {X m : Nat → Int} {W : Int → Bool} {o p : Op} {r : RRes} (h : Late o p) : resOf (applyX X o r) (applyM m o r) W p = resOf X m W p :=
  res_congr h.k (fun k hk => by
    unfold applyX
    split
    · rename_i hw
      exact rg_setX (by omega) (fun e => by
        have := h.d hw
        rw [← e, hk] at this
        cases this)
    · rfl) (fun h5 => by
    unfold applyM
    rw [if_neg (fun h6 => h.ld h6 h5)])
theorem applyRow_comm {o : Op} {r : RRes} : ∀ (l : List (Op × RRes)) (X m : Nat → Int), (∀ p ∈ l, Mild o p.1) → applyRow (applyX X o r) (applyM m o r) l = (applyX (applyRow X m l).1 o r, applyM (applyRow X m l).2 o r)
  | [], X, m, _ => rfl
  | p :: t, X, m, h => by
    have hp := h p (List.mem_cons_self ..)
    have ih := applyRow_comm (o := o) (r := r) t (applyX X p.1 p.2) (applyM m p.1 p.2) (fun q hq => h q (List.mem_cons_of_mem _ hq))
    show applyRow (applyX (applyX X o r) p.1 p.2) (applyM (applyM m o r) p.1 p.2) t = _
    rw [(apply_comm (m := m) hp).1, (apply_comm (X := X) hp).2 (mild_mem hp)]
    exact ih
/-- a state with an op's doing laid in -/
def laidIn (o : Op) (r : RRes) : GEnd → GEnd
  | .fell X m => .fell (applyX X o r) (applyM m o r)
  | e => e
theorem row_late {W : Int → Bool} {o : Op} {r : RRes} (l : List Op) (X m : Nat → Int) (h : ∀ p ∈ l, Late o p) : rowGo W (applyX X o r) (applyM m o r) l = laidIn o r (rowGo W X m l) := by
  have hres : ∀ p ∈ l, resOf (applyX X o r) (applyM m o r) W p = resOf X m W p := fun p hp => res_late (h p hp)
  have hany : (l.any fun p => (resOf (applyX X o r) (applyM m o r) W p).trap) = (l.any fun p => (resOf X m W p).trap) := by
    rw [Bool.eq_iff_iff, List.any_eq_true, List.any_eq_true]
    constructor
    · rintro ⟨p, hp, hq⟩
      exact ⟨p, hp, by rw [← hres p hp]; exact hq⟩
    · rintro ⟨p, hp, hq⟩
      exact ⟨p, hp, by rw [hres p hp]; exact hq⟩
  unfold rowGo
  rw [hany]
  split
  · rfl
  · rw [leaveTo_none l (fun p hp => (h p hp).stay), leaveTo_none l (fun p hp => (h p hp).stay)]
    have hmap : (l.map fun p => (p, resOf (applyX X o r) (applyM m o r) W p)) = l.map fun p => (p, resOf X m W p) := List.map_congr_left (fun p hp => by rw [hres p hp])
    have := applyRow_comm (r := r) (o := o) (l.map fun p => (p, resOf X m W p)) X m (fun p hp => by
      obtain ⟨q, hq, rfl⟩ := List.mem_map.1 hp
      exact (h q hq).toMild)
    show GEnd.fell (rowTo W _ _ l).1 (rowTo W _ _ l).2 = GEnd.fell _ _
    unfold rowTo
    rw [hmap, this]
theorem rows_late {W : Int → Bool} {o : Op} {r : RRes} : ∀ (B : List (List Op)) (X m : Nat → Int), (∀ l ∈ B, ∀ p ∈ l, Late o p) → rowsGo W (applyX X o r) (applyM m o r) B = laidIn o r (rowsGo W X m B)
  | [], X, m, _ => rfl
  | l :: B, X, m, h => by
    unfold rowsGo
    rw [row_late l X m (h l (List.mem_cons_self ..))]
    cases hr : rowGo W X m l with
    | trap => rfl
    | leave pc Y n => rfl
    | fell Y n => exact rows_late B Y n (fun l hl => h l (List.mem_cons_of_mem _ hl))
theorem res_row {W : Int → Bool} {o : Op} (h0 : kn o.k ≠ 0) (l : List Op) (X m : Nat → Int) (h : ∀ p ∈ l, Mild o p) : resOf (rowTo W X m l).1 (rowTo W X m l).2 W o = resOf X m W o :=
  res_congr h0 (fun k hk => applyRow_keep k _ X m (fun p hp hw e => by
    obtain ⟨q, hq, rfl⟩ := List.mem_map.1 hp
    have := (h q hq).r hw
    have e : writes q = k := e
    rw [e, hk] at this
    cases this)) (fun h5 => applyRow_mem _ X m (fun p hp => by
    obtain ⟨q, hq, rfl⟩ := List.mem_map.1 hp
    exact (h q hq).st (.inl h5)))
theorem rowGo_fell {W : Int → Bool} {l : List Op} {X m Y n : Nat → Int} (h : rowGo W X m l = .fell Y n) : Y = (rowTo W X m l).1 ∧ n = (rowTo W X m l).2 := by
  unfold rowGo at h
  split at h
  · cases h
  · split at h
    · cases h
    · injection h with h1 h2
      exact ⟨h1.symm, h2.symm⟩
theorem res_rows {W : Int → Bool} {o : Op} (h0 : kn o.k ≠ 0) : ∀ (B : List (List Op)) (X m Y n : Nat → Int), (∀ l ∈ B, ∀ p ∈ l, Mild o p) → rowsGo W X m B = .fell Y n → resOf Y n W o = resOf X m W o
  | [], X, m, Y, n, _, h => by
    unfold rowsGo at h
    injection h with h1 h2
    rw [h1, h2]
  | l :: B, X, m, Y, n, hB, h => by
    unfold rowsGo at h
    cases hr : rowGo W X m l with
    | trap => rw [hr] at h; cases h
    | leave pc Y n => rw [hr] at h; cases h
    | fell Y' n' =>
      rw [hr] at h
      obtain ⟨e1, e2⟩ := rowGo_fell hr
      rw [res_rows h0 B Y' n' Y n (fun l hl => hB l (List.mem_cons_of_mem _ hl)) h, e1, e2]
      exact res_row h0 l X m (hB l (List.mem_cons_self ..))
theorem rowsGo_append {W : Int → Bool} : ∀ (A B : List (List Op)) (X m : Nat → Int), rowsGo W X m (A ++ B) = match rowsGo W X m A with | .fell Y n => rowsGo W Y n B | e => e
  | [], B, X, m => rfl
  | l :: A, B, X, m => by
    have e1 : rowsGo W X m (l :: (A ++ B)) = (match rowGo W X m l with | .fell X' m' => rowsGo W X' m' (A ++ B) | e => e) := rfl
    have e2 : rowsGo W X m (l :: A) = (match rowGo W X m l with | .fell X' m' => rowsGo W X' m' A | e => e) := rfl
    rw [List.cons_append, e1, e2]
    cases rowGo W X m l with
    | trap => rfl
    | leave pc Y n => rfl
    | fell Y n => exact rowsGo_append A B Y n
theorem rows_no_leave {W : Int → Bool} : ∀ (B : List (List Op)) (X m : Nat → Int), (∀ l ∈ B, ∀ p ∈ l, leaves (kn p.k) = false) → ∀ pc Y n, rowsGo W X m B ≠ .leave pc Y n
  | [], X, m, _, pc, Y, n, h => by unfold rowsGo at h; cases h
  | l :: B, X, m, hB, pc, Y, n, h => by
    unfold rowsGo at h
    have hl : ∀ pc Y n, rowGo W X m l ≠ .leave pc Y n := fun pc Y n h => by
      unfold rowGo at h
      split at h
      · cases h
      · rw [leaveTo_none l (hB l (List.mem_cons_self ..))] at h
        cases h
    cases hr : rowGo W X m l with
    | trap => rw [hr] at h; cases h
    | leave pc Y n => exact hl _ _ _ hr
    | fell Y' n' =>
      rw [hr] at h
      exact rows_no_leave B Y' n' (fun l hl => hB l (List.mem_cons_of_mem _ hl)) pc Y n h
theorem leaveTo_append : ∀ (a b : List RRes) (c : Option Int), leaveTo c (a ++ b) = leaveTo (leaveTo c a) b
  | [], b, c => rfl
  | x :: a, b, c => leaveTo_append a b _
def oneGo (o : Op) (r : RRes) (X m : Nat → Int) : GEnd := if r.trap = true then .trap else if r.leave = true then .leave r.addr (applyX X o r) (applyM m o r) else .fell (applyX X o r) (applyM m o r)
theorem rowGo_one {W : Int → Bool} {X m : Nat → Int} {o : Op} {r : RRes} (h : resOf X m W o = r) : rowGo W X m [o] = oneGo o r X m := by
  unfold rowGo oneGo rowTo
  simp only [List.any_cons, List.any_nil, Bool.or_false, List.map_cons, List.map_nil, h, leaveTo, applyRow]
  split
  · rfl
  · cases r.leave <;> rfl
theorem rowGo_snoc {W : Int → Bool} {X m : Nat → Int} {R : List Op} {o : Op} (hR : ∀ p ∈ R, leaves (kn p.k) = false) :
    rowGo W X m (R ++ [o]) = match rowGo W X m R with | .fell Y n => oneGo o (resOf X m W o) Y n | e => e := by
  unfold rowGo rowTo
  rw [List.any_append, List.map_append, List.map_append, leaveTo_append, leaveTo_none R hR, applyRow_append]
  cases (R.any fun p => (resOf X m W p).trap)
  · simp only [Bool.false_or, Bool.false_eq_true, if_false, List.any_cons, List.any_nil, Bool.or_false, List.map_cons, List.map_nil, leaveTo, applyRow]
    unfold oneGo
    split
    · rfl
    · cases (resOf X m W o).leave <;> rfl
  · simp
theorem insert_core {W : Int → Bool} {R : List Op} {B : List (List Op)} {o : Op} (h0 : kn o.k ≠ 0) (hR : ∀ p ∈ R, Mild o p) (hB : ∀ l ∈ B, ∀ p ∈ l, Late o p) (hl : leaves (kn o.k) = true → B = []) (X m : Nat → Int) :
    rowsGo W X m ((R ++ [o]) :: B) = rowsGo W X m (R :: (B ++ [[o]])) := by
  have e1 : rowsGo W X m ((R ++ [o]) :: B) = (match rowGo W X m (R ++ [o]) with | .fell X' m' => rowsGo W X' m' B | e => e) := rfl
  have e2 : rowsGo W X m (R :: (B ++ [[o]])) = (match rowGo W X m R with | .fell X' m' => rowsGo W X' m' (B ++ [[o]]) | e => e) := rfl
  rw [e1, e2, rowGo_snoc (fun p hp => (hR p hp).stay)]
  cases hr : rowGo W X m R with
  | trap => rfl
  | leave pc Y n => rfl
  | fell Y n =>
    obtain ⟨y1, y2⟩ := rowGo_fell hr
    have hro : resOf Y n W o = resOf X m W o := by rw [y1, y2]; exact res_row h0 R X m hR
    dsimp only
    rw [rowsGo_append]
    have hone : ∀ Z k, rowsGo W Y n B = .fell Z k → rowsGo W Z k [[o]] = oneGo o (resOf X m W o) Z k := fun Z k hz => by
      have hz2 := (res_rows h0 B Y n Z k (fun l hl p hp => (hB l hl p hp).toMild) hz).trans hro
      have e3 : rowsGo W Z k [[o]] = (match rowGo W Z k [o] with | .fell X' m' => .fell X' m' | e => e) := rfl
      rw [e3, rowGo_one hz2]
      cases oneGo o (resOf X m W o) Z k <;> rfl
    by_cases ht : (resOf X m W o).trap = true
    · have e4 : ∀ Z k, oneGo o (resOf X m W o) Z k = .trap := fun Z k => by unfold oneGo; rw [if_pos ht]
      rw [e4]
      cases hb : rowsGo W Y n B with
      | trap => rfl
      | leave pc Z k => exact absurd hb (rows_no_leave B Y n (fun l hl p hp => (hB l hl p hp).stay) pc Z k)
      | fell Z k => dsimp only; rw [hone Z k hb, e4]
    · by_cases hlv : leaves (kn o.k) = true
      · rw [hl hlv] at hone ⊢
        show (match oneGo o (resOf X m W o) Y n with | .fell X' m' => GEnd.fell X' m' | e => e) = rowsGo W Y n [[o]]
        rw [hone Y n rfl]
        cases oneGo o (resOf X m W o) Y n <;> rfl
      · have hst : (resOf X m W o).leave = false := res_stay (by simpa using hlv)
        have e4 : ∀ Z k, oneGo o (resOf X m W o) Z k = .fell (applyX Z o (resOf X m W o)) (applyM k o (resOf X m W o)) := fun Z k => by
          unfold oneGo
          rw [if_neg ht, if_neg (by rw [hst]; decide)]
        rw [e4]
        show rowsGo W _ _ B = _
        rw [rows_late B Y n hB]
        cases hb : rowsGo W Y n B with
        | trap => rfl
        | leave pc Z k => exact absurd hb (rows_no_leave B Y n (fun l hl p hp => (hB l hl p hp).stay) pc Z k)
        | fell Z k => dsimp only; rw [hone Z k hb, e4]; rfl
/-- AN OP LAID INTO AN EARLIER ROW GOES AS AT THE END -/
theorem insert_row {W : Int → Bool} {A : List (List Op)} {R : List Op} {B : List (List Op)} {o : Op} (h0 : kn o.k ≠ 0) (hR : ∀ p ∈ R, Mild o p) (hB : ∀ l ∈ B, ∀ p ∈ l, Late o p) (hl : leaves (kn o.k) = true → B = []) (X m : Nat → Int) :
    rowsGo W X m (A ++ (R ++ [o]) :: B) = rowsGo W X m (A ++ R :: (B ++ [[o]])) := by
  rw [rowsGo_append, rowsGo_append]
  cases rowsGo W X m A with
  | trap => rfl
  | leave pc Y n => rfl
  | fell Y n => exact insert_core h0 hR hB hl Y n
end Ir
end Go.Proofs.YtlmnmncdoiealaaGreatDoor
