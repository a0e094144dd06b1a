import Derived.Test.YtgmbladcoikffaaGreatDoorIru5
import Derived.Test.YtgmbladcoikffaaGreatDoorIrut
import Derived.Test.YtgmbladcoikffaaGreatDoorIru3
import Derived.Test.YtgmbladcoikffaaGreatDoorIru8

/- ResOf -/
/- The walk of the reference's ResultOf. Printed by gen/resof.py. -/
namespace Go.Proofs.YtgmbladcoikffaaGreatDoor
open Go.RowKit Go.Deep
set_option linter.unusedVariables false
set_option linter.unusedSimpArgs false

/-- WHAT ResultOf ANSWERS, OF A RIGHT OP -/
theorem resultOf_any (X : Nat → Int) (o : Ir.Op) (q wb tb hb : Nat) (m : Nat → Int) (wt ht : Nat → Bool) (W : Int → Bool) (w : World) (R : RefAt w q wb tb hb m wt ht) (hW : ∀ p : Nat, p < 64 → wt p = W p) (hX : ∀ k, k < 64 → 0 ≤ X k ∧ X k < 4294967296)
    (hi : Ir.OpIn o) :
    Calls Tryz.prog 75 #[.agg (regL X).toArray, .pointer (some ⟨q, 0, none⟩), .agg (opC o)] w (ResIs w (Ir.resOf X m W o)) := by
  obtain ⟨k, d, a, b, im, t⟩ := o
  have hle := Ir.kn_le k
  have h0 := hi.k
  simp only at h0
  rcases (show Ir.kn k = 1 ∨ Ir.kn k = 2 ∨ Ir.kn k = 3 ∨ Ir.kn k = 4 ∨ Ir.kn k = 5 ∨ Ir.kn k = 6 ∨ Ir.kn k = 7 ∨ Ir.kn k = 8 ∨ Ir.kn k = 9 ∨ (10 ≤ Ir.kn k ∧ Ir.kn k < 24) ∨ Ir.kn k = 24 ∨ Ir.kn k = 25 ∨ Ir.kn k = 26 ∨ Ir.kn k = 27 by omega) with h | h | h | h | h | h | h | h | h | h | h | h | h | h
  · exact res_set X k d a b im t q wb tb hb m wt ht W w R hW hX hi h
  · exact res_copy X k d a b im t q wb tb hb m wt ht W w R hW hX hi h
  · exact res_overp X k d a b im t q wb tb hb m wt ht W w R hW hX hi h
  · exact res_overm X k d a b im t q wb tb hb m wt ht W w R hW hX hi h
  · have hl := hi.ld h
    simp only at hl
    obtain ⟨nb, hnb, hb2⟩ : ∃ nb : Nat, (nb = 1 ∨ nb = 2 ∨ nb = 4) ∧ (b = nb ∨ b = -(nb : Int)) := ⟨b.natAbs, by omega, by omega⟩
    by_cases hr : rightC (Ir.adr (Ir.rg X a) im) nb = 0
    · rcases hb2 with hb2 | hb2
      · exact res_loadu_ok X k d a b im t q wb tb hb m wt ht W w R hW hX hi h nb hnb hb2 hr
      · exact res_loads_ok X k d a b im t q wb tb hb m wt ht W w R hW hX hi h nb hnb hb2 hr
    · rcases hb2 with hb2 | hb2
      · exact res_loadu_bad X k d a b im t q wb tb hb m wt ht W w R hW hX hi h nb hnb hb2 hr
      · exact res_loads_bad X k d a b im t q wb tb hb m wt ht W w R hW hX hi h nb hnb hb2 hr
  · by_cases hr : rightC (Ir.adr (Ir.rg X a) im) d = 0
    · exact res_store_ok X k d a b im t q wb tb hb m wt ht W w R hW hX hi h hr
    · exact res_store_bad X k d a b im t q wb tb hb m wt ht W w R hW hX hi h hr
  · exact res_if X k d a b im t q wb tb hb m wt ht W w R hW hX hi h
  · exact res_out X k d a b im t q wb tb hb m wt ht W w R hW hX hi h
  · exact res_outr X k d a b im t q wb tb hb m wt ht W w R hW hX hi h
  · exact res_sum X k d a b im t q wb tb hb m wt ht W w R hW hX hi h
  · by_cases hz : Ir.rg X b = 0
    · exact res_div24_z X k d a b im t q wb tb hb m wt ht W w R hW hX hi h hz
    · exact res_div24_n X k d a b im t q wb tb hb m wt ht W w R hW hX hi h hz
  · by_cases hz : Ir.rg X b = 0
    · exact res_div25_z X k d a b im t q wb tb hb m wt ht W w R hW hX hi h hz
    · exact res_div25_n X k d a b im t q wb tb hb m wt ht W w R hW hX hi h hz
  · by_cases hz : Ir.rg X b = 0
    · exact res_div26_z X k d a b im t q wb tb hb m wt ht W w R hW hX hi h hz
    · exact res_div26_n X k d a b im t q wb tb hb m wt ht W w R hW hX hi h hz
  · by_cases hz : Ir.rg X b = 0
    · exact res_div27_z X k d a b im t q wb tb hb m wt ht W w R hW hX hi h hz
    · exact res_div27_n X k d a b im t q wb tb hb m wt ht W w R hW hX hi h hz
end Go.Proofs.YtgmbladcoikffaaGreatDoor

/- RowsAt -/
/- Rows of ops that are read; results in a row of the call's own; what a row's results are, plainly. -/
namespace Go.Proofs.YtgmbladcoikffaaGreatDoor
open Go.RowKit Go.Deep
set_option linter.unusedVariables false
set_option linter.unusedSimpArgs false

/-- ROWS OF OPS that are read -/
structure RowsAt (w : World) (A : Option Addr) (n cap : Nat) (rows : List (List Ir.Op)) : Prop where
  len : rows.length = n
  le : n ≤ cap
  lies : cap = 0 ∨ ∃ b o, A = some ⟨b, o, none⟩ ∧ b < w.heap.size ∧ ∀ i, i < n → ∃ Ai ci, w.cell? ⟨b, o + i, none⟩ = some (.slice Ai (rows.getD i []).length ci) ∧ OpsAt w Ai (rows.getD i []).length ci (rows.getD i []) ∧ ci ≤ 9223372036854775807
theorem RowsAt.quiet {w w' : World} {A : Option Addr} {n cap : Nat} {rows : List (List Ir.Op)} (h : RowsAt w A n cap rows) (k : Keeps (fun _ => False) w w') : RowsAt w' A n cap rows := by
  obtain ⟨h1, h2, h3 | ⟨b, o, h4, h5, h6⟩⟩ := h
  · exact ⟨h1, h2, .inl h3⟩
  · refine ⟨h1, h2, .inr ⟨b, o, h4, Nat.lt_of_lt_of_le h5 k.size, fun i hi => ?_⟩⟩
    obtain ⟨Ai, ci, e1, e2, e3⟩ := h6 i hi
    exact ⟨Ai, ci, k.cell' e1 (fun f => f), e2.quiet k, e3⟩
theorem RowsAt.get {w : World} {A : Option Addr} {n cap : Nat} {rows : List (List Ir.Op)} (h : RowsAt w A n cap rows) {i : Nat} (hi : i < n) :
    ∃ b o Ai ci, A = some ⟨b, o, none⟩ ∧ w.cell? ⟨b, o + i, none⟩ = some (.slice Ai (rows.getD i []).length ci) ∧ OpsAt w Ai (rows.getD i []).length ci (rows.getD i []) ∧ ci ≤ 9223372036854775807 := by
  obtain ⟨h1, h2, h3 | ⟨b, o, h4, h5, h6⟩⟩ := h
  · omega
  · obtain ⟨Ai, ci, e1, e2, e3⟩ := h6 i hi
    exact ⟨b, o, Ai, ci, h4, e1, e2, e3⟩
/-- cells of results -/
def resL (l : List Ir.RRes) : List Value := l.flatMap (fun r => (resC r).toList)
theorem resL_len (l : List Ir.RRes) : (resL l).length = l.length * 4 := by
  induction l with
  | nil => rfl
  | cons o r ih =>
    have : resL (o :: r) = (resC o).toList ++ resL r := rfl
    rw [this, List.length_append, ih, List.length_cons]
    show 4 + _ = _
    omega
def nores : Ir.RRes := ⟨0, 0, false, false⟩
theorem resL_get (l : List Ir.RRes) : ∀ i q, i < l.length → q < 4 → (resL l)[i * 4 + q]? = (resC (l.getD i nores))[q]? := by
  induction l with
  | nil => intro i q h; simp at h
  | cons o r ih =>
    intro i q h hq
    have e : resL (o :: r) = (resC o).toList ++ resL r := rfl
    rw [e]
    cases i with
    | zero =>
      rw [List.getElem?_append_left (by show _ < 4; omega)]
      simp
    | succ i =>
      rw [List.getElem?_append_right (by show 4 ≤ _; omega)]
      show (resL r)[(i + 1) * 4 + q - 4]? = _
      rw [show (i + 1) * 4 + q - 4 = i * 4 + q by omega, ih i q (by simpa using h) hq]
      rfl
theorem resL_snoc (l : List Ir.RRes) (r : Ir.RRes) : resL (l ++ [r]) = resL l ++ (resC r).toList := by
  unfold resL
  rw [List.flatMap_append]
  simp
/-- a row of results in block g -/
structure ResRow (w : World) (g : Nat) (l : List Ir.RRes) : Prop where
  v : ∀ i, i < l.length → w.cell? ⟨g, i * 4, none⟩ = some (.int .u32 (l.getD i nores).v)
  addr : ∀ i, i < l.length → w.cell? ⟨g, i * 4 + 1, none⟩ = some (.int .u32 (l.getD i nores).addr)
  leave : ∀ i, i < l.length → w.cell? ⟨g, i * 4 + 3, none⟩ = some (.bool (l.getD i nores).leave)
theorem ResRow.keep {S : Nat → Prop} {w w' : World} {g : Nat} {l : List Ir.RRes} (h : ResRow w g l) (k : Keeps S w w') (hs : ¬ S g) : ResRow w' g l :=
  ⟨fun i hi => k.cell' (h.v i hi) hs, fun i hi => k.cell' (h.addr i hi) hs, fun i hi => k.cell' (h.leave i hi) hs⟩
theorem ResRow.of_owns {w : World} {B cap : Nat} {A : Option Addr} {l : List Ir.RRes} (h : w.ownsRow B 131 4 (.slice A l.length cap) l.length (resL l)) : l = [] ∨ ∃ g, A = some ⟨g, 0, none⟩ ∧ B ≤ g ∧ g < w.heap.size ∧ ResRow w g l := by
  obtain ⟨h1, ⟨h2, h3⟩ | ⟨g, cap', cur, h2, h3, h4, h5, h6, h7, h8⟩⟩ := h
  · exact .inl (List.eq_nil_of_length_eq_zero h3)
  · injection h2 with e1 e2 e3
    right
    refine ⟨g, e1, h3, (Array.getElem?_eq_some_iff.1 h4).1, ?_⟩
    have hc : ∀ i q, i < l.length → q < 4 → ∀ v, (resC (l.getD i nores))[q]? = some v → w.cell? ⟨g, i * 4 + q, none⟩ = some v := fun i q hi hq v hv => by
      have e := resL_get l i q hi hq
      rw [hv, ← h8, List.getElem?_take_of_lt (by omega)] at e
      unfold World.cell?
      rw [h4]
      simpa using e
    exact ⟨fun i hi => hc i 0 hi (by omega) _ rfl, fun i hi => hc i 1 hi (by omega) _ rfl, fun i hi => hc i 3 hi (by omega) _ rfl⟩
theorem Tryz.info_res : (Tryz.prog.info? 131).map (fun i => (i.zero, i.size, i.bytes)) = some (some (.agg #[.int .u32 0, .int .u32 0, .bool false, .bool false]), 4, 12) := by kernel_rfl
theorem regL_len (X : Nat → Int) : (regL X).length = 64 := by simp [regL]
theorem RMach.range {w : World} {mb q : Nat} {X : Nat → Int} (h : RMach w mb q X) : w.rangeAt mb 0 (regL X) := fun j v hv => by
  have hj : j < 64 := by have := (List.getElem?_eq_some_iff.1 hv).1; rwa [regL_len] at this
  have := (h.reg j hj).1
  unfold regL at hv
  rw [List.getElem?_map, List.getElem?_range hj] at hv
  injection hv with hv
  rw [Nat.zero_add, ← hv]
  exact this
theorem range_keepR {w w' : World} {b : Nat} {cs : List Value} (h : w.rangeAt b 0 cs) (k : Keeps (fun _ => False) w w') : w'.rangeAt b 0 cs := fun j v hv => k.cell' (h j v hv) (fun f => f)
namespace Ir
/-- ranges of a result -/
theorem res_rng {X m : Nat → Int} {W : Int → Bool} {o : Op} (hX : ∀ k, k < 64 → 0 ≤ X k ∧ X k < 4294967296) (hm : ∀ j, j < 16384 → 0 ≤ m j ∧ m j < 256) (hi : OpIn o) :
    (0 ≤ (resOf X m W o).v ∧ (resOf X m W o).v < 4294967296) ∧ (0 ≤ (resOf X m W o).addr ∧ (resOf X m W o).addr < 4294967296) := by
  have hle := kn_le o.k
  have hk := hi.k
  have ha : 0 ≤ rg X o.a ∧ rg X o.a < 4294967296 := hX _ (by have := hi.a; omega)
  have hz : (0 : Int) ≤ 0 ∧ (0 : Int) < 4294967296 := by omega
  have hadr : 0 ≤ adr (rg X o.a) o.imm ∧ adr (rg X o.a) o.imm < 4294967296 := by unfold adr; omega
  unfold resOf
  split
  · exact ⟨hi.imm, hz⟩
  split
  · exact ⟨ha, hz⟩
  split
  · exact ⟨hz, hz⟩
  split
  · split
    · rename_i h5 hr
      have := loadV_rng hm [] (b := o.b) hadr.1 hr
      exact ⟨this, hz⟩
    · exact ⟨hz, hz⟩
  split
  · split
    · rename_i h6 _
      exact ⟨hX _ (by have := hi.b (by omega); omega), hadr⟩
    · exact ⟨hz, hz⟩
  split
  · exact ⟨hz, hi.imm⟩
  split
  · exact ⟨hz, hi.imm⟩
  split
  · exact ⟨hz, ha⟩
  · refine ⟨value_rng _ ha (hX _ (by have := hi.b (by omega); omega)) (hX _ (by have := hi.d (by omega); omega)), hz⟩
/-- a store that does not trap is right -/
theorem res_store {X m : Nat → Int} {W : Int → Bool} {o : Op} (h6 : kn o.k = 6) (ht : (resOf X m W o).trap = false) : rightC (resOf X m W o).addr o.d = 0 ∧ W ((resOf X m W o).addr / 256) = false := by
  unfold resOf at ht ⊢
  simp only [h6] at ht ⊢
  by_cases hr : rightC (adr (rg X o.a) o.imm) o.d = 0
  · simp [hr] at ht ⊢
    exact ht
  · simp [hr] at ht
theorem trapOf_at {X m : Nat → Int} {W : Int → Bool} : ∀ (l : List Op) (k : Nat), k < l.length → (∀ j, j < k → (resOf X m W (l.getD j nop)).trap = false) → (resOf X m W (l.getD k nop)).trap = true → trapOf X m W l = some (l.getD k nop).at_
  | [], k, h, _, _ => by simp at h
  | o :: r, 0, _, _, ht => by
    have ht2 : (resOf X m W o).trap = true := ht
    unfold trapOf
    rw [if_pos ht2]
    rfl
  | o :: r, k + 1, h, hj, ht => by
    unfold trapOf
    rw [if_neg (by have := hj 0 (by omega); simp at this; rw [this]; decide)]
    exact trapOf_at r k (by simpa using h) (fun j hj' => hj (j + 1) (by omega)) ht
theorem trapOf_none {X m : Nat → Int} {W : Int → Bool} : ∀ (l : List Op), (∀ j, j < l.length → (resOf X m W (l.getD j nop)).trap = false) → trapOf X m W l = none
  | [], _ => rfl
  | o :: r, h => by
    unfold trapOf
    rw [if_neg (by have := h 0 (by simp); simp at this; rw [this]; decide)]
    exact trapOf_none r (fun j hj => h (j + 1) (by simpa using hj))
/-- a row so far applied -/
def rowUp (X m : Nat → Int) (W : Int → Bool) (l : List Op) (k : Nat) : (Nat → Int) × (Nat → Int) := applyRow X m ((l.take k).map fun o => (o, resOf X m W o))
def levUp (X m : Nat → Int) (W : Int → Bool) (l : List Op) (k : Nat) : Option Int := leaveTo none ((l.take k).map (resOf X m W))
theorem applyRow_app (X m : Nat → Int) : ∀ (a b : List (Op × RRes)), applyRow X m (a ++ b) = applyRow (applyRow X m a).1 (applyRow X m a).2 b := by
  intro a
  induction a generalizing X m with
  | nil => intro b; rfl
  | cons p r ih => intro b; exact ih _ _ b
theorem leaveTo_app : ∀ (a b : List RRes) (c : Option Int), leaveTo c (a ++ b) = leaveTo (leaveTo c a) b
  | [], b, c => rfl
  | x :: a, b, c => leaveTo_app a b _
theorem take_succ_getD (l : List Op) (k : Nat) (h : k < l.length) : l.take (k + 1) = l.take k ++ [l.getD k nop] := by
  rw [List.take_succ_eq_append_getElem h, List.getD_eq_getElem?_getD, List.getElem?_eq_getElem h]
  rfl
theorem rowUp_step (X m : Nat → Int) (W : Int → Bool) (l : List Op) (k : Nat) (h : k < l.length) :
    rowUp X m W l (k + 1) = (applyX (rowUp X m W l k).1 (l.getD k nop) (resOf X m W (l.getD k nop)), applyM (rowUp X m W l k).2 (l.getD k nop) (resOf X m W (l.getD k nop))) := by
  unfold rowUp
  rw [take_succ_getD l k h, List.map_append, applyRow_app]
  rfl
theorem levUp_step (X m : Nat → Int) (W : Int → Bool) (l : List Op) (k : Nat) (h : k < l.length) :
    levUp X m W l (k + 1) = if (resOf X m W (l.getD k nop)).leave = true then some (resOf X m W (l.getD k nop)).addr else levUp X m W l k := by
  unfold levUp
  rw [take_succ_getD l k h, List.map_append, leaveTo_app]
  rfl
theorem runRows_trap {W : Int → Bool} {X m : Nat → Int} {l : List Op} {r : List (List Op)} {a : Int} (h : trapOf X m W l = some a) : runRows W X m (l :: r) = .trap a := by
  unfold runRows
  rw [h]
theorem runRows_on {W : Int → Bool} {X m : Nat → Int} {l : List Op} {r : List (List Op)} (h : trapOf X m W l = none) :
    runRows W X m (l :: r) = match levUp X m W l l.length with | some pc => .leave pc (rowUp X m W l l.length).1 (rowUp X m W l l.length).2 | none => runRows W (rowUp X m W l l.length).1 (rowUp X m W l l.length).2 r := by
  conv => lhs; unfold runRows
  rw [h]
  unfold levUp rowUp
  rw [List.take_length]
  rfl
/-- where a row leaves for, as an int: -1: it does not -/
def encL : Option Int → Int
  | none => -1
  | some a => a
end Ir
end Go.Proofs.YtgmbladcoikffaaGreatDoor
