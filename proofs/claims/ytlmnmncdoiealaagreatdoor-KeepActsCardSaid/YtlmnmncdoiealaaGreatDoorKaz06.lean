import Derived.Test.YtlmnmncdoiealaaGreatDoorKaz05
import Derived.Test.YtlmnmncdoiealaaGreatDoorKaz03
import Derived.Test.YtlmnmncdoiealaaGreatDoorKaz04
import Derived.Test.YtlmnmncdoiealaaGreatDoorOpsOwn
import Derived.Test.YtlmnmncdoiealaaGreatDoorKaz01

/- Mach7 -/
/- The walk of a machine's Leave. -/
namespace Go.Proofs.YtlmnmncdoiealaaGreatDoor
open Go.RowKit Go.Deep
set_option linter.unusedVariables false
set_option linter.unusedSimpArgs false

theorem stL_lenD (s : Cp.St) : (stL s).length = 43 := by simp [stL, regs, restC]
def stF (s : Cp.St) (k : Nat) : Value := (stL s).getD k undef
theorem stF_reg (s : Cp.St) (k : Nat) (hk : k < 32) : stF s k = .int .u32 (s.R k) := by
  unfold stF stL
  rw [List.getD_eq_getElem?_getD, List.getElem?_append_left (by rw [regs_len]; exact hk)]
  simp [regs, hk]
theorem stF_rest (s : Cp.St) (i : Nat) : stF s (32 + i) = (restC s).getD i undef := by
  unfold stF stL
  rw [List.getD_eq_getElem?_getD, List.getElem?_append_right (by rw [regs_len]; omega), regs_len, show 32 + i - 32 = i by omega, List.getD_eq_getElem?_getD]
/-- a state as a machine left it -/
def Ir.leaveSt (s : Cp.St) (c : Ir.Mc) (pc many : Int) : Cp.St := { s with R := c.X, hi := c.X 32, lo := c.X 33, pc := pc, next := (pc + 4) % 4294967296, count := s.count + many }
end Go.Proofs.YtlmnmncdoiealaaGreatDoor

/- RowsAt -/
/- Rows of ops that are read; results in a row of the call's own; what a row's results are, plainly. -/
namespace Go.Proofs.YtlmnmncdoiealaaGreatDoor
open Go.RowKit Go.Deep
set_option linter.unusedVariables false
set_option linter.unusedSimpArgs false

/-- ROWS OF OPS that are read -/
structure RowsAt (w : World) (A : Option Addr) (n cap : Nat) (rows : List (List Ir.Op)) : Prop where
  len : rows.length = n
  le : n ≤ cap
  lies : cap = 0 ∨ ∃ b o, A = some ⟨b, o, none⟩ ∧ b < w.heap.size ∧ ∀ i, i < n → ∃ Ai ci, w.cell? ⟨b, o + i, none⟩ = some (.slice Ai (rows.getD i []).length ci) ∧ OpsAt w Ai (rows.getD i []).length ci (rows.getD i []) ∧ ci ≤ 9223372036854775807
theorem RowsAt.quiet {w w' : World} {A : Option Addr} {n cap : Nat} {rows : List (List Ir.Op)} (h : RowsAt w A n cap rows) (k : Keeps (fun _ => False) w w') : RowsAt w' A n cap rows := by
  obtain ⟨h1, h2, h3 | ⟨b, o, h4, h5, h6⟩⟩ := h
  · exact ⟨h1, h2, .inl h3⟩
  · refine ⟨h1, h2, .inr ⟨b, o, h4, Nat.lt_of_lt_of_le h5 k.size, fun i hi => ?_⟩⟩
    obtain ⟨Ai, ci, e1, e2, e3⟩ := h6 i hi
    exact ⟨Ai, ci, k.cell' e1 (fun f => f), e2.quiet k, e3⟩
theorem RowsAt.get {w : World} {A : Option Addr} {n cap : Nat} {rows : List (List Ir.Op)} (h : RowsAt w A n cap rows) {i : Nat} (hi : i < n) :
    ∃ b o Ai ci, A = some ⟨b, o, none⟩ ∧ w.cell? ⟨b, o + i, none⟩ = some (.slice Ai (rows.getD i []).length ci) ∧ OpsAt w Ai (rows.getD i []).length ci (rows.getD i []) ∧ ci ≤ 9223372036854775807 := by
  obtain ⟨h1, h2, h3 | ⟨b, o, h4, h5, h6⟩⟩ := h
  · omega
  · obtain ⟨Ai, ci, e1, e2, e3⟩ := h6 i hi
    exact ⟨b, o, Ai, ci, h4, e1, e2, e3⟩
/-- cells of results -/
def resL (l : List Ir.RRes) : List Value := l.flatMap (fun r => (resC r).toList)
theorem resL_len (l : List Ir.RRes) : (resL l).length = l.length * 4 := by
  induction l with
  | nil => rfl
  | cons o r ih =>
    have : resL (o :: r) = (resC o).toList ++ resL r := rfl
    rw [this, List.length_append, ih, List.length_cons]
    show 4 + _ = _
    omega
def nores : Ir.RRes := ⟨0, 0, false, false⟩
theorem resL_get (l : List Ir.RRes) : ∀ i q, i < l.length → q < 4 → (resL l)[i * 4 + q]? = (resC (l.getD i nores))[q]? := by
  induction l with
  | nil => intro i q h; simp at h
  | cons o r ih =>
    intro i q h hq
    have e : resL (o :: r) = (resC o).toList ++ resL r := rfl
    rw [e]
    cases i with
    | zero =>
      rw [List.getElem?_append_left (by show _ < 4; omega)]
      simp
    | succ i =>
      rw [List.getElem?_append_right (by show 4 ≤ _; omega)]
      show (resL r)[(i + 1) * 4 + q - 4]? = _
      rw [show (i + 1) * 4 + q - 4 = i * 4 + q by omega, ih i q (by simpa using h) hq]
      rfl
theorem resL_snoc (l : List Ir.RRes) (r : Ir.RRes) : resL (l ++ [r]) = resL l ++ (resC r).toList := by
  unfold resL
  rw [List.flatMap_append]
  simp
/-- a row of results in block g -/
structure ResRow (w : World) (g : Nat) (l : List Ir.RRes) : Prop where
  v : ∀ i, i < l.length → w.cell? ⟨g, i * 4, none⟩ = some (.int .u32 (l.getD i nores).v)
  addr : ∀ i, i < l.length → w.cell? ⟨g, i * 4 + 1, none⟩ = some (.int .u32 (l.getD i nores).addr)
  leave : ∀ i, i < l.length → w.cell? ⟨g, i * 4 + 3, none⟩ = some (.bool (l.getD i nores).leave)
theorem ResRow.keep {S : Nat → Prop} {w w' : World} {g : Nat} {l : List Ir.RRes} (h : ResRow w g l) (k : Keeps S w w') (hs : ¬ S g) : ResRow w' g l :=
  ⟨fun i hi => k.cell' (h.v i hi) hs, fun i hi => k.cell' (h.addr i hi) hs, fun i hi => k.cell' (h.leave i hi) hs⟩
theorem regL_len (X : Nat → Int) : (regL X).length = 64 := by simp [regL]
theorem range_keepR {w w' : World} {b : Nat} {cs : List Value} (h : w.rangeAt b 0 cs) (k : Keeps (fun _ => False) w w') : w'.rangeAt b 0 cs := fun j v hv => k.cell' (h j v hv) (fun f => f)
namespace Ir
/-- ranges of a result -/
theorem res_rng {X m : Nat → Int} {W : Int → Bool} {o : Op} (hX : ∀ k, k < 64 → 0 ≤ X k ∧ X k < 4294967296) (hm : ∀ j, j < 16384 → 0 ≤ m j ∧ m j < 256) (hi : OpIn o) :
    (0 ≤ (resOf X m W o).v ∧ (resOf X m W o).v < 4294967296) ∧ (0 ≤ (resOf X m W o).addr ∧ (resOf X m W o).addr < 4294967296) := by
  have hle := kn_le o.k
  have hk := hi.k
  have ha : 0 ≤ rg X o.a ∧ rg X o.a < 4294967296 := hX _ (by have := hi.a; omega)
  have hz : (0 : Int) ≤ 0 ∧ (0 : Int) < 4294967296 := by omega
  have hadr : 0 ≤ adr (rg X o.a) o.imm ∧ adr (rg X o.a) o.imm < 4294967296 := by unfold adr; omega
  unfold resOf
  split
  · exact ⟨hi.imm, hz⟩
  split
  · exact ⟨ha, hz⟩
  split
  · exact ⟨hz, hz⟩
  split
  · split
    · rename_i h5 hr
      have := loadV_rng hm [] (b := o.b) hadr.1 hr
      exact ⟨this, hz⟩
    · exact ⟨hz, hz⟩
  split
  · split
    · rename_i h6 _
      exact ⟨hX _ (by have := hi.b (by omega); omega), hadr⟩
    · exact ⟨hz, hz⟩
  split
  · exact ⟨hz, hi.imm⟩
  split
  · exact ⟨hz, hi.imm⟩
  split
  · exact ⟨hz, ha⟩
  · refine ⟨value_rng _ ha (hX _ (by have := hi.b (by omega); omega)) (hX _ (by have := hi.d (by omega); omega)), hz⟩
/-- a store that does not trap is right -/
theorem res_store {X m : Nat → Int} {W : Int → Bool} {o : Op} (h6 : kn o.k = 6) (ht : (resOf X m W o).trap = false) : rightC (resOf X m W o).addr o.d = 0 ∧ W ((resOf X m W o).addr / 256) = false := by
  unfold resOf at ht ⊢
  simp only [h6] at ht ⊢
  by_cases hr : rightC (adr (rg X o.a) o.imm) o.d = 0
  · simp [hr] at ht ⊢
    exact ht
  · simp [hr] at ht
theorem trapOf_at {X m : Nat → Int} {W : Int → Bool} : ∀ (l : List Op) (k : Nat), k < l.length → (∀ j, j < k → (resOf X m W (l.getD j nop)).trap = false) → (resOf X m W (l.getD k nop)).trap = true → trapOf X m W l = some (l.getD k nop).at_
  | [], k, h, _, _ => by simp at h
  | o :: r, 0, _, _, ht => by
    have ht2 : (resOf X m W o).trap = true := ht
    unfold trapOf
    rw [if_pos ht2]
    rfl
  | o :: r, k + 1, h, hj, ht => by
    unfold trapOf
    rw [if_neg (by have := hj 0 (by omega); simp at this; rw [this]; decide)]
    exact trapOf_at r k (by simpa using h) (fun j hj' => hj (j + 1) (by omega)) ht
theorem trapOf_none {X m : Nat → Int} {W : Int → Bool} : ∀ (l : List Op), (∀ j, j < l.length → (resOf X m W (l.getD j nop)).trap = false) → trapOf X m W l = none
  | [], _ => rfl
  | o :: r, h => by
    unfold trapOf
    rw [if_neg (by have := h 0 (by simp); simp at this; rw [this]; decide)]
    exact trapOf_none r (fun j hj => h (j + 1) (by simpa using hj))
/-- a row so far applied -/
def rowUp (X m : Nat → Int) (W : Int → Bool) (l : List Op) (k : Nat) : (Nat → Int) × (Nat → Int) := applyRow X m ((l.take k).map fun o => (o, resOf X m W o))
def levUp (X m : Nat → Int) (W : Int → Bool) (l : List Op) (k : Nat) : Option Int := leaveTo none ((l.take k).map (resOf X m W))
theorem applyRow_app (X m : Nat → Int) : ∀ (a b : List (Op × RRes)), applyRow X m (a ++ b) = applyRow (applyRow X m a).1 (applyRow X m a).2 b := by
  intro a
  induction a generalizing X m with
  | nil => intro b; rfl
  | cons p r ih => intro b; exact ih _ _ b
theorem leaveTo_app : ∀ (a b : List RRes) (c : Option Int), leaveTo c (a ++ b) = leaveTo (leaveTo c a) b
  | [], b, c => rfl
  | x :: a, b, c => leaveTo_app a b _
theorem take_succ_getD (l : List Op) (k : Nat) (h : k < l.length) : l.take (k + 1) = l.take k ++ [l.getD k nop] := by
  rw [List.take_succ_eq_append_getElem h, List.getD_eq_getElem?_getD, List.getElem?_eq_getElem h]
  rfl
theorem rowUp_step (X m : Nat → Int) (W : Int → Bool) (l : List Op) (k : Nat) (h : k < l.length) :
    rowUp X m W l (k + 1) = (applyX (rowUp X m W l k).1 (l.getD k nop) (resOf X m W (l.getD k nop)), applyM (rowUp X m W l k).2 (l.getD k nop) (resOf X m W (l.getD k nop))) := by
  unfold rowUp
  rw [take_succ_getD l k h, List.map_append, applyRow_app]
  rfl
theorem levUp_step (X m : Nat → Int) (W : Int → Bool) (l : List Op) (k : Nat) (h : k < l.length) :
    levUp X m W l (k + 1) = if (resOf X m W (l.getD k nop)).leave = true then some (resOf X m W (l.getD k nop)).addr else levUp X m W l k := by
  unfold levUp
  rw [take_succ_getD l k h, List.map_append, leaveTo_app]
  rfl
theorem runRows_trap {W : Int → Bool} {X m : Nat → Int} {l : List Op} {r : List (List Op)} {a : Int} (h : trapOf X m W l = some a) : runRows W X m (l :: r) = .trap a := by
  unfold runRows
  rw [h]
theorem runRows_on {W : Int → Bool} {X m : Nat → Int} {l : List Op} {r : List (List Op)} (h : trapOf X m W l = none) :
    runRows W X m (l :: r) = match levUp X m W l l.length with | some pc => .leave pc (rowUp X m W l l.length).1 (rowUp X m W l l.length).2 | none => runRows W (rowUp X m W l l.length).1 (rowUp X m W l l.length).2 r := by
  conv => lhs; unfold runRows
  rw [h]
  unfold levUp rowUp
  rw [List.take_length]
  rfl
/-- where a row leaves for, as an int: -1: it does not -/
def encL : Option Int → Int
  | none => -1
  | some a => a
end Ir
end Go.Proofs.YtlmnmncdoiealaaGreatDoor

/- OwnRows -/
/- Rows of ops of the call's own, rows within a row; the walk of the law's OwnRows. -/
namespace Go.Proofs.YtlmnmncdoiealaaGreatDoor
open Go.RowKit Go.Deep
set_option linter.unusedVariables false
set_option linter.unusedSimpArgs false

theorem Tryz.info_rowO : (Tryz.prog.info? 40).map (fun i => (i.zero, i.size, i.bytes)) = some (some (.slice none 0 0), 1, 24) := by kernel_rfl
theorem OpsOwn.keepS {S : Nat → Prop} {w w' : World} {B : Nat} {l : List Ir.Op} {v : Value} (h : OpsOwn w B l v) (k : Keeps S w w') (hs : ∀ g, v.ownBlock = some g → ¬ S g) : OpsOwn w' B l v := by
  obtain ⟨A, cap, rfl, ho⟩ := h
  exact ⟨A, cap, rfl, owns_keep ho k hs⟩
theorem OpsOwn.base {w : World} {B B' : Nat} {l : List Ir.Op} {v : Value} (h : OpsOwn w B l v) (hb : B' ≤ B) : OpsOwn w B' l v := by
  obtain ⟨A, cap, rfl, h1, h2⟩ := h
  refine ⟨A, cap, rfl, h1, ?_⟩
  rcases h2 with h | ⟨g, cap, cur, h1, h2, h3⟩
  · exact .inl h
  · exact .inr ⟨g, cap, cur, h1, Nat.le_trans hb h2, h3⟩
/-- a row's block bears its element's type -/
theorem owns_typed {w : World} {B : Nat} {e : TypeId} {size : Nat} {v : Value} {n : Nat} {xs : List Value} (h : w.ownsRow B e size v n xs) {g : Nat} (hg : v.ownBlock = some g) : ∃ cur, w.heap[g]? = some (.cells cur e (0, 0)) := by
  obtain ⟨_, ⟨h4, _⟩ | ⟨g2, cap, cur, h4, h5, h6, _⟩⟩ := h
  · rw [h4] at hg; cases hg
  · rw [h4] at hg
    injection hg with hg
    subst hg
    exact ⟨cur, h6⟩
theorem owns_apart {w : World} {B C : Nat} {e f : TypeId} {s1 s2 : Nat} {v u : Value} {n m : Nat} {xs ys : List Value} (h : w.ownsRow B e s1 v n xs) (k : w.ownsRow C f s2 u m ys) (hne : e ≠ f) : ∀ g, v.ownBlock = some g → ¬ u.ownBlock = some g := fun g h1 h2 => by
  obtain ⟨c1, e1⟩ := owns_typed h h1
  obtain ⟨c2, e2⟩ := owns_typed k h2
  rw [e1] at e2
  injection e2 with e2
  injection e2 with _ e2
  exact hne e2
/-- rows of ops, each of the call's own -/
def RowsOwn (w : World) (B : Nat) (v : Value) (rows : List (List Ir.Op)) : Prop :=
  ∃ vs : List Value, vs.length = rows.length ∧ w.ownsRow B 40 1 v rows.length vs ∧ ∀ j, j < rows.length → OpsOwn w B (rows.getD j []) (vs.getD j (.slice none 0 0))
theorem RowsOwn.quiet {w w' : World} {B : Nat} {v : Value} {rows : List (List Ir.Op)} (h : RowsOwn w B v rows) (k : Keeps (fun _ => False) w w') : RowsOwn w' B v rows := by
  obtain ⟨vs, h1, h2, h3⟩ := h
  exact ⟨vs, h1, owns_keep h2 k (fun _ _ h => h), fun j hj => (h3 j hj).keepS k (fun _ _ h => h)⟩
theorem RowsOwn.nil (w : World) (B : Nat) : RowsOwn w B (.slice none 0 0) [] := ⟨[], rfl, World.ownsRow_nil _ _ _ _, fun j hj => absurd hj (by simp)⟩
theorem op_ne_row : 64 ≠ 40 := by decide
/-- one more -/
theorem RowsOwn.step {w2 w3 : World} {B : Nat} {v v' u : Value} {rows : List (List Ir.Op)} {l : List Ir.Op} {vs : List Value} (h1 : vs.length = rows.length) (h2 : w2.ownsRow B 40 1 v rows.length vs) (h3 : ∀ j, j < rows.length → OpsOwn w2 B (rows.getD j []) (vs.getD j (.slice none 0 0)))
    (hg : OpsOwn w2 B l u) (hk : Keeps (fun k => v.ownBlock = some k) w2 w3) (hown : w3.ownsRow B 40 1 v' (rows.length + 1) (vs ++ [u])) : RowsOwn w3 B v' (rows ++ [l]) := by
  have hkeep : ∀ l u, OpsOwn w2 B l u → OpsOwn w3 B l u := fun l u h => by
    obtain ⟨A, cap, rfl, ho⟩ := h
    exact ⟨A, cap, rfl, owns_keep ho hk (owns_apart ho h2 op_ne_row)⟩
  refine ⟨vs ++ [u], by simp [h1], ?_, fun j hj => ?_⟩
  · rw [List.length_append, List.length_singleton]
    exact hown
  · rw [List.length_append, List.length_singleton] at hj
    by_cases e : j < rows.length
    · have a1 : (vs ++ [u]).getD j (.slice none 0 0) = vs.getD j (.slice none 0 0) := by simp [List.getD_eq_getElem?_getD, List.getElem?_append_left (show j < vs.length by omega)]
      have a2 : (rows ++ [l]).getD j [] = rows.getD j [] := by simp [List.getD_eq_getElem?_getD, List.getElem?_append_left e]
      rw [a1, a2]
      exact hkeep _ _ (h3 j e)
    · obtain rfl : j = rows.length := by omega
      have a1 : (vs ++ [u]).getD rows.length (.slice none 0 0) = u := by rw [← h1]; simp [List.getD_eq_getElem?_getD]
      have a2 : (rows ++ [l]).getD rows.length [] = l := by simp [List.getD_eq_getElem?_getD]
      rw [a1, a2]
      exact hkeep _ _ hg
theorem owns_cell {w : World} {B : Nat} {e : TypeId} {v : Value} {n : Nat} {xs : List Value} (h : w.ownsRow B e 1 v n xs) {g : Nat} (hg : v.ownBlock = some g) {i : Nat} (hi : i < n) (d : Value) : w.cell? ⟨g, i, none⟩ = some (xs.getD i d) := by
  have hl := h.1
  have := h.cells hg i (xs.getD i d) (by rw [List.getD_eq_getElem?_getD, List.getElem?_eq_getElem (by omega)]; rfl)
  rw [Addr.add_lit] at this
  simpa using this
theorem RowsOwn.rows {w : World} {B : Nat} {v : Value} {rows : List (List Ir.Op)} (h : RowsOwn w B v rows) : ∃ A cap, v = .slice A rows.length cap ∧ cap ≤ 9223372036854775807 ∧ RowsAt w A rows.length cap rows := by
  obtain ⟨vs, h1, h2, h3⟩ := h
  obtain ⟨A, cap, rfl⟩ := owns_slice h2
  refine ⟨A, cap, rfl, owns_cap h2, ?_⟩
  have h2' := h2
  obtain ⟨hlen, ⟨h4, h5⟩ | ⟨g, cap', cur, h4, h5, h6, h7, h8, h9, h10⟩⟩ := h2
  · injection h4 with e1 e2 e3
    exact ⟨rfl, by omega, .inl e3⟩
  · injection h4 with e1 e2 e3
    subst e1 e3
    refine ⟨rfl, h7, .inr ⟨g, 0, rfl, (Array.getElem?_eq_some_iff.1 h6).1, fun i hi => ?_⟩⟩
    obtain ⟨Ai, ci, e1, e2⟩ := (h3 i hi)
    have hc := owns_cell h2' (g := g) rfl hi (.slice none 0 0)
    rw [e1] at hc e2
    rw [Nat.zero_add]
    exact ⟨Ai, ci, hc, OpsAt.of_owns e2 rfl, owns_cap e2⟩
set_option maxHeartbeats 4000000 in
set_option maxRecDepth 100000 in
theorem ownRows_any (A : Option Addr) (n cap : Nat) (rows : List (List Ir.Op)) (w : World) (V : RowsAt w A n cap rows) (hc : cap ≤ 9223372036854775807) (hn : n < 1000000) (hr : ∀ i, i < n → (rows.getD i []).length < 1000000) :
    Calls Tryz.prog 11 #[.slice A n cap] w fun e w' => ∃ v, e = .returned v ∧ RowsOwn w' w.heap.size v rows ∧ Keeps (fun _ => False) w w' := by
  obtain ⟨i0, hinf, hz0, hz1, hz2⟩ := info_parts Tryz.info_rowO
  have HV := Lib.hid V
  have HL := Lib.hid V.len
  have HR := Lib.hid hr
  have hnc := V.le
  have HK0 := Lib.hid (Keeps.refl (fun _ => False) w)
  obtain ⟨B, hB⟩ : ∃ B, w.heap.size = B := ⟨_, rfl⟩
  rw [hB]
  have HBE := Lib.hid hB
  clear V hB hr
  go_enter Tryz.func11, Tryz.ntmps11
  go_wp2_with fail
  go_loopw [3, 4] (fun s1 s2 wr => ∃ i : Nat, i ≤ n ∧ s2 = .int .i64 i ∧ RowsOwn wr B s1 (rows.take i) ∧ Keeps (fun _ => False) w wr) (fun _ s2 _ => n - (intOf s2).toNat)
  case atStart => exact ⟨0, by omega, rfl, by rw [List.take_zero]; exact RowsOwn.nil _ _, HK0.out⟩
  case round =>
    obtain ⟨i, hi, rfl, hE, hK⟩ := hrel
    have HE := Lib.hid hE
    have HK := Lib.hid hK
    clear hE hK
    by_cases hlt : i < n
    · obtain ⟨ob, oo, Ai, ci, rfl, e0, e1, e2⟩ := (HV.out.quiet HK.out).get hlt
      have hil : i < rows.length := by rw [HL.out]; exact hlt
      have HTS := Lib.hid (show rows.take (i + 1) = rows.take i ++ [rows.getD i []] by
        rw [List.take_succ_eq_append_getElem hil]
        simp [List.getD, hil])
      have hlen : (rows.take i).length = i := by rw [List.length_take, Nat.min_eq_left (Nat.le_of_lt hil)]
      have hri := HR.out i hlt
      obtain ⟨l, hl⟩ : ∃ l, rows.getD i [] = l := ⟨_, rfl⟩
      rw [hl] at e0 e1 HTS hri
      clear hl
      have HOO := Lib.hid (fun w V => ownOps_any Ai l.length ci l w V hri)
      have HE1 := Lib.hid e1
      have hi63 : (i : Int) < n := by omega
      clear e1 e2
      go_wp2_with fail
      refine (HOO.out _ HE1.out).mono ?_
      rintro e w2 ⟨u, rfl, hu, hk2⟩
      obtain ⟨Au, cu, hue, _⟩ := id hu
      obtain ⟨ul, hul⟩ : ∃ n, l.length = n := ⟨_, rfl⟩
      rw [hul] at hue
      subst hue
      have HUL := Lib.hid hul
      clear hul
      have HU := Lib.hid (hu.base (B' := B) (by rw [← HBE.out]; exact HK.out.size))
      have HK2 := Lib.hid (HK.out.trans hk2 (fun _ _ h => h))
      have HE2 := Lib.hid (HE.out.quiet hk2)
      clear hu hk2 e0 HE
      obtain ⟨vs, hg1, hg2, hg3⟩ := HE2.out
      rw [hlen] at hg2
      obtain ⟨A1, cap1, rfl⟩ := owns_slice hg2
      have HG3 := Lib.hid (show ∀ j, j < (rows.take i).length → OpsOwn (w2.alloc (.cells #[.slice Au ul cu] 40)) B ((rows.take i).getD j []) (vs.getD j (.slice none 0 0)) from fun j hj => (hg3 j hj).keepS ((Keeps.refl (fun _ => False) w2).alloc _) (fun _ _ h => h))
      have HG1 := Lib.hid hg1
      have HQ := Lib.hid (show (w2.alloc (.cells #[.slice Au ul cu] 40)).ownsRow B 40 1 (.slice A1 i cap1) i vs from hg2.alloc _)
      have HUU := Lib.hid (show OpsOwn (w2.alloc (.cells #[.slice Au ul cu] 40)) B l (.slice Au ul cu) from HU.out.keepS ((Keeps.refl (fun _ => False) w2).alloc _) (fun _ _ h => h))
      have HCN := Lib.hid (fun j x hj => cells_new w2 [.slice Au ul cu] 40 j x hj)
      have HONE : Hid (∀ x ∈ [Value.slice Au ul cu], x.oneCell' = true) := Lib.hid (by
        intro x hx
        simp only [List.mem_cons, List.not_mem_nil, or_false] at hx
        rw [hx]
        rfl)
      have HBS := Lib.hid (show B ≤ (w2.alloc (.cells #[.slice Au ul cu] 40)).heap.size by
        rw [nblk_alloc]
        have := HK2.out.size
        have := HBE.out
        omega)
      have hmx : i + 1 ≤ maxLen := by unfold maxLen; omega
      have HLL := Lib.hid (show vs.length = i * 1 by rw [hg1, hlen, Nat.mul_one])
      have HLN := Lib.hid hlen
      clear hg1 hg2 hg3 HE2 hlen
      go_wp2_with (at_builtin; go_loud (refine wpList_append_own _ rfl _ _ 35 rfl B 40 i0 _ 1 24 Tryz.underlying35 hinf hz0 hz1 hz2 rfl (by decide) (.slice A1 i cap1) i vs rfl HQ.out ⟨w2.heap.size, 0, none⟩ 1 1 [.slice Au ul cu] rfl rfl HCN.out HONE.out hmx (by omega) HBS.out ?c0))
      case c0 =>
        intro v' w3 hown hgrow hnil
        obtain ⟨A2, cap2, rfl⟩ := owns_slice hown
        have hk23 : Keeps (fun k => (Value.slice A1 i cap1).ownBlock = some k) (w2.alloc (.cells #[.slice Au ul cu] 40)) w3 := (Keeps.refl _ _).grown hgrow (fun g hg _ => hg)
        have HE3 := Lib.hid (show RowsOwn w3 B (.slice A2 (i + 1) cap2) (rows.take (i + 1)) from by
          rw [HTS.out]
          refine RowsOwn.step HG1.out (v := .slice A1 i cap1) ?_ HG3.out HUU.out hk23 ?_
          · rw [HLN.out]; exact HQ.out
          · rw [HLN.out]; exact hown)
        have hlq := HQ.out.lt
        have HK3 := Lib.hid (show Keeps (fun _ => False) w w3 from (HK2.out.alloc (.cells #[.slice Au ul cu] 40)).trans hk23 (fun b hb h => by
          have := (hlq b h).1
          have := HBE.out
          omega))
        clear hown hgrow hnil hk23 hlq
        go_wp2_with fail
        go_roundw
        case rel => exact ⟨i + 1, by omega, by go_num, HE3.out, HK3.out⟩
        case measure => simp [intOf]; omega
    · obtain rfl : i = n := by omega
      have HEE := Lib.hid (show RowsOwn wr B _ rows from by
        have := HE.out
        rwa [List.take_of_length_le (by rw [HL.out]; exact Nat.le_refl _)] at this)
      go_wp2_with fail
      go_ret
      exact ⟨_, rfl, HEE.out, HK.out⟩
end Go.Proofs.YtlmnmncdoiealaaGreatDoor
