
/- What folding wants: ranges of values, an op stored into a row of the call's own. No walk. -/
import Derived.Test.YtlmnmncdoiealaaGreatDoorValue
import Derived.Test.YtlmnmncdoiealaaGreatDoorLearn
import Derived.Test.YtlmnmncdoiealaaGreatDoorIsKnown
import Derived.Test.YtlmnmncdoiealaaGreatDoorOpsOwn
namespace Go.Proofs.YtlmnmncdoiealaaGreatDoor
open Go.RowKit Go.Deep
set_option linter.unusedVariables false
set_option linter.unusedSimpArgs false

theorem bits3_rng {a b : Int} (ha : 0 ≤ a ∧ a < 4294967296) (hb : 0 ≤ b ∧ b < 4294967296) : (0 ≤ bits .and .u32 a b ∧ bits .and .u32 a b < 4294967296) ∧ (0 ≤ bits .or .u32 a b ∧ bits .or .u32 a b < 4294967296) ∧ (0 ≤ bits .xor .u32 a b ∧ bits .xor .u32 a b < 4294967296) := by
  rw [u32_and a b ha.1 ha.2 hb.1 hb.2, u32_or a b ha.1 ha.2 hb.1 hb.2, u32_xor a b ha.1 ha.2 hb.1 hb.2]
  have h1 : a.toNat &&& b.toNat < 2 ^ 32 := Nat.and_lt_two_pow _ (by omega)
  have h2 : a.toNat ||| b.toNat < 2 ^ 32 := Nat.or_lt_two_pow (by omega) (by omega)
  have h3 : a.toNat ^^^ b.toNat < 2 ^ 32 := Nat.xor_lt_two_pow (by omega) (by omega)
  omega
theorem shift_rng {k a n : Int} (ha : 0 ≤ a ∧ a < 4294967296) : 0 ≤ Wd.shift k a n ∧ Wd.shift k a n < 4294967296 := by
  unfold Wd.shift
  split
  · unfold Wd.shl; omega
  split
  · unfold Wd.shr
    have h1 := (Wd.p2' (n % 32).toNat (by omega)).1
    generalize (2 : Int) ^ (n % 32).toNat = q at *
    refine ⟨Int.ediv_nonneg ha.1 (by omega), ?_⟩
    have := Int.ediv_le_self q ha.1
    omega
  split
  · unfold Wd.sar; omega
  · exact ha
theorem sumsV_rng (c : Nat) {a b : Int} (ha : 0 ≤ a ∧ a < 4294967296) (hb : 0 ≤ b ∧ b < 4294967296) : 0 ≤ Ir.sumsV c a b ∧ Ir.sumsV c a b < 4294967296 := by
  obtain ⟨h1, h2, h3⟩ := bits3_rng ha hb
  have h4 := (bits3_rng (a := 4294967295) (by omega) h2).2.2
  unfold Ir.sumsV
  split
  · omega
  · omega
  · exact h1
  · exact h2
  · exact h3
  · exact h4
  · exact shift_rng ha
  · exact shift_rng ha
  · exact shift_rng ha
  · unfold Wd.lo; omega
  · unfold Wd.hi; omega
  · unfold Wd.hi; omega
  · split <;> omega
  · split <;> omega
/-- facts that are words -/
def FactsU (f : Ir.Facts) : Prop := ∀ k v, f k = some v → 0 ≤ v ∧ v < 4294967296
theorem FactsU.fof {f : Ir.Facts} (h : FactsU f) (n : Int) : 0 ≤ (Ir.fof f n).getD 0 ∧ (Ir.fof f n).getD 0 < 4294967296 := by
  unfold Ir.fof
  split
  · decide
  · cases e : f n with
    | none => decide
    | some v => exact h n v e
theorem FactsU.learn {f : Ir.Facts} (h : FactsU f) {o : Ir.Op} (ho : OpOk o) : FactsU (Ir.learn f o) := by
  unfold Ir.learn
  split
  · exact h
  · intro k v hv
    simp only at hv
    split at hv
    · split at hv
      · injection hv with hv
        subst hv
        have := ho.imm
        unfold u32R at this
        omega
      · cases hv
    · exact h k v hv
theorem foldOp_ok {f : Ir.Facts} {o : Ir.Op} (h : FactsU f) (ho : OpOk o) : OpOk (Ir.foldOp f o) := by
  have h0 : i64R 0 := ⟨by decide, by decide⟩
  unfold Ir.foldOp
  split
  · rename_i hf
    refine ⟨ho.d, h0, h0, ?_, ho.at_⟩
    unfold Ir.foldable at hf
    simp only [Bool.and_eq_true, Bool.not_eq_true'] at hf
    have e : Ir.value (Ir.kn o.k) ((Ir.fof f o.a).getD 0) ((Ir.fof f o.b).getD 0) 0 = Ir.sumsV (Ir.kn o.k) ((Ir.fof f o.a).getD 0) ((Ir.fof f o.b).getD 0) := by
      unfold Ir.value
      rw [hf.1.1.2]
      rfl
    have := sumsV_rng (Ir.kn o.k) (h.fof o.a) (h.fof o.b)
    show u32R (Ir.value _ _ _ _)
    rw [e]
    unfold u32R
    omega
  · split
    · refine ⟨ho.d, h0, h0, ?_, ho.at_⟩
      have := h.fof o.a
      show u32R ((Ir.fof f o.a).getD 0)
      unfold u32R
      omega
    · exact ho
/-- every op is in range; a sum's second letter is a register -/
structure OpsOk (l : List Ir.Op) : Prop where
  ok : ∀ o ∈ l, OpOk o
  reg : ∀ o ∈ l, Ir.isSum (Ir.kn o.k) = true → 0 ≤ o.b ∧ o.b < 64
theorem getD_mem {l : List Ir.Op} {i : Nat} (hi : i < l.length) : l.getD i Ir.nop ∈ l := by
  rw [List.getD_eq_getElem?_getD, List.getElem?_eq_getElem hi]
  exact List.getElem_mem hi
/-- so far folded -/
def foldTo (l : List Ir.Op) (i : Nat) : List Ir.Op := (Ir.fold l).take i ++ l.drop i
theorem foldTo_zero (l : List Ir.Op) : foldTo l 0 = l := rfl
theorem foldTo_len (l : List Ir.Op) (i : Nat) (hi : i ≤ l.length) : (foldTo l i).length = l.length := by
  unfold foldTo
  rw [List.length_append, List.length_take, List.length_drop, Ir.fold_len]
  omega
theorem foldTo_all (l : List Ir.Op) : foldTo l l.length = Ir.fold l := by
  unfold foldTo
  rw [List.drop_length, List.append_nil, ← Ir.fold_len, List.take_length]
theorem foldTo_at (l : List Ir.Op) (i : Nat) (hi : i < l.length) : (foldTo l i).getD i Ir.nop = l.getD i Ir.nop := by
  unfold foldTo
  have h1 : ((Ir.fold l).take i).length = i := by rw [List.length_take, Ir.fold_len]; omega
  rw [List.getD_eq_getElem?_getD, List.getElem?_append_right (by omega), h1, Nat.sub_self, List.getElem?_drop, Nat.add_zero, ← List.getD_eq_getElem?_getD]
theorem foldTo_step (l : List Ir.Op) (i : Nat) (hi : i < l.length) : foldTo l (i + 1) = (foldTo l i).set i (Ir.foldOp (Ir.factsOf ((Ir.fold l).take i)) (l.getD i Ir.nop)) := by
  have h1 : ((Ir.fold l).take i).length = i := by rw [List.length_take, Ir.fold_len]; omega
  rw [← Ir.fold_at l i hi]
  unfold foldTo
  rw [List.set_append_right _ _ (by omega), h1, Nat.sub_self]
  have e1 : (Ir.fold l).take (i + 1) = (Ir.fold l).take i ++ [(Ir.fold l).getD i Ir.nop] := by
    have hf : i < (Ir.fold l).length := by rw [Ir.fold_len]; exact hi
    rw [List.take_succ_eq_append_getElem hf]
    congr 1
    rw [List.getD_eq_getElem?_getD, List.getElem?_eq_getElem hf]
    rfl
  have e2 : (l.drop i).set 0 ((Ir.fold l).getD i Ir.nop) = (Ir.fold l).getD i Ir.nop :: l.drop (i + 1) := by
    rw [List.drop_eq_getElem_cons hi]
    rfl
  rw [e1, e2, List.append_assoc]
  rfl
theorem facts_foldTo (l : List Ir.Op) (i : Nat) (hi : i < l.length) : Ir.factsOf ((Ir.fold l).take (i + 1)) = Ir.learn (Ir.factsOf ((Ir.fold l).take i)) (Ir.foldOp (Ir.factsOf ((Ir.fold l).take i)) (l.getD i Ir.nop)) := by
  rw [facts_stepk (Ir.fold l) i (by rw [Ir.fold_len]; exact hi), Ir.fold_at l i hi]
theorem facts_u (l : List Ir.Op) (h : OpsOk l) : ∀ i, i ≤ l.length → FactsU (Ir.factsOf ((Ir.fold l).take i))
  | 0, _ => fun k v hv => by cases hv
  | i + 1, hi => by
    have h1 := facts_u l h i (by omega)
    rw [facts_foldTo l i (by omega)]
    exact h1.learn (foldOp_ok h1 (h.ok _ (getD_mem (by omega))))
/-- AN OP STORED into a row of the call's own -/
theorem owns_set {w : World} {base g n cap : Nat} {l : List Ir.Op} (h : w.ownsRow base 64 6 (.slice (some ⟨g, 0, none⟩) n cap) n (opsL l)) (hl : l.length = n) (i : Nat) (hi : i < n) (x : Ir.Op) (a : Nat) (ha : a = i * 6) :
    ((((((w.setCell ⟨g, a, none⟩ (.string x.k)).setCell ⟨g, a + 1, none⟩ (.int .i64 x.d)).setCell ⟨g, a + 2, none⟩ (.int .i64 x.a)).setCell ⟨g, a + 3, none⟩ (.int .i64 x.b)).setCell ⟨g, a + 4, none⟩ (.int .u32 x.imm)).setCell ⟨g, a + 5, none⟩ (.int .i64 x.at_)).ownsRow base 64 6 (.slice (some ⟨g, 0, none⟩) n cap) n (opsL (l.set i x)) ∧
      Keeps (· = g) w ((((((w.setCell ⟨g, a, none⟩ (.string x.k)).setCell ⟨g, a + 1, none⟩ (.int .i64 x.d)).setCell ⟨g, a + 2, none⟩ (.int .i64 x.a)).setCell ⟨g, a + 3, none⟩ (.int .i64 x.b)).setCell ⟨g, a + 4, none⟩ (.int .u32 x.imm)).setCell ⟨g, a + 5, none⟩ (.int .i64 x.at_)) := by
  subst ha
  refine ⟨?_, Keeps.trans (Keeps.trans (Keeps.trans (Keeps.trans (Keeps.trans (Keeps.one _ _ _ _) (Keeps.one _ _ _ _) (fun _ _ h => h)) (Keeps.one _ _ _ _) (fun _ _ h => h)) (Keeps.one _ _ _ _) (fun _ _ h => h)) (Keeps.one _ _ _ _) (fun _ _ h => h)) (Keeps.one _ _ _ _) (fun _ _ h => h)⟩
  obtain ⟨h1, ⟨h2, _⟩ | ⟨g', cap', cur, h2, h3, h4, h5, h6, h7, h8⟩⟩ := h
  · cases h2
  injection h2 with e1 e2 e3
  injection e1 with e1
  injection e1 with e1
  subst e1 e3
  refine ⟨by rw [opsL_len, List.length_set, hl], .inr ⟨g, cap, _, rfl, h3, set_block (set_block (set_block (set_block (set_block (set_block h4 (i * 6) (.string x.k)) (i * 6 + 1) (.int .i64 x.d)) (i * 6 + 2) (.int .i64 x.a)) (i * 6 + 3) (.int .i64 x.b)) (i * 6 + 4) (.int .u32 x.imm)) (i * 6 + 5) (.int .i64 x.at_), h5, h6, by simpa using h7, ?_⟩⟩
  have hb : i * 6 + 5 < cur.size := by rw [h7]; omega
  refine List.ext_getElem? fun j => ?_
  by_cases hj : j < n * 6
  · rw [List.getElem?_take_of_lt hj]
    have hq : j / 6 < n := by omega
    have e := opsL_get (l.set i x) (j / 6) (j % 6) (by rw [List.length_set]; omega) (by omega)
    rw [show j / 6 * 6 + j % 6 = j by omega] at e
    have e0 := opsL_get l (j / 6) (j % 6) (by omega) (by omega)
    rw [show j / 6 * 6 + j % 6 = j by omega, ← h8, List.getElem?_take_of_lt hj] at e0
    rw [e]
    simp only [Array.getElem?_toList, Array.getElem?_setIfInBounds] at e0 ⊢
    by_cases hji : j / 6 = i
    · have hx : (l.set i x).getD (j / 6) Ir.nop = x := by
        rw [hji, List.getD_eq_getElem?_getD, List.getElem?_set_self (by omega)]
        rfl
      rw [hx]
      have hr : j % 6 = 0 ∨ j % 6 = 1 ∨ j % 6 = 2 ∨ j % 6 = 3 ∨ j % 6 = 4 ∨ j % 6 = 5 := by omega
      rcases hr with hr | hr | hr | hr | hr | hr <;> rw [hr]
      · obtain rfl : j = i * 6 := by omega
        simp [opC, show i * 6 < cur.size by omega]
      · obtain rfl : j = i * 6 + 1 := by omega
        simp [opC, show i * 6 + 1 < cur.size by omega]
      · obtain rfl : j = i * 6 + 2 := by omega
        simp [opC, show i * 6 + 2 < cur.size by omega]
      · obtain rfl : j = i * 6 + 3 := by omega
        simp [opC, show i * 6 + 3 < cur.size by omega]
      · obtain rfl : j = i * 6 + 4 := by omega
        simp [opC, show i * 6 + 4 < cur.size by omega]
      · obtain rfl : j = i * 6 + 5 := by omega
        simp [opC, hb]
    · have hx : (l.set i x).getD (j / 6) Ir.nop = l.getD (j / 6) Ir.nop := by
        rw [List.getD_eq_getElem?_getD, List.getElem?_set_ne (fun h => hji h.symm), ← List.getD_eq_getElem?_getD]
      rw [hx]
      simp [show i * 6 ≠ j by omega, show i * 6 + 1 ≠ j by omega, show i * 6 + 2 ≠ j by omega, show i * 6 + 3 ≠ j by omega, show i * 6 + 4 ≠ j by omega, show i * 6 + 5 ≠ j by omega]
      exact e0
  · rw [List.getElem?_eq_none (by rw [List.length_take]; omega), List.getElem?_eq_none (by rw [opsL_len, List.length_set]; omega)]
/-- a row of the call's own: one op of it, to be read and to be overwritten -/
theorem owns_get {w : World} {base g n cap : Nat} {l : List Ir.Op} (h : w.ownsRow base 64 6 (.slice (some ⟨g, 0, none⟩) n cap) n (opsL l)) (hl : l.length = n) (i : Nat) (hi : i < n) (a : Nat) (ha : a = i * 6) :
    OpLies w g a (l.getD i Ir.nop) ∧ ∀ q, w.frozen? ⟨g, q, none⟩ = false := by
  subst ha
  constructor
  · obtain ⟨b, o, e, hc⟩ := (OpsAt.of_owns h hl).get hi
    injection e with e
    injection e with e1 e2
    subst e1 e2
    rw [Nat.zero_add] at hc
    exact hc
  · obtain ⟨_, ⟨h2, _⟩ | ⟨g', cap', cur, h2, h3, h4, _⟩⟩ := h
    · cases h2
    injection h2 with e1 e2 e3
    injection e1 with e1
    injection e1 with e1
    subst e1
    intro q
    simp [World.frozen?, h4]
end Go.Proofs.YtlmnmncdoiealaaGreatDoor
