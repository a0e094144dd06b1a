import Derived.Test.YtknhfobcejpmeaaGreatDoorSumsD
import Derived.Test.YtknhfobcejpmeaaGreatDoorHrz01
import Derived.Test.YtknhfobcejpmeaaGreatDoorHrz04
import Derived.Test.YtknhfobcejpmeaaGreatDoorStDefs
import Derived.Test.YtknhfobcejpmeaaGreatDoorHrz02
import Derived.Test.YtknhfobcejpmeaaGreatDoorHrz03

/- Value -/
/- The walks of ir.sums, ir.Value. -/
namespace Go.Proofs.YtknhfobcejpmeaaGreatDoor
open Go.RowKit Go.Deep
set_option linter.unusedVariables false
set_option linter.unusedSimpArgs false

set_option maxHeartbeats 8000000 in
set_option maxRecDepth 100000 in
theorem sums_any (k : ByteArray) (a b : Int) (w : World) (ha : 0 ≤ a ∧ a < 4294967296) (hb : 0 ≤ b ∧ b < 4294967296) :
    Calls Tryz.prog 171 #[.string k, .int .u32 a, .int .u32 b] w fun e w' => e = .returned (.int .u32 (Ir.sumsV (Ir.kn k) a b)) ∧ w' = w := by
  have HS := Lib.hid (fun q w => shift_any q a b w ha hb)
  have HM := Lib.hid (fun s w => mul_any a b s w ha hb)
  have HL := Lib.hid (fun s w => less_any a b s w ha hb)
  have hle := Ir.kn_le k
  have HK := fun c h => Ir.kinds k c h
  generalize Ir.kn k = c at *
  replace HK := HK c rfl
  obtain ⟨r, hr⟩ : ∃ r, Ir.sumsV c a b = r := ⟨_, rfl⟩
  rw [hr]
  have HR := Lib.hid hr
  clear hr ha hb
  have h : c = 0 ∨ c = 1 ∨ c = 2 ∨ c = 3 ∨ c = 4 ∨ c = 5 ∨ c = 6 ∨ c = 7 ∨ c = 8 ∨ c = 9 ∨ c = 10 ∨ c = 11 ∨ c = 12 ∨ c = 13 ∨ c = 14 ∨ c = 15 ∨ c = 16 ∨ c = 17 ∨ c = 18 ∨ c = 19 ∨ c = 20 ∨ c = 21 ∨ c = 22 ∨ c = 23 ∨ c = 24 ∨ c = 25 ∨ c = 26 ∨ c = 27 := by omega
  rcases h with rfl | rfl | rfl | rfl | rfl | rfl | rfl | rfl | rfl | rfl | rfl | rfl | rfl | rfl | rfl | rfl | rfl | rfl | rfl | rfl | rfl | rfl | rfl | rfl | rfl | rfl | rfl | rfl
  all_goals
    simp only [Nat.reduceBEq] at HK
    obtain ⟨k1, k2, k3, k4, k5, k6, k7, k8, k9, k10, k11, k12, k13, k14, k15, k16, k17, k18, k19, k20, k21, k22, k23, k24, k25, k26, k27⟩ := HK
    clear hle
    go_enter Tryz.func171, Tryz.ntmps171
    go_wp2_with (first
      | (go_at_call 180; refine (HS.out _ _).mono ?_; rintro e w' ⟨rfl, rfl⟩)
      | (go_at_call 181; refine (HM.out _ _).mono ?_; rintro e w' ⟨rfl, rfl⟩)
      | (go_at_call 182; refine (HL.out _ _).mono ?_; rintro e w' ⟨rfl, rfl⟩))
    all_goals (
      go_ret
      first
        | exact ⟨by rw [← HR.out]; rfl, rfl⟩
        | (rename_i hlt; exact ⟨by rw [← HR.out]; simp [Ir.sumsV, hlt], rfl⟩)
        | (trace_state; fail))
theorem value_c (c : Nat) (a b d : Int) : Ir.value c a b d = if Ir.isDiv c = true then (if b = 0 then d else if (c == 24 || c == 26) = true then Wd.quo a b (c == 24 || c == 25) else Wd.rst a b (c == 24 || c == 25)) else Ir.sumsV c a b := by
  unfold Ir.value
  simp only [nat_beq, Bool.decide_or, Bool.or_eq_true, decide_eq_true_eq]
set_option maxHeartbeats 4000000 in
set_option maxRecDepth 100000 in
theorem value_any (k : ByteArray) (a b d : Int) (w : World) (ha : 0 ≤ a ∧ a < 4294967296) (hb : 0 ≤ b ∧ b < 4294967296) :
    Calls Tryz.prog 140 #[.string k, .int .u32 a, .int .u32 b, .int .u32 d] w fun e w' => e = .returned (.int .u32 (Ir.value (Ir.kn k) a b d)) ∧ Keeps (fun _ => False) w w' := by
  have HD := Lib.hid (fun w => div_any k w)
  have HS := Lib.hid (fun w => sums_any k a b w ha hb)
  have HW := Lib.hid (fun s w => wdiv_any a b s w ha hb)
  have h24 : (k.toList == [113, 117, 111]) = (Ir.kn k == 24) := Ir.eq_lit2 k 24 (by omega)
  have h25 : (k.toList == [114, 101, 109]) = (Ir.kn k == 25) := Ir.eq_lit2 k 25 (by omega)
  have h26 : (k.toList == [113, 117, 111, 117]) = (Ir.kn k == 26) := Ir.eq_lit2 k 26 (by omega)
  have hr := value_c (Ir.kn k) a b d
  obtain ⟨r, hr0⟩ : ∃ r, Ir.value (Ir.kn k) a b d = r := ⟨_, rfl⟩
  rw [hr0] at hr ⊢
  clear hr0 ha hb
  generalize Ir.isDiv (Ir.kn k) = pd at *
  generalize (Ir.kn k == 24) = p24 at *
  generalize (Ir.kn k == 25) = p25 at *
  generalize (Ir.kn k == 26) = p26 at *
  generalize Ir.sumsV (Ir.kn k) a b = sv at *
  cases pd
  · have HR := Lib.hid (show r = sv from hr)
    clear hr h24 h25 h26
    go_enter Tryz.func140, Tryz.ntmps140
    go_wp2_with fail
    refine (HD.out _).mono ?_
    rintro e w' ⟨rfl, rfl⟩
    go_wp2_with fail
    refine (HS.out _).mono ?_
    rintro e w' ⟨rfl, rfl⟩
    go_wp2_with fail
    go_ret
    exact ⟨by rw [HR.out]; rfl, Keeps.refl _ _⟩
  · have HR := Lib.hid hr
    clear hr
    by_cases hb0 : b = 0
    · have t0 : (b != 0) = false := by simp [hb0]
      have HR2 := Lib.hid (show r = d by rw [HR.out, if_pos rfl, if_pos hb0])
      clear hb0
      cases p24 <;> cases p25
      all_goals
        go_enter Tryz.func140, Tryz.ntmps140
        go_wp2_with fail
        refine (HD.out _).mono ?_
        rintro e w' ⟨rfl, rfl⟩
        go_wp2_with fail
        refine (HW.out _ _).mono ?_
        rintro e w' ⟨rfl, q, rfl⟩
        have HK := Lib.hid ((Keeps.refl (fun _ => False) w').drewN q)
        generalize w'.drewN q = w3 at *
        go_wp2_with fail
        go_ret
        exact ⟨by rw [HR2.out]; rfl, HK.out⟩
    · have t0 : (b != 0) = true := by simp [hb0]
      have HR2 := Lib.hid (show r = if (p24 || p26) = true then Wd.quo a b (p24 || p25) else Wd.rst a b (p24 || p25) by rw [HR.out, if_pos rfl, if_neg hb0])
      clear hb0 HR
      cases p24 <;> cases p25 <;> cases p26
      all_goals
        go_enter Tryz.func140, Tryz.ntmps140
        go_wp2_with fail
        refine (HD.out _).mono ?_
        rintro e w' ⟨rfl, rfl⟩
        go_wp2_with fail
        refine (HW.out _ _).mono ?_
        rintro e w' ⟨rfl, q, rfl⟩
        have HK := Lib.hid ((Keeps.refl (fun _ => False) w').drewN q)
        generalize w'.drewN q = w3 at *
        go_wp2_with fail
        go_ret
        exact ⟨by rw [HR2.out]; rfl, HK.out⟩
end Go.Proofs.YtknhfobcejpmeaaGreatDoor

/- Learn -/
/- The walks of learn, foldable. -/
namespace Go.Proofs.YtknhfobcejpmeaaGreatDoor
open Go.RowKit Go.Deep
set_option linter.unusedVariables false
set_option linter.unusedSimpArgs false

theorem writes_rng {o : Ir.Op} (h : OpOk o) : i64R (Ir.writes o) := by
  unfold Ir.writes
  split
  · exact h.d
  · exact ⟨by decide, by decide⟩
theorem keeps_map {w w' : World} {b : Nat} (h : w.mapTurned w' b) : Keeps (· = b) w w' := (Keeps.refl _ w).grown h.grown (fun k e _ => by injection e with e; exact e.symm)
theorem foldable_c (f : Ir.Facts) (o : Ir.Op) : Ir.foldable f o = if (!Ir.isSum (Ir.kn o.k) || Ir.isDiv (Ir.kn o.k)) = true then false else (Ir.fof f o.a).isSome && (Ir.fof f o.b).isSome := by
  unfold Ir.foldable
  cases Ir.isSum (Ir.kn o.k) <;> cases Ir.isDiv (Ir.kn o.k) <;> simp
end Go.Proofs.YtknhfobcejpmeaaGreatDoor

/- IsKnown -/
/- The walks of the reference's isKnown. -/
namespace Go.Proofs.YtknhfobcejpmeaaGreatDoor
open Go.RowKit Go.Deep
set_option linter.unusedVariables false
set_option linter.unusedSimpArgs false

theorem learn_other (f : Ir.Facts) (o : Ir.Op) (x : Int) (h : Ir.writes o ≠ x) : Ir.learn f o x = f x := by
  unfold Ir.learn
  split
  · rfl
  · exact if_neg (Ne.symm h)
theorem facts_stepk (l : List Ir.Op) (i : Nat) (hi : i < l.length) : Ir.factsOf (l.take (i + 1)) = Ir.learn (Ir.factsOf (l.take i)) (l.getD i Ir.nop) := by
  unfold Ir.factsOf
  have : l.getD i Ir.nop = l[i] := by simp [List.getD, hi]
  rw [List.take_succ_eq_append_getElem hi, List.foldl_append, this]
  rfl
theorem facts_same (l : List Ir.Op) (x : Int) (i : Nat) : ∀ k, i ≤ k → k ≤ l.length → (∀ j, i ≤ j → j < k → Ir.writes (l.getD j Ir.nop) ≠ x) → Ir.factsOf (l.take k) x = Ir.factsOf (l.take i) x := by
  intro k
  induction k with
  | zero => intro h _ _; obtain rfl : i = 0 := by omega
            rfl
  | succ k ih =>
    intro h1 h2 h3
    by_cases e : i = k + 1
    · rw [e]
    · rw [facts_stepk l k (by omega), learn_other _ _ _ (h3 k (by omega) (by omega))]
      exact ih (by omega) (by omega) (fun j hj hk => h3 j hj (by omega))
theorem known_found (l : List Ir.Op) (x : Int) (p : Nat) (hp : p < l.length) (hx : x ≠ 0) (hw : Ir.writes (l.getD p Ir.nop) = x) (h : ∀ j, p + 1 ≤ j → j < l.length → Ir.writes (l.getD j Ir.nop) ≠ x) :
    (Ir.fof (Ir.factsOf l) x).isSome = (Ir.kn (l.getD p Ir.nop).k == 1) := by
  have e := facts_same l x (p + 1) l.length (by omega) (Nat.le_refl _) h
  rw [List.take_length] at e
  rw [show Ir.fof (Ir.factsOf l) x = Ir.factsOf l x from if_neg hx, e, facts_stepk l p hp]
  unfold Ir.learn
  rw [if_neg (by rw [hw]; exact hx)]
  simp only [hw, if_true]
  by_cases h1 : Ir.kn (l.getD p Ir.nop).k = 1
  · rw [if_pos h1, h1]; rfl
  · rw [if_neg h1]
    have : (Ir.kn (l.getD p Ir.nop).k == 1) = false := by simpa using h1
    rw [this]; rfl
theorem known_none (l : List Ir.Op) (x : Int) (hx : x ≠ 0) (h : ∀ j, j < l.length → Ir.writes (l.getD j Ir.nop) ≠ x) : (Ir.fof (Ir.factsOf l) x).isSome = false := by
  have e := facts_same l x 0 l.length (Nat.zero_le _) (Nat.le_refl _) (fun j _ hj => h j hj)
  rw [List.take_length] at e
  rw [show Ir.fof (Ir.factsOf l) x = Ir.factsOf l x from if_neg hx, e]
  rfl
end Go.Proofs.YtknhfobcejpmeaaGreatDoor

/- FoldL -/
/- What folding wants: ranges of values, an op stored into a row of the call's own. No walk. -/
namespace Go.Proofs.YtknhfobcejpmeaaGreatDoor
open Go.RowKit Go.Deep
set_option linter.unusedVariables false
set_option linter.unusedSimpArgs false

theorem bits3_rng {a b : Int} (ha : 0 ≤ a ∧ a < 4294967296) (hb : 0 ≤ b ∧ b < 4294967296) : (0 ≤ bits .and .u32 a b ∧ bits .and .u32 a b < 4294967296) ∧ (0 ≤ bits .or .u32 a b ∧ bits .or .u32 a b < 4294967296) ∧ (0 ≤ bits .xor .u32 a b ∧ bits .xor .u32 a b < 4294967296) := by
  rw [u32_and a b ha.1 ha.2 hb.1 hb.2, u32_or a b ha.1 ha.2 hb.1 hb.2, u32_xor a b ha.1 ha.2 hb.1 hb.2]
  have h1 : a.toNat &&& b.toNat < 2 ^ 32 := Nat.and_lt_two_pow _ (by omega)
  have h2 : a.toNat ||| b.toNat < 2 ^ 32 := Nat.or_lt_two_pow (by omega) (by omega)
  have h3 : a.toNat ^^^ b.toNat < 2 ^ 32 := Nat.xor_lt_two_pow (by omega) (by omega)
  omega
theorem shift_rng {k a n : Int} (ha : 0 ≤ a ∧ a < 4294967296) : 0 ≤ Wd.shift k a n ∧ Wd.shift k a n < 4294967296 := by
  unfold Wd.shift
  split
  · unfold Wd.shl; omega
  split
  · unfold Wd.shr
    have h1 := (Wd.p2' (n % 32).toNat (by omega)).1
    generalize (2 : Int) ^ (n % 32).toNat = q at *
    refine ⟨Int.ediv_nonneg ha.1 (by omega), ?_⟩
    have := Int.ediv_le_self q ha.1
    omega
  split
  · unfold Wd.sar; omega
  · exact ha
theorem sumsV_rng (c : Nat) {a b : Int} (ha : 0 ≤ a ∧ a < 4294967296) (hb : 0 ≤ b ∧ b < 4294967296) : 0 ≤ Ir.sumsV c a b ∧ Ir.sumsV c a b < 4294967296 := by
  obtain ⟨h1, h2, h3⟩ := bits3_rng ha hb
  have h4 := (bits3_rng (a := 4294967295) (by omega) h2).2.2
  unfold Ir.sumsV
  split
  · omega
  · omega
  · exact h1
  · exact h2
  · exact h3
  · exact h4
  · exact shift_rng ha
  · exact shift_rng ha
  · exact shift_rng ha
  · unfold Wd.lo; omega
  · unfold Wd.hi; omega
  · unfold Wd.hi; omega
  · split <;> omega
  · split <;> omega
/-- facts that are words -/
def FactsU (f : Ir.Facts) : Prop := ∀ k v, f k = some v → 0 ≤ v ∧ v < 4294967296
theorem FactsU.fof {f : Ir.Facts} (h : FactsU f) (n : Int) : 0 ≤ (Ir.fof f n).getD 0 ∧ (Ir.fof f n).getD 0 < 4294967296 := by
  unfold Ir.fof
  split
  · decide
  · cases e : f n with
    | none => decide
    | some v => exact h n v e
theorem FactsU.learn {f : Ir.Facts} (h : FactsU f) {o : Ir.Op} (ho : OpOk o) : FactsU (Ir.learn f o) := by
  unfold Ir.learn
  split
  · exact h
  · intro k v hv
    simp only at hv
    split at hv
    · split at hv
      · injection hv with hv
        subst hv
        have := ho.imm
        unfold u32R at this
        omega
      · cases hv
    · exact h k v hv
theorem foldOp_ok {f : Ir.Facts} {o : Ir.Op} (h : FactsU f) (ho : OpOk o) : OpOk (Ir.foldOp f o) := by
  have h0 : i64R 0 := ⟨by decide, by decide⟩
  unfold Ir.foldOp
  split
  · rename_i hf
    refine ⟨ho.d, h0, h0, ?_, ho.at_⟩
    unfold Ir.foldable at hf
    simp only [Bool.and_eq_true, Bool.not_eq_true'] at hf
    have e : Ir.value (Ir.kn o.k) ((Ir.fof f o.a).getD 0) ((Ir.fof f o.b).getD 0) 0 = Ir.sumsV (Ir.kn o.k) ((Ir.fof f o.a).getD 0) ((Ir.fof f o.b).getD 0) := by
      unfold Ir.value
      rw [hf.1.1.2]
      rfl
    have := sumsV_rng (Ir.kn o.k) (h.fof o.a) (h.fof o.b)
    show u32R (Ir.value _ _ _ _)
    rw [e]
    unfold u32R
    omega
  · split
    · refine ⟨ho.d, h0, h0, ?_, ho.at_⟩
      have := h.fof o.a
      show u32R ((Ir.fof f o.a).getD 0)
      unfold u32R
      omega
    · exact ho
/-- every op is in range; a sum's second letter is a register -/
structure OpsOk (l : List Ir.Op) : Prop where
  ok : ∀ o ∈ l, OpOk o
  reg : ∀ o ∈ l, Ir.isSum (Ir.kn o.k) = true → 0 ≤ o.b ∧ o.b < 64
theorem getD_mem {l : List Ir.Op} {i : Nat} (hi : i < l.length) : l.getD i Ir.nop ∈ l := by
  rw [List.getD_eq_getElem?_getD, List.getElem?_eq_getElem hi]
  exact List.getElem_mem hi
/-- so far folded -/
def foldTo (l : List Ir.Op) (i : Nat) : List Ir.Op := (Ir.fold l).take i ++ l.drop i
theorem foldTo_zero (l : List Ir.Op) : foldTo l 0 = l := rfl
theorem foldTo_len (l : List Ir.Op) (i : Nat) (hi : i ≤ l.length) : (foldTo l i).length = l.length := by
  unfold foldTo
  rw [List.length_append, List.length_take, List.length_drop, Ir.fold_len]
  omega
theorem foldTo_all (l : List Ir.Op) : foldTo l l.length = Ir.fold l := by
  unfold foldTo
  rw [List.drop_length, List.append_nil, ← Ir.fold_len, List.take_length]
theorem foldTo_at (l : List Ir.Op) (i : Nat) (hi : i < l.length) : (foldTo l i).getD i Ir.nop = l.getD i Ir.nop := by
  unfold foldTo
  have h1 : ((Ir.fold l).take i).length = i := by rw [List.length_take, Ir.fold_len]; omega
  rw [List.getD_eq_getElem?_getD, List.getElem?_append_right (by omega), h1, Nat.sub_self, List.getElem?_drop, Nat.add_zero, ← List.getD_eq_getElem?_getD]
theorem foldTo_step (l : List Ir.Op) (i : Nat) (hi : i < l.length) : foldTo l (i + 1) = (foldTo l i).set i (Ir.foldOp (Ir.factsOf ((Ir.fold l).take i)) (l.getD i Ir.nop)) := by
  have h1 : ((Ir.fold l).take i).length = i := by rw [List.length_take, Ir.fold_len]; omega
  rw [← Ir.fold_at l i hi]
  unfold foldTo
  rw [List.set_append_right _ _ (by omega), h1, Nat.sub_self]
  have e1 : (Ir.fold l).take (i + 1) = (Ir.fold l).take i ++ [(Ir.fold l).getD i Ir.nop] := by
    have hf : i < (Ir.fold l).length := by rw [Ir.fold_len]; exact hi
    rw [List.take_succ_eq_append_getElem hf]
    congr 1
    rw [List.getD_eq_getElem?_getD, List.getElem?_eq_getElem hf]
    rfl
  have e2 : (l.drop i).set 0 ((Ir.fold l).getD i Ir.nop) = (Ir.fold l).getD i Ir.nop :: l.drop (i + 1) := by
    rw [List.drop_eq_getElem_cons hi]
    rfl
  rw [e1, e2, List.append_assoc]
  rfl
theorem facts_foldTo (l : List Ir.Op) (i : Nat) (hi : i < l.length) : Ir.factsOf ((Ir.fold l).take (i + 1)) = Ir.learn (Ir.factsOf ((Ir.fold l).take i)) (Ir.foldOp (Ir.factsOf ((Ir.fold l).take i)) (l.getD i Ir.nop)) := by
  rw [facts_stepk (Ir.fold l) i (by rw [Ir.fold_len]; exact hi), Ir.fold_at l i hi]
theorem facts_u (l : List Ir.Op) (h : OpsOk l) : ∀ i, i ≤ l.length → FactsU (Ir.factsOf ((Ir.fold l).take i))
  | 0, _ => fun k v hv => by cases hv
  | i + 1, hi => by
    have h1 := facts_u l h i (by omega)
    rw [facts_foldTo l i (by omega)]
    exact h1.learn (foldOp_ok h1 (h.ok _ (getD_mem (by omega))))
/-- AN OP STORED into a row of the call's own -/
theorem owns_set {w : World} {base g n cap : Nat} {l : List Ir.Op} (h : w.ownsRow base 100 6 (.slice (some ⟨g, 0, none⟩) n cap) n (opsL l)) (hl : l.length = n) (i : Nat) (hi : i < n) (x : Ir.Op) (a : Nat) (ha : a = i * 6) :
    ((((((w.setCell ⟨g, a, none⟩ (.string x.k)).setCell ⟨g, a + 1, none⟩ (.int .i64 x.d)).setCell ⟨g, a + 2, none⟩ (.int .i64 x.a)).setCell ⟨g, a + 3, none⟩ (.int .i64 x.b)).setCell ⟨g, a + 4, none⟩ (.int .u32 x.imm)).setCell ⟨g, a + 5, none⟩ (.int .i64 x.at_)).ownsRow base 100 6 (.slice (some ⟨g, 0, none⟩) n cap) n (opsL (l.set i x)) ∧
      Keeps (· = g) w ((((((w.setCell ⟨g, a, none⟩ (.string x.k)).setCell ⟨g, a + 1, none⟩ (.int .i64 x.d)).setCell ⟨g, a + 2, none⟩ (.int .i64 x.a)).setCell ⟨g, a + 3, none⟩ (.int .i64 x.b)).setCell ⟨g, a + 4, none⟩ (.int .u32 x.imm)).setCell ⟨g, a + 5, none⟩ (.int .i64 x.at_)) := by
  subst ha
  refine ⟨?_, Keeps.trans (Keeps.trans (Keeps.trans (Keeps.trans (Keeps.trans (Keeps.one _ _ _ _) (Keeps.one _ _ _ _) (fun _ _ h => h)) (Keeps.one _ _ _ _) (fun _ _ h => h)) (Keeps.one _ _ _ _) (fun _ _ h => h)) (Keeps.one _ _ _ _) (fun _ _ h => h)) (Keeps.one _ _ _ _) (fun _ _ h => h)⟩
  obtain ⟨h1, ⟨h2, _⟩ | ⟨g', cap', cur, h2, h3, h4, h5, h6, h7, h8⟩⟩ := h
  · cases h2
  injection h2 with e1 e2 e3
  injection e1 with e1
  injection e1 with e1
  subst e1 e3
  refine ⟨by rw [opsL_len, List.length_set, hl], .inr ⟨g, cap, _, rfl, h3, set_block (set_block (set_block (set_block (set_block (set_block h4 (i * 6) (.string x.k)) (i * 6 + 1) (.int .i64 x.d)) (i * 6 + 2) (.int .i64 x.a)) (i * 6 + 3) (.int .i64 x.b)) (i * 6 + 4) (.int .u32 x.imm)) (i * 6 + 5) (.int .i64 x.at_), h5, h6, by simpa using h7, ?_⟩⟩
  have hb : i * 6 + 5 < cur.size := by rw [h7]; omega
  refine List.ext_getElem? fun j => ?_
  by_cases hj : j < n * 6
  · rw [List.getElem?_take_of_lt hj]
    have hq : j / 6 < n := by omega
    have e := opsL_get (l.set i x) (j / 6) (j % 6) (by rw [List.length_set]; omega) (by omega)
    rw [show j / 6 * 6 + j % 6 = j by omega] at e
    have e0 := opsL_get l (j / 6) (j % 6) (by omega) (by omega)
    rw [show j / 6 * 6 + j % 6 = j by omega, ← h8, List.getElem?_take_of_lt hj] at e0
    rw [e]
    simp only [Array.getElem?_toList, Array.getElem?_setIfInBounds] at e0 ⊢
    by_cases hji : j / 6 = i
    · have hx : (l.set i x).getD (j / 6) Ir.nop = x := by
        rw [hji, List.getD_eq_getElem?_getD, List.getElem?_set_self (by omega)]
        rfl
      rw [hx]
      have hr : j % 6 = 0 ∨ j % 6 = 1 ∨ j % 6 = 2 ∨ j % 6 = 3 ∨ j % 6 = 4 ∨ j % 6 = 5 := by omega
      rcases hr with hr | hr | hr | hr | hr | hr <;> rw [hr]
      · obtain rfl : j = i * 6 := by omega
        simp [opC, show i * 6 < cur.size by omega]
      · obtain rfl : j = i * 6 + 1 := by omega
        simp [opC, show i * 6 + 1 < cur.size by omega]
      · obtain rfl : j = i * 6 + 2 := by omega
        simp [opC, show i * 6 + 2 < cur.size by omega]
      · obtain rfl : j = i * 6 + 3 := by omega
        simp [opC, show i * 6 + 3 < cur.size by omega]
      · obtain rfl : j = i * 6 + 4 := by omega
        simp [opC, show i * 6 + 4 < cur.size by omega]
      · obtain rfl : j = i * 6 + 5 := by omega
        simp [opC, hb]
    · have hx : (l.set i x).getD (j / 6) Ir.nop = l.getD (j / 6) Ir.nop := by
        rw [List.getD_eq_getElem?_getD, List.getElem?_set_ne (fun h => hji h.symm), ← List.getD_eq_getElem?_getD]
      rw [hx]
      simp [show i * 6 ≠ j by omega, show i * 6 + 1 ≠ j by omega, show i * 6 + 2 ≠ j by omega, show i * 6 + 3 ≠ j by omega, show i * 6 + 4 ≠ j by omega, show i * 6 + 5 ≠ j by omega]
      exact e0
  · rw [List.getElem?_eq_none (by rw [List.length_take]; omega), List.getElem?_eq_none (by rw [opsL_len, List.length_set]; omega)]
/-- a row of the call's own: one op of it, to be read and to be overwritten -/
theorem owns_get {w : World} {base g n cap : Nat} {l : List Ir.Op} (h : w.ownsRow base 100 6 (.slice (some ⟨g, 0, none⟩) n cap) n (opsL l)) (hl : l.length = n) (i : Nat) (hi : i < n) (a : Nat) (ha : a = i * 6) :
    OpLies w g a (l.getD i Ir.nop) ∧ ∀ q, w.frozen? ⟨g, q, none⟩ = false := by
  subst ha
  constructor
  · obtain ⟨b, o, e, hc⟩ := (OpsAt.of_owns h hl).get hi
    injection e with e
    injection e with e1 e2
    subst e1 e2
    rw [Nat.zero_add] at hc
    exact hc
  · obtain ⟨_, ⟨h2, _⟩ | ⟨g', cap', cur, h2, h3, h4, _⟩⟩ := h
    · cases h2
    injection h2 with e1 e2 e3
    injection e1 with e1
    injection e1 with e1
    subst e1
    intro q
    simp [World.frozen?, h4]
end Go.Proofs.YtknhfobcejpmeaaGreatDoor

/- MachOk -/
/- A machine stays in its ranges. -/
namespace Go.Proofs.YtknhfobcejpmeaaGreatDoor
open Go.RowKit Go.Deep
set_option linter.unusedVariables false
set_option linter.unusedSimpArgs false

theorem wide_rng {v n : Int} {s : Bool} (h : 0 ≤ v ∧ v < 4294967296) : 0 ≤ Wd.wide v n s ∧ Wd.wide v n s < 4294967296 := by
  unfold Wd.wide
  split
  · exact h
  · have h1 : 0 ≤ v % 2 ^ n.toNat := Int.emod_nonneg _ (Int.ne_of_gt (Int.pow_pos (by omega)))
    have h2 : v % 2 ^ n.toNat ≤ v := by
      have h3 := Int.mul_ediv_add_emod v (2 ^ n.toNat)
      have h4 : 0 ≤ (2 : Int) ^ n.toNat * (v / 2 ^ n.toNat) := Int.mul_nonneg (Int.le_of_lt (Int.pow_pos (by omega))) (Int.ediv_nonneg h.1 (Int.le_of_lt (Int.pow_pos (by omega))))
      omega
    split <;> omega
theorem quo_rng {a b : Int} {s : Bool} (ha : 0 ≤ a ∧ a < 4294967296) (hb : 0 ≤ b ∧ b < 4294967296) : 0 ≤ Wd.quo a b s ∧ Wd.quo a b s < 4294967296 := by
  unfold Wd.quo
  split
  · omega
  · split
    · omega
    · have h1 : 0 ≤ a / b := Int.ediv_nonneg ha.1 hb.1
      have h2 : a / b ≤ a := Int.ediv_le_self _ ha.1
      omega
theorem rst_rng {a b : Int} {s : Bool} (ha : 0 ≤ a ∧ a < 4294967296) (hb : 0 ≤ b ∧ b < 4294967296) : 0 ≤ Wd.rst a b s ∧ Wd.rst a b s < 4294967296 := by
  unfold Wd.rst
  split
  · omega
  · split
    · omega
    · have h1 : 0 ≤ a % b := Int.emod_nonneg _ (by assumption)
      have h2 : a % b < b := Int.emod_lt_of_pos _ (by omega)
      omega
theorem value_rng (c : Nat) {a b d : Int} (ha : 0 ≤ a ∧ a < 4294967296) (hb : 0 ≤ b ∧ b < 4294967296) (hd : 0 ≤ d ∧ d < 4294967296) : 0 ≤ Ir.value c a b d ∧ Ir.value c a b d < 4294967296 := by
  unfold Ir.value
  split
  · split
    · exact hd
    · split
      · exact quo_rng ha hb
      · exact rst_rng ha hb
  · exact sumsV_rng c ha hb
theorem loadV_rng {m : Nat → Int} (hm : ∀ j, j < 16384 → 0 ≤ m j ∧ m j < 256) (ws : List Ir.Wt) {ad b : Int} (h0 : 0 ≤ ad) (h : rightC ad b.natAbs = 0) : 0 ≤ Ir.loadV m ws ad b ∧ Ir.loadV m ws ad b < 4294967296 := by
  obtain ⟨hn, hal, hlt⟩ := rightC_ok h
  have hn3 : b.natAbs = 1 ∨ b.natAbs = 2 ∨ b.natAbs = 4 := by omega
  unfold Ir.loadV
  refine wide_rng ?_
  have hfit : ad + b.natAbs ≤ 16384 := by
    generalize b.natAbs = n at *
    rcases hn3 with rfl | rfl | rfl <;> omega
  have h1 := be_rng (Ir.pend m ws) ad.toNat b.natAbs (fun j hj => pend_rng hm ws _ (by omega))
  have h2 : (256 : Int) ^ b.natAbs ≤ 4294967296 := by rcases hn3 with h3 | h3 | h3 <;> rw [h3] <;> decide
  exact ⟨h1.1, Int.lt_of_lt_of_le h1.2 h2⟩
theorem setX_ok {W : Int → Bool} {c : Ir.Mc} (h : Ir.McOk W c) (d : Int) {v : Int} (hv : 0 ≤ v ∧ v < 4294967296) : Ir.McOk W { c with X := Ir.setX c.X d v } := by
  refine ⟨fun k hk => ?_, h.ws⟩
  show 0 ≤ Ir.setX c.X d v k ∧ Ir.setX c.X d v k < 4294967296
  unfold Ir.setX
  split
  · exact hv
  · exact h.X k hk
theorem rg_ok {W : Int → Bool} {c : Ir.Mc} (h : Ir.McOk W c) {n : Int} (hn : 0 ≤ n ∧ n < 64) : 0 ≤ Ir.rg c.X n ∧ Ir.rg c.X n < 4294967296 := h.X _ (by omega)
theorem doOp_ok {m : Nat → Int} (hm : ∀ j, j < 16384 → 0 ≤ m j ∧ m j < 256) {W : Int → Bool} {c c' : Ir.Mc} {o : Ir.Op} (h : Ir.McOk W c) (hi : Ir.OpIn o) (hnl : Ir.leaves (Ir.kn o.k) = false) (hd : Ir.doOp m W c o = some c') : Ir.McOk W c' ∧ c'.ws.length ≤ c.ws.length + 1 := by
  have ha := rg_ok h hi.a
  have hle := Ir.kn_le o.k
  unfold Ir.leaves at hnl
  have hnl := of_decide_eq_false hnl
  have hk := hi.k
  unfold Ir.doOp at hd
  split at hd
  · injection hd with hd; subst hd
    exact ⟨setX_ok h _ hi.imm, by simp⟩
  split at hd
  · injection hd with hd; subst hd
    exact ⟨setX_ok h _ ha, by simp⟩
  split at hd
  · split at hd
    · cases hd
    · injection hd with hd; subst hd
      exact ⟨h, by simp⟩
  split at hd
  · split at hd
    · rename_i h5
      injection hd with hd; subst hd
      exact ⟨setX_ok h _ (loadV_rng hm c.ws (by unfold Ir.adr; omega) h5), by simp⟩
    · cases hd
  rename_i h5
  have hb := rg_ok h (hi.b h5)
  split at hd
  · split at hd
    · rename_i h6 h7
      injection hd with hd; subst hd
      refine ⟨⟨h.X, fun s hs => ?_⟩, by simp⟩
      rcases List.mem_append.1 hs with hs | hs
      · exact h.ws s hs
      · simp only [List.mem_singleton] at hs
        subst hs
        exact ⟨h7.1, by show 0 ≤ Ir.adr _ _; unfold Ir.adr; omega, hb, h7.2⟩
    · cases hd
  · injection hd with hd; subst hd
    have hd1 := hi.d (by omega)
    exact ⟨setX_ok h _ (value_rng _ ha hb (rg_ok h (by omega))), by simp⟩
end Go.Proofs.YtknhfobcejpmeaaGreatDoor

/- Mach7 -/
/- The walk of a machine's Leave. -/
namespace Go.Proofs.YtknhfobcejpmeaaGreatDoor
open Go.RowKit Go.Deep
set_option linter.unusedVariables false
set_option linter.unusedSimpArgs false

theorem stL_lenD (s : Cp.St) : (stL s).length = 43 := by simp [stL, regs, restC]
def stF (s : Cp.St) (k : Nat) : Value := (stL s).getD k undef
theorem StAt.rowD {w : World} {sb : Nat} {s : Cp.St} (h : StAt w sb s) : w.rowIs sb 26 43 (stF s) := by
  refine ⟨_, h, by simp [stL_lenD], fun i hi => ?_⟩
  unfold stF
  rw [List.getD_eq_getElem?_getD, List.getElem?_toArray, List.getElem?_eq_getElem (by rw [stL_lenD]; exact hi)]
  rfl
theorem StAt.of_row {w : World} {sb : Nat} {s : Cp.St} {f : Nat → Value} (h : w.rowIs sb 26 43 f) (hf : ∀ i, i < 43 → stF s i = f i) : StAt w sb s := by
  obtain ⟨c, hb, h1, h2⟩ := h
  unfold StAt
  rw [hb]
  congr 2
  apply Array.ext_getElem?
  intro i
  by_cases hi : i < 43
  · rw [h2 i hi, ← hf i hi]
    unfold stF
    rw [List.getD_eq_getElem?_getD, List.getElem?_toArray, List.getElem?_eq_getElem (by rw [stL_lenD]; exact hi)]
    rfl
  · rw [Array.getElem?_eq_none (by omega), List.getElem?_toArray, List.getElem?_eq_none (by rw [stL_lenD]; omega)]
theorem stF_reg (s : Cp.St) (k : Nat) (hk : k < 32) : stF s k = .int .u32 (s.R k) := by
  unfold stF stL
  rw [List.getD_eq_getElem?_getD, List.getElem?_append_left (by rw [regs_len]; exact hk)]
  simp [regs, hk]
theorem stF_rest (s : Cp.St) (i : Nat) : stF s (32 + i) = (restC s).getD i undef := by
  unfold stF stL
  rw [List.getD_eq_getElem?_getD, List.getElem?_append_right (by rw [regs_len]; omega), regs_len, show 32 + i - 32 = i by omega, List.getD_eq_getElem?_getD]
/-- a state as a machine left it -/
def Ir.leaveSt (s : Cp.St) (c : Ir.Mc) (pc many : Int) : Cp.St := { s with R := c.X, hi := c.X 32, lo := c.X 33, pc := pc, next := (pc + 4) % 4294967296, count := s.count + many }
theorem StAt.set32 {w : World} {sb : Nat} {s s' : Cp.St} (h : StAt w sb s) (i : Nat) (v : Value) (hR : s'.R = s.R) (hi : (restC s).set i v = restC s') : StAt (w.setCell ⟨sb, 32 + i, none⟩ v) sb s' := h.set i v hR hi
set_option maxHeartbeats 4000000 in
set_option maxRecDepth 100000 in
theorem leave_any (B mb r sb pb pw ph cp : Nat) (c : Ir.Mc) (m : Nat → Int) (W : Int → Bool) (s : Cp.St) (pc many : Int) (w : World) (M : MachAt w B mb r c) (R : RamAt w r pb pw ph cp m) (hW : WatchAt w pw W) (hS : StAt w sb s) (hok : Ir.McOk W c)
    (hpc : 0 ≤ pc ∧ pc < 4294967296) (hcnt : 0 ≤ s.count ∧ s.count < 4611686018427387904) (hmany : 0 ≤ many ∧ many ≤ 24) (hsep : sb ≠ mb ∧ sb ≠ r ∧ sb ≠ pb ∧ sb ≠ pw) (hsB : sb < B) (hpB : pb < B) (hrB : r < B) (hB : B ≤ w.heap.size) :
    Calls Tryz.prog 60 #[.pointer (some ⟨mb, 0, none⟩), .pointer (some ⟨sb, 0, none⟩), .int .u32 pc, .int .i64 many] w fun e w' => e = .returned (.tuple #[]) ∧ StAt w' sb (Ir.leaveSt s c pc many) ∧ RamAt w' r pb pw ph cp (Ir.pend m c.ws) ∧ Keeps (fun b => b = sb ∨ b = pb) w w' := by
  have HM := Lib.hid M
  have HR := Lib.hid R
  have HW := Lib.hid hW
  have HS := Lib.hid hS
  have HOK := Lib.hid hok
  have HSEP := Lib.hid hsep
  have HLOW := Lib.hid M.low
  clear M R hW hS hok hsep
  go_enter Tryz.func60, Tryz.ntmps60
  go_upto_region 0 with fail
  go_still_tail 8, (by kernel_rfl)
  change wpList _ _ _ _ _ w.drew
  have hkd := (Keeps.refl (fun _ => False) w).drew
  have HK1 := Lib.hid hkd
  have HM1 := Lib.hid (HM.out.keep hkd (fun _ _ h => h))
  have HS1 := Lib.hid (HS.out.keep hkd (fun h => h))
  have HROW1 := Lib.hid (HS1.out.rowD)
  clear hkd
  generalize w.drew = w1 at *
  refine wpList_copy_rowIs rfl (.tmp 13) (.tmp 17) 27 27 rfl 22 Tryz.underlying27 (by kernel_rfl) sb 0 32 32 ⟨mb, 0, none⟩ 32 64 rfl rfl 26 43 _ HROW1.out 32 (fun k => .int .u32 (c.X k)) (by decide) ?a2 (by omega) (fun _ _ => rfl) ?a5
  case a2 =>
    intro j hj
    rw [Addr.add_lit, Nat.zero_add]
    exact (HM1.out.reg j (by omega)).1
  case a5 =>
    intro w2 hrow hk2
    have hS2 : StAt w2 sb { s with R := c.X } := StAt.of_row hrow (fun i hi => by
      by_cases h : i < 32
      · rw [if_pos ⟨Nat.zero_le _, by omega⟩, stF_reg _ i h, Nat.sub_zero]
      · rw [if_neg (by omega)]
        obtain ⟨j, rfl⟩ : ∃ j, i = 32 + j := ⟨i - 32, by omega⟩
        rw [stF_rest, stF_rest]
        rfl)
    have HS2 := Lib.hid hS2
    have HK2 := Lib.hid hk2
    have HM2 := Lib.hid (HM1.out.keep hk2 (fun b hb e => by have e : b = sb := e; omega))
    have hne := HSEP.out.1
    have hne2 : mb ≠ sb := fun e => hne e.symm
    obtain ⟨p0, p1, p2, p3, p4, p5, p6, p7, p8, p9, p10⟩ := hS2.cells
    have q0 := hS2.frozen 32
    have q1 := hS2.frozen 33
    obtain ⟨x0, _⟩ := HM2.out.reg 32 (by omega)
    obtain ⟨x1, _⟩ := HM2.out.reg 33 (by omega)
    simp only at p0 p1
    clear hrow hk2 hS2 HROW1 p2 p3 p4 p5 p6 p7 p8 p9 p10
    go_upto_region 1 with fail
    go_region_held3 (fun w' => Keeps (· = sb) w2 w' ∧ w'.cell? ⟨mb, 32, none⟩ = some (.int .u32 (c.X 32)) ∧ w'.cell? ⟨mb, 33, none⟩ = some (.int .u32 (c.X 33)))
      (first | (refine ⟨?_, ?_, ?_⟩ <;> first | ((repeat (first | (with_reducible assumption) | (with_reducible (exact Keeps.refl _ _)) | (with_reducible (apply Keeps.drew)) | (refine Keeps.setCell (S := fun x => x = sb) (a := ⟨sb, _, none⟩) ?_ (fun _ => rfl) _))); done) | (refine Keeps.cell' (S := (· = sb)) (w := w2) ?_ (by assumption) hne2; (repeat (first | (with_reducible assumption) | (with_reducible (exact Keeps.refl _ _)) | (with_reducible (apply Keeps.drew)) | (refine Keeps.setCell (S := fun x => x = sb) (a := ⟨sb, _, none⟩) ?_ (fun _ => rfl) _))); done)) | (trace_state; fail))
      (fail)
    rename_i hh
    have HKH := Lib.hid hh.1
    have hS3 : StAt ((w2.setCell ⟨sb, 32, none⟩ (.int .u32 (c.X 32))).setCell ⟨sb, 33, none⟩ (.int .u32 (c.X 33))).drew sb { s with R := c.X, hi := c.X 32, lo := c.X 33 } :=
      StAt.keep (((HS2.out.set (s' := { s with R := c.X, hi := c.X 32 }) 0 (.int .u32 (c.X 32)) rfl rfl).set (s' := { s with R := c.X, hi := c.X 32, lo := c.X 33 }) 1 (.int .u32 (c.X 33)) rfl rfl)) ((Keeps.refl (fun _ => False) _).drew) (fun h => h)
    have HS3 := Lib.hid hS3
    have HM3 := Lib.hid (HM2.out.keep hh.1 (fun b hb e => by have e : b = sb := e; omega))
    clear hh q0 q1 x0 x1 p0 p1
    generalize World.drew _ = w3 at *
    have HK3 := Lib.hid ((HK1.out.mono (T := fun b => b = sb) (fun _ _ h => h.elim)).trans (HK2.out.trans HKH.out (fun _ _ h => h)) (fun _ _ h => h))
    obtain ⟨p0, p1, p2, p3, p4, p5, p6, p7, p8, p9, p10⟩ := hS3.cells
    have q2 := hS3.frozen 34
    have q3 := hS3.frozen 35
    have q10 := hS3.frozen 42
    simp only at p2 p3 p10
    have hw1 : IntKind.i64.wrap (s.count + many) = s.count + many := by rw [IntKind.wrap_i64]; omega
    have hS4 : StAt (((w3.setCell ⟨sb, 34, none⟩ (.int .u32 pc)).setCell ⟨sb, 35, none⟩ (.int .u32 ((pc + 4) % 4294967296))).setCell ⟨sb, 42, none⟩ (.int .i64 (s.count + many))) sb (Ir.leaveSt s c pc many) := ((HS3.out.set (s' := { s with R := c.X, hi := c.X 32, lo := c.X 33, pc := pc }) 2 (.int .u32 pc) rfl rfl).set (s' := { s with R := c.X, hi := c.X 32, lo := c.X 33, pc := pc, next := (pc + 4) % 4294967296 }) 3 (.int .u32 ((pc + 4) % 4294967296)) rfl rfl).set (s' := Ir.leaveSt s c pc many) 10 (.int .i64 (s.count + many)) rfl rfl
    have hk4 : Keeps (· = sb) w3 _ := ((Keeps.one w3 sb 34 (.int .u32 pc)).trans (Keeps.one _ sb 35 (.int .u32 ((pc + 4) % 4294967296))) (fun _ _ h => h)).trans (Keeps.one _ sb 42 (.int .i64 (s.count + many))) (fun _ _ h => h)
    have HS4 := Lib.hid hS4
    have HK4 := Lib.hid (HK3.out.trans hk4 (fun _ _ h => h))
    have HM4 := Lib.hid (HM3.out.keep hk4 (fun b hb e => by have e : b = sb := e; omega))
    clear hS3 hS4 hk4 p0 p1 p4 p5 p6 p7 p8 p9
    go_upto_region 3 with fail
    clear p2 p3 p10 q2 q3 q10 hw1
    generalize World.setCell (World.setCell (World.setCell w3 _ _) _ _) _ _ = w4 at *
    have HR4 := Lib.hid (HR.out.keep HK4.out (fun e => HSEP.out.2.1 (Eq.symm e)) (fun e => HSEP.out.2.2.1 (Eq.symm e)))
    have HW4 := Lib.hid (HW.out.keep HK4.out (fun e => HSEP.out.2.2.2 (Eq.symm e)))
    obtain ⟨A, cap, hw65, hWT⟩ := HM4.out.wts
    obtain ⟨N, hN⟩ : ∃ N, c.ws.length = N := ⟨_, rfl⟩
    rw [hN] at hw65 hWT
    have HN := Lib.hid hN
    have hNle := hWT.2.1
    have H65 := Lib.hid hw65
    clear hN hWT
    have hpm : ∀ b, B ≤ b → ¬ (b = pb) := fun b hb e => by omega
    have HPM := Lib.hid hpm
    clear hpm
    go_wp2_with fail
    go_loopw [58] (fun s58 wr => ∃ i : Nat, i ≤ N ∧ s58 = .int .i64 i ∧ RamAt wr r pb pw ph cp (Ir.pend m (c.ws.take i)) ∧ Keeps (fun b => b = pb) w4 wr) (fun s58 _ => N - (intOf s58).toNat)
    case atStart => exact ⟨0, by omega, rfl, HR4.out, Keeps.refl _ _⟩
    case round =>
      obtain ⟨i, hi, rfl, hRi, hKi⟩ := hrel
      have HRI := Lib.hid hRi
      have HKI := Lib.hid hKi
      have HMI := Lib.hid (HM4.out.keep hKi HPM.out)
      clear hRi hKi hw65
      by_cases hlt : i < N
      · obtain ⟨A', cap', h65', _, _, hcap, hlies⟩ := HMI.out.wts
        rw [HN.out] at h65'
        have h65 := HKI.out.cell' H65.out (fun e => HPM.out mb HLOW.out e)
        rw [h65] at h65'
        injection h65' with h65'
        injection h65' with e1 e2 e3
        subst e1 e3
        clear e2
        obtain ⟨g, rfl, hg⟩ := hlies.resolve_left (by have := HN.out; omega)
        obtain ⟨g0, g1, g2⟩ := hg i (by rw [HN.out]; exact hlt)
        obtain ⟨st, hst⟩ : ∃ st, c.ws[i]'(by rw [HN.out]; exact hlt) = st := ⟨_, rfl⟩
        have hso := HOK.out.ws _ (List.getElem_mem (show i < c.ws.length by rw [HN.out]; exact hlt))
        have hsn := pend_snoc m c.ws i (by rw [HN.out]; exact hlt)
        rw [hst] at g0 g1 g2 hso hsn
        obtain ⟨sa, sz, sv⟩ := st
        simp only at g0 g1 g2 hso hsn
        obtain ⟨hs1, hs2, hsv, hsw⟩ := hso
        have HSN := Lib.hid hsn
        have hrc := rightC_ok hs1
        have h64 := HMI.out.ram
        clear hg hst hsn hlies h65
        have hka := (Keeps.refl (fun _ => False) wr).alloc (.cells #[.int .u32 sa, .int .i64 sz, .int .u32 sv] 183)
        have HKA := Lib.hid hka
        have c0 := cells_new wr [.int .u32 sa, .int .i64 sz, .int .u32 sv] 183 0 _ rfl
        have c1 := cells_new wr [.int .u32 sa, .int .i64 sz, .int .u32 sv] 183 1 _ rfl
        have c2 := cells_new wr [.int .u32 sa, .int .i64 sz, .int .u32 sv] 183 2 _ rfl
        rw [Addr.add_lit] at c0 c1 c2
        simp only [Nat.zero_add] at c0 c1 c2
        have H64 := Lib.hid (hka.cell' h64 (fun h => h))
        clear hka
        go_upto_region 6 with fail
        have h64 := H64.out
        clear H64
        have hkr := (HKA.out).drew
        have HRW := Lib.hid (HRI.out.keep hkr (fun h => h) (fun h => h))
        have hw5 := HW4.out.keep (HKI.out.trans (hkr.mono (T := fun b => b = pb) (fun _ _ h => h.elim)) (fun _ _ h => h)) (fun e => HRI.out.apart.2.2.2.1 (Eq.symm e))
        have HW5 := Lib.hid hw5
        generalize wr.alloc _ = w5 at *
        have HST := Lib.hid (store_coldI r pb pw ph cp (Ir.pend m (c.ws.take i)) sa sz sv w5.drew HRW.out hs2 hsv hs1 (fun w' k => by
          have h1 := hrc.2.2
          have h2 := (HW5.out.keep k (fun e => HRI.out.apart.2.2.2.1 (Eq.symm e))).look (sa / 256) (by omega) (by omega)
          rw [hsw] at h2
          exact h2))
        rw [← HSN.out] at HST
        clear hw5 hsw hrc hs1
        go_still_tail 10, (by kernel_rfl)
        change wpList _ _ _ _ _ w5.drew
        go_wp2_with fail
        refine HST.out.mono ?_
        rintro e w6 ⟨rfl, hR6, hk6⟩
        have HR6 := Lib.hid hR6
        have HK6 := Lib.hid (HKI.out.trans ((hkr.mono (T := fun b => b = pb) (fun _ _ h => h.elim)).trans hk6 (fun _ _ h => h)) (fun _ _ h => h))
        clear hR6 hk6 hkr c0 c1 c2 h64 g0 g1 g2
        go_wp2_with fail
        go_roundw
        case rel => exact ⟨i + 1, by omega, by go_num, HR6.out, HK6.out⟩
        case measure => simp [intOf]; omega
      · obtain rfl : i = N := by omega
        go_wp2_with fail
        refine bodyPost_end (results_none rfl _ _ _) rfl ⟨rfl, ?_, ?_, ?_⟩
        · exact HS4.out.keep HKI.out (fun e => HSEP.out.2.2.1 e)
        · have h := HRI.out
          rw [show c.ws.take i = c.ws by rw [← HN.out, List.take_length]] at h
          exact h
        · exact (HK4.out.mono (T := fun b => b = sb ∨ b = pb) (fun _ _ h => .inl h)).trans HKI.out (fun _ _ h => .inr h)
end Go.Proofs.YtknhfobcejpmeaaGreatDoor

/- RowsAt -/
/- Rows of ops that are read; results in a row of the call's own; what a row's results are, plainly. -/
namespace Go.Proofs.YtknhfobcejpmeaaGreatDoor
open Go.RowKit Go.Deep
set_option linter.unusedVariables false
set_option linter.unusedSimpArgs false

/-- ROWS OF OPS that are read -/
structure RowsAt (w : World) (A : Option Addr) (n cap : Nat) (rows : List (List Ir.Op)) : Prop where
  len : rows.length = n
  le : n ≤ cap
  lies : cap = 0 ∨ ∃ b o, A = some ⟨b, o, none⟩ ∧ b < w.heap.size ∧ ∀ i, i < n → ∃ Ai ci, w.cell? ⟨b, o + i, none⟩ = some (.slice Ai (rows.getD i []).length ci) ∧ OpsAt w Ai (rows.getD i []).length ci (rows.getD i []) ∧ ci ≤ 9223372036854775807
theorem RowsAt.quiet {w w' : World} {A : Option Addr} {n cap : Nat} {rows : List (List Ir.Op)} (h : RowsAt w A n cap rows) (k : Keeps (fun _ => False) w w') : RowsAt w' A n cap rows := by
  obtain ⟨h1, h2, h3 | ⟨b, o, h4, h5, h6⟩⟩ := h
  · exact ⟨h1, h2, .inl h3⟩
  · refine ⟨h1, h2, .inr ⟨b, o, h4, Nat.lt_of_lt_of_le h5 k.size, fun i hi => ?_⟩⟩
    obtain ⟨Ai, ci, e1, e2, e3⟩ := h6 i hi
    exact ⟨Ai, ci, k.cell' e1 (fun f => f), e2.quiet k, e3⟩
theorem RowsAt.get {w : World} {A : Option Addr} {n cap : Nat} {rows : List (List Ir.Op)} (h : RowsAt w A n cap rows) {i : Nat} (hi : i < n) :
    ∃ b o Ai ci, A = some ⟨b, o, none⟩ ∧ w.cell? ⟨b, o + i, none⟩ = some (.slice Ai (rows.getD i []).length ci) ∧ OpsAt w Ai (rows.getD i []).length ci (rows.getD i []) ∧ ci ≤ 9223372036854775807 := by
  obtain ⟨h1, h2, h3 | ⟨b, o, h4, h5, h6⟩⟩ := h
  · omega
  · obtain ⟨Ai, ci, e1, e2, e3⟩ := h6 i hi
    exact ⟨b, o, Ai, ci, h4, e1, e2, e3⟩
/-- cells of results -/
def resL (l : List Ir.RRes) : List Value := l.flatMap (fun r => (resC r).toList)
theorem resL_len (l : List Ir.RRes) : (resL l).length = l.length * 4 := by
  induction l with
  | nil => rfl
  | cons o r ih =>
    have : resL (o :: r) = (resC o).toList ++ resL r := rfl
    rw [this, List.length_append, ih, List.length_cons]
    show 4 + _ = _
    omega
def nores : Ir.RRes := ⟨0, 0, false, false⟩
theorem resL_get (l : List Ir.RRes) : ∀ i q, i < l.length → q < 4 → (resL l)[i * 4 + q]? = (resC (l.getD i nores))[q]? := by
  induction l with
  | nil => intro i q h; simp at h
  | cons o r ih =>
    intro i q h hq
    have e : resL (o :: r) = (resC o).toList ++ resL r := rfl
    rw [e]
    cases i with
    | zero =>
      rw [List.getElem?_append_left (by show _ < 4; omega)]
      simp
    | succ i =>
      rw [List.getElem?_append_right (by show 4 ≤ _; omega)]
      show (resL r)[(i + 1) * 4 + q - 4]? = _
      rw [show (i + 1) * 4 + q - 4 = i * 4 + q by omega, ih i q (by simpa using h) hq]
      rfl
theorem resL_snoc (l : List Ir.RRes) (r : Ir.RRes) : resL (l ++ [r]) = resL l ++ (resC r).toList := by
  unfold resL
  rw [List.flatMap_append]
  simp
/-- a row of results in block g -/
structure ResRow (w : World) (g : Nat) (l : List Ir.RRes) : Prop where
  v : ∀ i, i < l.length → w.cell? ⟨g, i * 4, none⟩ = some (.int .u32 (l.getD i nores).v)
  addr : ∀ i, i < l.length → w.cell? ⟨g, i * 4 + 1, none⟩ = some (.int .u32 (l.getD i nores).addr)
  leave : ∀ i, i < l.length → w.cell? ⟨g, i * 4 + 3, none⟩ = some (.bool (l.getD i nores).leave)
theorem ResRow.keep {S : Nat → Prop} {w w' : World} {g : Nat} {l : List Ir.RRes} (h : ResRow w g l) (k : Keeps S w w') (hs : ¬ S g) : ResRow w' g l :=
  ⟨fun i hi => k.cell' (h.v i hi) hs, fun i hi => k.cell' (h.addr i hi) hs, fun i hi => k.cell' (h.leave i hi) hs⟩
theorem ResRow.of_owns {w : World} {B cap : Nat} {A : Option Addr} {l : List Ir.RRes} (h : w.ownsRow B 130 4 (.slice A l.length cap) l.length (resL l)) : l = [] ∨ ∃ g, A = some ⟨g, 0, none⟩ ∧ B ≤ g ∧ g < w.heap.size ∧ ResRow w g l := by
  obtain ⟨h1, ⟨h2, h3⟩ | ⟨g, cap', cur, h2, h3, h4, h5, h6, h7, h8⟩⟩ := h
  · exact .inl (List.eq_nil_of_length_eq_zero h3)
  · injection h2 with e1 e2 e3
    right
    refine ⟨g, e1, h3, (Array.getElem?_eq_some_iff.1 h4).1, ?_⟩
    have hc : ∀ i q, i < l.length → q < 4 → ∀ v, (resC (l.getD i nores))[q]? = some v → w.cell? ⟨g, i * 4 + q, none⟩ = some v := fun i q hi hq v hv => by
      have e := resL_get l i q hi hq
      rw [hv, ← h8, List.getElem?_take_of_lt (by omega)] at e
      unfold World.cell?
      rw [h4]
      simpa using e
    exact ⟨fun i hi => hc i 0 hi (by omega) _ rfl, fun i hi => hc i 1 hi (by omega) _ rfl, fun i hi => hc i 3 hi (by omega) _ rfl⟩
theorem Tryz.info_res : (Tryz.prog.info? 130).map (fun i => (i.zero, i.size, i.bytes)) = some (some (.agg #[.int .u32 0, .int .u32 0, .bool false, .bool false]), 4, 12) := by kernel_rfl
theorem regL_len (X : Nat → Int) : (regL X).length = 64 := by simp [regL]
theorem RMach.range {w : World} {mb q : Nat} {X : Nat → Int} (h : RMach w mb q X) : w.rangeAt mb 0 (regL X) := fun j v hv => by
  have hj : j < 64 := by have := (List.getElem?_eq_some_iff.1 hv).1; rwa [regL_len] at this
  have := (h.reg j hj).1
  unfold regL at hv
  rw [List.getElem?_map, List.getElem?_range hj] at hv
  injection hv with hv
  rw [Nat.zero_add, ← hv]
  exact this
theorem range_keepR {w w' : World} {b : Nat} {cs : List Value} (h : w.rangeAt b 0 cs) (k : Keeps (fun _ => False) w w') : w'.rangeAt b 0 cs := fun j v hv => k.cell' (h j v hv) (fun f => f)
namespace Ir
/-- ranges of a result -/
theorem res_rng {X m : Nat → Int} {W : Int → Bool} {o : Op} (hX : ∀ k, k < 64 → 0 ≤ X k ∧ X k < 4294967296) (hm : ∀ j, j < 16384 → 0 ≤ m j ∧ m j < 256) (hi : OpIn o) :
    (0 ≤ (resOf X m W o).v ∧ (resOf X m W o).v < 4294967296) ∧ (0 ≤ (resOf X m W o).addr ∧ (resOf X m W o).addr < 4294967296) := by
  have hle := kn_le o.k
  have hk := hi.k
  have ha : 0 ≤ rg X o.a ∧ rg X o.a < 4294967296 := hX _ (by have := hi.a; omega)
  have hz : (0 : Int) ≤ 0 ∧ (0 : Int) < 4294967296 := by omega
  have hadr : 0 ≤ adr (rg X o.a) o.imm ∧ adr (rg X o.a) o.imm < 4294967296 := by unfold adr; omega
  unfold resOf
  split
  · exact ⟨hi.imm, hz⟩
  split
  · exact ⟨ha, hz⟩
  split
  · exact ⟨hz, hz⟩
  split
  · split
    · rename_i h5 hr
      have := loadV_rng hm [] (b := o.b) hadr.1 hr
      exact ⟨this, hz⟩
    · exact ⟨hz, hz⟩
  split
  · split
    · rename_i h6 _
      exact ⟨hX _ (by have := hi.b (by omega); omega), hadr⟩
    · exact ⟨hz, hz⟩
  split
  · exact ⟨hz, hi.imm⟩
  split
  · exact ⟨hz, hi.imm⟩
  split
  · exact ⟨hz, ha⟩
  · refine ⟨value_rng _ ha (hX _ (by have := hi.b (by omega); omega)) (hX _ (by have := hi.d (by omega); omega)), hz⟩
/-- a store that does not trap is right -/
theorem res_store {X m : Nat → Int} {W : Int → Bool} {o : Op} (h6 : kn o.k = 6) (ht : (resOf X m W o).trap = false) : rightC (resOf X m W o).addr o.d = 0 ∧ W ((resOf X m W o).addr / 256) = false := by
  unfold resOf at ht ⊢
  simp only [h6] at ht ⊢
  by_cases hr : rightC (adr (rg X o.a) o.imm) o.d = 0
  · simp [hr] at ht ⊢
    exact ht
  · simp [hr] at ht
theorem trapOf_at {X m : Nat → Int} {W : Int → Bool} : ∀ (l : List Op) (k : Nat), k < l.length → (∀ j, j < k → (resOf X m W (l.getD j nop)).trap = false) → (resOf X m W (l.getD k nop)).trap = true → trapOf X m W l = some (l.getD k nop).at_
  | [], k, h, _, _ => by simp at h
  | o :: r, 0, _, _, ht => by
    have ht2 : (resOf X m W o).trap = true := ht
    unfold trapOf
    rw [if_pos ht2]
    rfl
  | o :: r, k + 1, h, hj, ht => by
    unfold trapOf
    rw [if_neg (by have := hj 0 (by omega); simp at this; rw [this]; decide)]
    exact trapOf_at r k (by simpa using h) (fun j hj' => hj (j + 1) (by omega)) ht
theorem trapOf_none {X m : Nat → Int} {W : Int → Bool} : ∀ (l : List Op), (∀ j, j < l.length → (resOf X m W (l.getD j nop)).trap = false) → trapOf X m W l = none
  | [], _ => rfl
  | o :: r, h => by
    unfold trapOf
    rw [if_neg (by have := h 0 (by simp); simp at this; rw [this]; decide)]
    exact trapOf_none r (fun j hj => h (j + 1) (by simpa using hj))
/-- a row so far applied -/
def rowUp (X m : Nat → Int) (W : Int → Bool) (l : List Op) (k : Nat) : (Nat → Int) × (Nat → Int) := applyRow X m ((l.take k).map fun o => (o, resOf X m W o))
def levUp (X m : Nat → Int) (W : Int → Bool) (l : List Op) (k : Nat) : Option Int := leaveTo none ((l.take k).map (resOf X m W))
theorem applyRow_app (X m : Nat → Int) : ∀ (a b : List (Op × RRes)), applyRow X m (a ++ b) = applyRow (applyRow X m a).1 (applyRow X m a).2 b := by
  intro a
  induction a generalizing X m with
  | nil => intro b; rfl
  | cons p r ih => intro b; exact ih _ _ b
theorem leaveTo_app : ∀ (a b : List RRes) (c : Option Int), leaveTo c (a ++ b) = leaveTo (leaveTo c a) b
  | [], b, c => rfl
  | x :: a, b, c => leaveTo_app a b _
theorem take_succ_getD (l : List Op) (k : Nat) (h : k < l.length) : l.take (k + 1) = l.take k ++ [l.getD k nop] := by
  rw [List.take_succ_eq_append_getElem h, List.getD_eq_getElem?_getD, List.getElem?_eq_getElem h]
  rfl
theorem rowUp_step (X m : Nat → Int) (W : Int → Bool) (l : List Op) (k : Nat) (h : k < l.length) :
    rowUp X m W l (k + 1) = (applyX (rowUp X m W l k).1 (l.getD k nop) (resOf X m W (l.getD k nop)), applyM (rowUp X m W l k).2 (l.getD k nop) (resOf X m W (l.getD k nop))) := by
  unfold rowUp
  rw [take_succ_getD l k h, List.map_append, applyRow_app]
  rfl
theorem levUp_step (X m : Nat → Int) (W : Int → Bool) (l : List Op) (k : Nat) (h : k < l.length) :
    levUp X m W l (k + 1) = if (resOf X m W (l.getD k nop)).leave = true then some (resOf X m W (l.getD k nop)).addr else levUp X m W l k := by
  unfold levUp
  rw [take_succ_getD l k h, List.map_append, leaveTo_app]
  rfl
theorem runRows_trap {W : Int → Bool} {X m : Nat → Int} {l : List Op} {r : List (List Op)} {a : Int} (h : trapOf X m W l = some a) : runRows W X m (l :: r) = .trap a := by
  unfold runRows
  rw [h]
theorem runRows_on {W : Int → Bool} {X m : Nat → Int} {l : List Op} {r : List (List Op)} (h : trapOf X m W l = none) :
    runRows W X m (l :: r) = match levUp X m W l l.length with | some pc => .leave pc (rowUp X m W l l.length).1 (rowUp X m W l l.length).2 | none => runRows W (rowUp X m W l l.length).1 (rowUp X m W l l.length).2 r := by
  conv => lhs; unfold runRows
  rw [h]
  unfold levUp rowUp
  rw [List.take_length]
  rfl
/-- where a row leaves for, as an int: -1: it does not -/
def encL : Option Int → Int
  | none => -1
  | some a => a
end Ir
end Go.Proofs.YtknhfobcejpmeaaGreatDoor
