import Derived.Test.YtgmbladcoikffaaGreatDoorIrOps
import Derived.Laws.AppendOwn
import Derived.OwnWalk
import Derived.Lib.Slices
import Derived.Lib.Hide
import Derived.Test.YtgmbladcoikffaaGreatDoorValue
import Derived.Test.YtgmbladcoikffaaGreatDoorLearn
import Derived.Test.YtgmbladcoikffaaGreatDoorIsKnown
import Derived.Test.YtgmbladcoikffaaGreatDoorOptDefs
import Derived.Test.YtgmbladcoikffaaGreatDoorIrCheck
import Derived.Deep.RegionHeld3
import Derived.Laws.CopyRow
import Derived.Test.YtgmbladcoikffaaGreatDoorDead
import Derived.LoopTactic
import Derived.Test.YtgmbladcoikffaaGreatDoorKnown
import Derived.Laws.Rows
import Derived.Laws.ResultCell
import Derived.Test.YtgmbladcoikffaaGreatDoorMach4
import Derived.Test.YtgmbladcoikffaaGreatDoorMach3
import Derived.Test.YtgmbladcoikffaaGreatDoorStDefs

/- OpsOwn -/
/- Rows of ops of the call's own; the walks of slices.Clone, OwnOps. -/
namespace Go.Proofs.YtgmbladcoikffaaGreatDoor
open Go.RowKit Go.Deep
set_option linter.unusedVariables false
set_option linter.unusedSimpArgs false

def opsL (l : List Ir.Op) : List Value := l.flatMap (fun o => (opC o).toList)
theorem opsL_len (l : List Ir.Op) : (opsL l).length = l.length * 6 := by
  induction l with
  | nil => rfl
  | cons o r ih =>
    have : opsL (o :: r) = (opC o).toList ++ opsL r := rfl
    rw [this, List.length_append, ih, List.length_cons]
    show 6 + _ = _
    omega
theorem opsL_get (l : List Ir.Op) : ∀ i q, i < l.length → q < 6 → (opsL l)[i * 6 + q]? = (opC (l.getD i Ir.nop))[q]? := by
  induction l with
  | nil => intro i q h; simp at h
  | cons o r ih =>
    intro i q h hq
    have e : opsL (o :: r) = (opC o).toList ++ opsL r := rfl
    rw [e]
    cases i with
    | zero =>
      rw [List.getElem?_append_left (by show _ < 6; omega)]
      simp
    | succ i =>
      rw [List.getElem?_append_right (by show 6 ≤ _; omega)]
      show (opsL r)[(i + 1) * 6 + q - 6]? = _
      rw [show (i + 1) * 6 + q - 6 = i * 6 + q by omega, ih i q (by simpa using h) hq]
      rfl
theorem opsL_one (l : List Ir.Op) : ∀ v ∈ opsL l, v.oneCell' = true := by
  intro v hv
  unfold opsL at hv
  obtain ⟨o, _, h⟩ := List.mem_flatMap.1 hv
  simp only [opC, List.mem_cons, List.not_mem_nil, or_false] at h
  rcases h with rfl | rfl | rfl | rfl | rfl | rfl <;> rfl
theorem OpLies.of_cells {w : World} {b o : Nat} {x : Ir.Op} (h : ∀ q, q < 6 → ∀ v, (opC x)[q]? = some v → w.cell? ⟨b, o + q, none⟩ = some v) : OpLies w b o x :=
  ⟨h 0 (by omega) _ rfl, h 1 (by omega) _ rfl, h 2 (by omega) _ rfl, h 3 (by omega) _ rfl, h 4 (by omega) _ rfl, h 5 (by omega) _ rfl⟩
theorem OpLies.cell {w : World} {b o : Nat} {x : Ir.Op} (h : OpLies w b o x) {q : Nat} (hq : q < 6) {v : Value} (hv : (opC x)[q]? = some v) : w.cell? ⟨b, o + q, none⟩ = some v := by
  have hq2 : q = 0 ∨ q = 1 ∨ q = 2 ∨ q = 3 ∨ q = 4 ∨ q = 5 := by omega
  rcases hq2 with rfl | rfl | rfl | rfl | rfl | rfl <;> (injection hv with hv; subst hv)
  · exact h.v0
  · exact h.v1
  · exact h.v2
  · exact h.v3
  · exact h.v4
  · exact h.v5
theorem OpsAt.cells {w : World} {b o n cap : Nat} {l : List Ir.Op} (V : OpsAt w (some ⟨b, o, none⟩) n cap l) : ∀ j u, (opsL l)[j]? = some u → w.cell? ((⟨b, o, none⟩ : Addr).add j) = some u := by
  intro j u hu
  have hj := (List.getElem?_eq_some_iff.1 hu).1
  rw [opsL_len, V.len] at hj
  obtain ⟨b2, o2, hb, h⟩ := V.get (i := j / 6) (by omega)
  obtain ⟨rfl, rfl⟩ : b = b2 ∧ o = o2 := by injection hb with h; injection h with h1 h2; exact ⟨h1, h2⟩
  have e := opsL_get l (j / 6) (j % 6) (by rw [V.len]; omega) (by omega)
  rw [show j / 6 * 6 + j % 6 = j by omega, hu] at e
  have := h.cell (q := j % 6) (by omega) e.symm
  rw [Addr.add_lit]
  rw [show o + j / 6 * 6 + j % 6 = o + j by omega] at this
  exact this
/-- ops of the call's own -/
theorem OpsAt.of_owns {w : World} {base n cap : Nat} {A : Option Addr} {l : List Ir.Op} (h : w.ownsRow base 85 6 (.slice A n cap) n (opsL l)) (hl : l.length = n) : OpsAt w A n cap l := by
  obtain ⟨h1, ⟨h2, h3⟩ | ⟨g, cap', cur, h2, h3, h4, h5, h6, h7, h8⟩⟩ := h
  · injection h2 with e1 e2 e3
    subst e1 e2 e3
    exact ⟨hl, Nat.le_refl _, .inl rfl⟩
  · injection h2 with e1 e2 e3
    subst e1 e3
    refine ⟨hl, h5, .inr ⟨g, 0, rfl, (Array.getElem?_eq_some_iff.1 h4).1, fun i hi => OpLies.of_cells fun q hq v hv => ?_⟩⟩
    have e := opsL_get l i q (by omega) hq
    rw [hv, ← h8, List.getElem?_take_of_lt (by omega)] at e
    unfold World.cell?
    rw [h4]
    simp only [Nat.zero_add]
    simpa using e
theorem Tryz.info_op : (Tryz.prog.info? 85).map (fun i => (i.zero, i.size, i.bytes)) = some (some (.agg #[.string ByteArray.empty, .int .i64 0, .int .i64 0, .int .i64 0, .int .u32 0, .int .i64 0]), 6, 56) := by kernel_rfl
/-- a result that is a row of ops of the call's own -/
def OpsOwn (w : World) (base : Nat) (l : List Ir.Op) (v : Value) : Prop := ∃ A cap, v = .slice A l.length cap ∧ w.ownsRow base 85 6 v l.length (opsL l)
theorem OpsOwn.at_ {w : World} {base : Nat} {l : List Ir.Op} {v : Value} (h : OpsOwn w base l v) : ∃ A cap, v = .slice A l.length cap ∧ OpsAt w A l.length cap l := by
  obtain ⟨A, cap, rfl, ho⟩ := h
  exact ⟨A, cap, rfl, OpsAt.of_owns ho rfl⟩
set_option maxHeartbeats 2000000 in
set_option maxRecDepth 100000 in
theorem clone_any (A : Option Addr) (n cap : Nat) (l : List Ir.Op) (w : World) (V : OpsAt w A n cap l) (hn : n < 1000000) :
    Calls Tryz.prog 59 #[.slice A n cap] w fun e w' => ∃ v', e = .returned v' ∧ OpsOwn w' w.heap.size l v' ∧ Keeps (fun _ => False) w w' := by
  obtain ⟨i0, hi, hz0, hz1, hz2⟩ := info_parts Tryz.info_op
  have hl := V.len
  have hnc := V.le
  have HV := Lib.hid V
  by_cases h0 : A = none
  · subst h0
    have hcap : cap = 0 := by
      obtain ⟨_, _, h | ⟨b, o, h, _⟩⟩ := V
      · exact h
      · cases h
    obtain rfl : n = 0 := by omega
    subst hcap
    have hln : l = [] := List.eq_nil_of_length_eq_zero hl
    subst hln
    clear V hl hnc HV
    have hq := fun w => Lib.run_eql_slice_nil (P := Tryz.prog) w 23 85 none 0 0 0 0 Tryz.underlying23
    go_enter Tryz.func59, Tryz.ntmps59
    go_wp2_with fail
    go_ret
    exact ⟨_, rfl, ⟨none, 0, rfl, World.ownsRow_nil _ _ _ _⟩, Keeps.refl _ _⟩
  · obtain ⟨ad, rfl⟩ : ∃ ad, A = some ad := by cases A with | none => exact absurd rfl h0 | some a => exact ⟨a, rfl⟩
    clear h0
    have HN := Lib.hid (show ∀ j u, (opsL l)[j]? = some u → (w.alloc (.cells #[] 85)).cell? (ad.add j) = some u from fun j u hu => by
      obtain ⟨h1, h2, h3 | ⟨b, o, hb, hbl, hc⟩⟩ := V
      · have : l = [] := List.eq_nil_of_length_eq_zero (by omega)
        subst this
        simp [opsL] at hu
      · injection hb with hb
        subst hb
        have V2 : OpsAt w (some ⟨b, o, none⟩) n cap l := ⟨h1, h2, .inr ⟨b, o, rfl, hbl, hc⟩⟩
        have := V2.cells j u hu
        rw [Addr.add_lit] at this ⊢
        exact cell_alloc this _)
    clear V
    have hq := fun w => Lib.run_eql_slice_nil (P := Tryz.prog) w 23 85 (some ad) n cap 0 0 Tryz.underlying23
    have hmx : 0 + n ≤ maxLen := by unfold maxLen; omega
    have hlen : (opsL l).length = n * 6 := by rw [opsL_len, hl]
    have h1 := opsL_one l
    go_enter Tryz.func59, Tryz.ntmps59
    go_wp2_with (at_builtin; go_loud (refine wpList_append_own _ rfl _ _ 23 rfl w.heap.size 85 i0 _ 6 56 Tryz.underlying23 hi hz0 hz1 hz2 rfl (by decide) (.slice (some ⟨w.heap.size, 0, none⟩) 0 0) 0 [] rfl ?c0 ad n cap (opsL l) rfl hlen HN.out h1 hmx (by omega) ?c5 ?c6))
    case c0 => exact ⟨rfl, .inr ⟨w.heap.size, 0, #[], rfl, Nat.le_refl _, blk_alloc_new _ _, Nat.le_refl _, Nat.zero_le _, rfl, rfl⟩⟩
    case c5 => simp
    case c6 =>
      intro v' w1 hown hgrow hnil
      obtain ⟨A', cap', rfl⟩ := owns_slice hown
      have hK : Keeps (fun _ => False) w w1 := ((Keeps.refl _ w).alloc (.cells #[] 85)).grown hgrow (fun k hk => by simp [Value.ownBlock] at hk; omega)
      have HO := Lib.hid (show OpsOwn w1 w.heap.size l (.slice A' n cap') from by
        subst hl
        exact ⟨A', cap', rfl, hown⟩)
      clear hown
      go_wp2
      go_ret
      exact ⟨_, rfl, HO.out, hK⟩
theorem wpList_append_none {ops : Array Oper} {rest : List Oper} {o : Oper} {a : Act} {w : World} {Q : Exit → Act → World → Prop} (hgd : o.guard = none) (s x : Operand) (t : TypeId) (ho : o.op = .call { callee := .builtin .append, args := #[s, x], argTypes := #[t, t] })
    (hs : a.eval s = .slice none 0 0) (hx : a.eval x = .slice none 0 0) (hr : (Builtin.append_ #[t, t] o.type #[.slice none 0 0, .slice none 0 0]).run Tryz.prog w = .ok (.slice none 0 0) w)
    (h : wpList Tryz.prog ops Q rest (a.put o.dst (.slice none 0 0)) w) : wpList Tryz.prog ops Q (o :: rest) a w := by
  refine wpList_plain hgd fun K' hK' => ?_
  unfold Oper.wp execOp
  simp only [ho, resolve, invoke, builtin, Sem.run_bind, Sem.run_pure, Result.andThen_ok, List.map_toArray, List.map_cons, List.map_nil, hs, hx, hr]
  exact hK' _ _ h
set_option maxHeartbeats 2000000 in
set_option maxRecDepth 100000 in
theorem ownOps_any (A : Option Addr) (n cap : Nat) (l : List Ir.Op) (w : World) (V : OpsAt w A n cap l) (hn : n < 1000000) :
    Calls Tryz.prog 10 #[.slice A n cap] w fun e w' => ∃ v', e = .returned v' ∧ OpsOwn w' w.heap.size l v' ∧ Keeps (fun _ => False) w w' := by
  obtain ⟨i0, hi, hz0, hz1, hz2⟩ := info_parts Tryz.info_op
  have hl := V.len
  have hnc := V.le
  by_cases h0 : A = none
  · subst h0
    have hcap : cap = 0 := by
      obtain ⟨_, _, h | ⟨b, o, h, _⟩⟩ := V
      · exact h
      · cases h
    obtain rfl : n = 0 := by omega
    subst hcap
    have hln : l = [] := List.eq_nil_of_length_eq_zero hl
    subst hln
    clear V hl hnc
    go_enter Tryz.func10, Tryz.ntmps10
    go_wp2
    go_ret
    exact ⟨_, rfl, ⟨none, 0, rfl, World.ownsRow_nil _ _ _ _⟩, Keeps.refl _ _⟩
  · obtain ⟨ad, rfl⟩ : ∃ ad, A = some ad := by cases A with | none => exact absurd rfl h0 | some a => exact ⟨a, rfl⟩
    clear h0
    have HN := Lib.hid (show ∀ j u, (opsL l)[j]? = some u → w.cell? (ad.add j) = some u from fun j u hu => by
      obtain ⟨h1, h2, h3 | ⟨b, o, hb, hbl, hc⟩⟩ := V
      · have : l = [] := List.eq_nil_of_length_eq_zero (by omega)
        subst this
        simp [opsL] at hu
      · injection hb with hb
        subst hb
        have V2 : OpsAt w (some ⟨b, o, none⟩) n cap l := ⟨h1, h2, .inr ⟨b, o, rfl, hbl, hc⟩⟩
        exact V2.cells j u hu)
    clear V
    have hmx : 0 + n ≤ maxLen := by unfold maxLen; omega
    have hlen : (opsL l).length = n * 6 := by rw [opsL_len, hl]
    have h1 := opsL_one l
    go_enter Tryz.func10, Tryz.ntmps10
    go_wp2_with (at_builtin; go_loud (refine wpList_append_own _ rfl _ _ 23 rfl w.heap.size 85 i0 _ 6 56 Tryz.underlying23 hi hz0 hz1 hz2 rfl (by decide) (.slice none 0 0) 0 [] rfl (World.ownsRow_nil _ _ _ _) ad n cap (opsL l) rfl hlen HN.out h1 hmx (by omega) (Nat.le_refl _) ?c6))
    case c6 =>
      intro v' w1 hown hgrow hnil
      obtain ⟨A', cap', rfl⟩ := owns_slice hown
      have hK : Keeps (fun _ => False) w w1 := (Keeps.refl _ w).grown hgrow (fun k hk => by simp [Value.ownBlock] at hk)
      have HO := Lib.hid (show OpsOwn w1 w.heap.size l (.slice A' n cap') from by
        subst hl
        exact ⟨A', cap', rfl, hown⟩)
      clear hown
      go_wp2
      go_ret
      exact ⟨_, rfl, HO.out, hK⟩
end Go.Proofs.YtgmbladcoikffaaGreatDoor

/- FoldL -/
/- What folding wants: ranges of values, an op stored into a row of the call's own. No walk. -/
namespace Go.Proofs.YtgmbladcoikffaaGreatDoor
open Go.RowKit Go.Deep
set_option linter.unusedVariables false
set_option linter.unusedSimpArgs false

theorem bits3_rng {a b : Int} (ha : 0 ≤ a ∧ a < 4294967296) (hb : 0 ≤ b ∧ b < 4294967296) : (0 ≤ bits .and .u32 a b ∧ bits .and .u32 a b < 4294967296) ∧ (0 ≤ bits .or .u32 a b ∧ bits .or .u32 a b < 4294967296) ∧ (0 ≤ bits .xor .u32 a b ∧ bits .xor .u32 a b < 4294967296) := by
  rw [u32_and a b ha.1 ha.2 hb.1 hb.2, u32_or a b ha.1 ha.2 hb.1 hb.2, u32_xor a b ha.1 ha.2 hb.1 hb.2]
  have h1 : a.toNat &&& b.toNat < 2 ^ 32 := Nat.and_lt_two_pow _ (by omega)
  have h2 : a.toNat ||| b.toNat < 2 ^ 32 := Nat.or_lt_two_pow (by omega) (by omega)
  have h3 : a.toNat ^^^ b.toNat < 2 ^ 32 := Nat.xor_lt_two_pow (by omega) (by omega)
  omega
theorem shift_rng {k a n : Int} (ha : 0 ≤ a ∧ a < 4294967296) : 0 ≤ Wd.shift k a n ∧ Wd.shift k a n < 4294967296 := by
  unfold Wd.shift
  split
  · unfold Wd.shl; omega
  split
  · unfold Wd.shr
    have h1 := (Wd.p2' (n % 32).toNat (by omega)).1
    generalize (2 : Int) ^ (n % 32).toNat = q at *
    refine ⟨Int.ediv_nonneg ha.1 (by omega), ?_⟩
    have := Int.ediv_le_self q ha.1
    omega
  split
  · unfold Wd.sar; omega
  · exact ha
theorem sumsV_rng (c : Nat) {a b : Int} (ha : 0 ≤ a ∧ a < 4294967296) (hb : 0 ≤ b ∧ b < 4294967296) : 0 ≤ Ir.sumsV c a b ∧ Ir.sumsV c a b < 4294967296 := by
  obtain ⟨h1, h2, h3⟩ := bits3_rng ha hb
  have h4 := (bits3_rng (a := 4294967295) (by omega) h2).2.2
  unfold Ir.sumsV
  split
  · omega
  · omega
  · exact h1
  · exact h2
  · exact h3
  · exact h4
  · exact shift_rng ha
  · exact shift_rng ha
  · exact shift_rng ha
  · unfold Wd.lo; omega
  · unfold Wd.hi; omega
  · unfold Wd.hi; omega
  · split <;> omega
  · split <;> omega
/-- facts that are words -/
def FactsU (f : Ir.Facts) : Prop := ∀ k v, f k = some v → 0 ≤ v ∧ v < 4294967296
theorem FactsU.fof {f : Ir.Facts} (h : FactsU f) (n : Int) : 0 ≤ (Ir.fof f n).getD 0 ∧ (Ir.fof f n).getD 0 < 4294967296 := by
  unfold Ir.fof
  split
  · decide
  · cases e : f n with
    | none => decide
    | some v => exact h n v e
theorem FactsU.learn {f : Ir.Facts} (h : FactsU f) {o : Ir.Op} (ho : OpOk o) : FactsU (Ir.learn f o) := by
  unfold Ir.learn
  split
  · exact h
  · intro k v hv
    simp only at hv
    split at hv
    · split at hv
      · injection hv with hv
        subst hv
        have := ho.imm
        unfold u32R at this
        omega
      · cases hv
    · exact h k v hv
theorem foldOp_ok {f : Ir.Facts} {o : Ir.Op} (h : FactsU f) (ho : OpOk o) : OpOk (Ir.foldOp f o) := by
  have h0 : i64R 0 := ⟨by decide, by decide⟩
  unfold Ir.foldOp
  split
  · rename_i hf
    refine ⟨ho.d, h0, h0, ?_, ho.at_⟩
    unfold Ir.foldable at hf
    simp only [Bool.and_eq_true, Bool.not_eq_true'] at hf
    have e : Ir.value (Ir.kn o.k) ((Ir.fof f o.a).getD 0) ((Ir.fof f o.b).getD 0) 0 = Ir.sumsV (Ir.kn o.k) ((Ir.fof f o.a).getD 0) ((Ir.fof f o.b).getD 0) := by
      unfold Ir.value
      rw [hf.1.1.2]
      rfl
    have := sumsV_rng (Ir.kn o.k) (h.fof o.a) (h.fof o.b)
    show u32R (Ir.value _ _ _ _)
    rw [e]
    unfold u32R
    omega
  · split
    · refine ⟨ho.d, h0, h0, ?_, ho.at_⟩
      have := h.fof o.a
      show u32R ((Ir.fof f o.a).getD 0)
      unfold u32R
      omega
    · exact ho
/-- every op is in range; a sum's second letter is a register -/
structure OpsOk (l : List Ir.Op) : Prop where
  ok : ∀ o ∈ l, OpOk o
  reg : ∀ o ∈ l, Ir.isSum (Ir.kn o.k) = true → 0 ≤ o.b ∧ o.b < 64
theorem getD_mem {l : List Ir.Op} {i : Nat} (hi : i < l.length) : l.getD i Ir.nop ∈ l := by
  rw [List.getD_eq_getElem?_getD, List.getElem?_eq_getElem hi]
  exact List.getElem_mem hi
/-- so far folded -/
def foldTo (l : List Ir.Op) (i : Nat) : List Ir.Op := (Ir.fold l).take i ++ l.drop i
theorem foldTo_zero (l : List Ir.Op) : foldTo l 0 = l := rfl
theorem foldTo_len (l : List Ir.Op) (i : Nat) (hi : i ≤ l.length) : (foldTo l i).length = l.length := by
  unfold foldTo
  rw [List.length_append, List.length_take, List.length_drop, Ir.fold_len]
  omega
theorem foldTo_all (l : List Ir.Op) : foldTo l l.length = Ir.fold l := by
  unfold foldTo
  rw [List.drop_length, List.append_nil, ← Ir.fold_len, List.take_length]
theorem foldTo_at (l : List Ir.Op) (i : Nat) (hi : i < l.length) : (foldTo l i).getD i Ir.nop = l.getD i Ir.nop := by
  unfold foldTo
  have h1 : ((Ir.fold l).take i).length = i := by rw [List.length_take, Ir.fold_len]; omega
  rw [List.getD_eq_getElem?_getD, List.getElem?_append_right (by omega), h1, Nat.sub_self, List.getElem?_drop, Nat.add_zero, ← List.getD_eq_getElem?_getD]
theorem foldTo_step (l : List Ir.Op) (i : Nat) (hi : i < l.length) : foldTo l (i + 1) = (foldTo l i).set i (Ir.foldOp (Ir.factsOf ((Ir.fold l).take i)) (l.getD i Ir.nop)) := by
  have h1 : ((Ir.fold l).take i).length = i := by rw [List.length_take, Ir.fold_len]; omega
  rw [← Ir.fold_at l i hi]
  unfold foldTo
  rw [List.set_append_right _ _ (by omega), h1, Nat.sub_self]
  have e1 : (Ir.fold l).take (i + 1) = (Ir.fold l).take i ++ [(Ir.fold l).getD i Ir.nop] := by
    have hf : i < (Ir.fold l).length := by rw [Ir.fold_len]; exact hi
    rw [List.take_succ_eq_append_getElem hf]
    congr 1
    rw [List.getD_eq_getElem?_getD, List.getElem?_eq_getElem hf]
    rfl
  have e2 : (l.drop i).set 0 ((Ir.fold l).getD i Ir.nop) = (Ir.fold l).getD i Ir.nop :: l.drop (i + 1) := by
    rw [List.drop_eq_getElem_cons hi]
    rfl
  rw [e1, e2, List.append_assoc]
  rfl
theorem facts_foldTo (l : List Ir.Op) (i : Nat) (hi : i < l.length) : Ir.factsOf ((Ir.fold l).take (i + 1)) = Ir.learn (Ir.factsOf ((Ir.fold l).take i)) (Ir.foldOp (Ir.factsOf ((Ir.fold l).take i)) (l.getD i Ir.nop)) := by
  rw [facts_stepk (Ir.fold l) i (by rw [Ir.fold_len]; exact hi), Ir.fold_at l i hi]
theorem facts_u (l : List Ir.Op) (h : OpsOk l) : ∀ i, i ≤ l.length → FactsU (Ir.factsOf ((Ir.fold l).take i))
  | 0, _ => fun k v hv => by cases hv
  | i + 1, hi => by
    have h1 := facts_u l h i (by omega)
    rw [facts_foldTo l i (by omega)]
    exact h1.learn (foldOp_ok h1 (h.ok _ (getD_mem (by omega))))
/-- AN OP STORED into a row of the call's own -/
theorem owns_set {w : World} {base g n cap : Nat} {l : List Ir.Op} (h : w.ownsRow base 85 6 (.slice (some ⟨g, 0, none⟩) n cap) n (opsL l)) (hl : l.length = n) (i : Nat) (hi : i < n) (x : Ir.Op) (a : Nat) (ha : a = i * 6) :
    ((((((w.setCell ⟨g, a, none⟩ (.string x.k)).setCell ⟨g, a + 1, none⟩ (.int .i64 x.d)).setCell ⟨g, a + 2, none⟩ (.int .i64 x.a)).setCell ⟨g, a + 3, none⟩ (.int .i64 x.b)).setCell ⟨g, a + 4, none⟩ (.int .u32 x.imm)).setCell ⟨g, a + 5, none⟩ (.int .i64 x.at_)).ownsRow base 85 6 (.slice (some ⟨g, 0, none⟩) n cap) n (opsL (l.set i x)) ∧
      Keeps (· = g) w ((((((w.setCell ⟨g, a, none⟩ (.string x.k)).setCell ⟨g, a + 1, none⟩ (.int .i64 x.d)).setCell ⟨g, a + 2, none⟩ (.int .i64 x.a)).setCell ⟨g, a + 3, none⟩ (.int .i64 x.b)).setCell ⟨g, a + 4, none⟩ (.int .u32 x.imm)).setCell ⟨g, a + 5, none⟩ (.int .i64 x.at_)) := by
  subst ha
  refine ⟨?_, Keeps.trans (Keeps.trans (Keeps.trans (Keeps.trans (Keeps.trans (Keeps.one _ _ _ _) (Keeps.one _ _ _ _) (fun _ _ h => h)) (Keeps.one _ _ _ _) (fun _ _ h => h)) (Keeps.one _ _ _ _) (fun _ _ h => h)) (Keeps.one _ _ _ _) (fun _ _ h => h)) (Keeps.one _ _ _ _) (fun _ _ h => h)⟩
  obtain ⟨h1, ⟨h2, _⟩ | ⟨g', cap', cur, h2, h3, h4, h5, h6, h7, h8⟩⟩ := h
  · cases h2
  injection h2 with e1 e2 e3
  injection e1 with e1
  injection e1 with e1
  subst e1 e3
  refine ⟨by rw [opsL_len, List.length_set, hl], .inr ⟨g, cap, _, rfl, h3, set_block (set_block (set_block (set_block (set_block (set_block h4 (i * 6) (.string x.k)) (i * 6 + 1) (.int .i64 x.d)) (i * 6 + 2) (.int .i64 x.a)) (i * 6 + 3) (.int .i64 x.b)) (i * 6 + 4) (.int .u32 x.imm)) (i * 6 + 5) (.int .i64 x.at_), h5, h6, by simpa using h7, ?_⟩⟩
  have hb : i * 6 + 5 < cur.size := by rw [h7]; omega
  refine List.ext_getElem? fun j => ?_
  by_cases hj : j < n * 6
  · rw [List.getElem?_take_of_lt hj]
    have hq : j / 6 < n := by omega
    have e := opsL_get (l.set i x) (j / 6) (j % 6) (by rw [List.length_set]; omega) (by omega)
    rw [show j / 6 * 6 + j % 6 = j by omega] at e
    have e0 := opsL_get l (j / 6) (j % 6) (by omega) (by omega)
    rw [show j / 6 * 6 + j % 6 = j by omega, ← h8, List.getElem?_take_of_lt hj] at e0
    rw [e]
    simp only [Array.getElem?_toList, Array.getElem?_setIfInBounds] at e0 ⊢
    by_cases hji : j / 6 = i
    · have hx : (l.set i x).getD (j / 6) Ir.nop = x := by
        rw [hji, List.getD_eq_getElem?_getD, List.getElem?_set_self (by omega)]
        rfl
      rw [hx]
      have hr : j % 6 = 0 ∨ j % 6 = 1 ∨ j % 6 = 2 ∨ j % 6 = 3 ∨ j % 6 = 4 ∨ j % 6 = 5 := by omega
      rcases hr with hr | hr | hr | hr | hr | hr <;> rw [hr]
      · obtain rfl : j = i * 6 := by omega
        simp [opC, show i * 6 < cur.size by omega]
      · obtain rfl : j = i * 6 + 1 := by omega
        simp [opC, show i * 6 + 1 < cur.size by omega]
      · obtain rfl : j = i * 6 + 2 := by omega
        simp [opC, show i * 6 + 2 < cur.size by omega]
      · obtain rfl : j = i * 6 + 3 := by omega
        simp [opC, show i * 6 + 3 < cur.size by omega]
      · obtain rfl : j = i * 6 + 4 := by omega
        simp [opC, show i * 6 + 4 < cur.size by omega]
      · obtain rfl : j = i * 6 + 5 := by omega
        simp [opC, hb]
    · have hx : (l.set i x).getD (j / 6) Ir.nop = l.getD (j / 6) Ir.nop := by
        rw [List.getD_eq_getElem?_getD, List.getElem?_set_ne (fun h => hji h.symm), ← List.getD_eq_getElem?_getD]
      rw [hx]
      simp [show i * 6 ≠ j by omega, show i * 6 + 1 ≠ j by omega, show i * 6 + 2 ≠ j by omega, show i * 6 + 3 ≠ j by omega, show i * 6 + 4 ≠ j by omega, show i * 6 + 5 ≠ j by omega]
      exact e0
  · rw [List.getElem?_eq_none (by rw [List.length_take]; omega), List.getElem?_eq_none (by rw [opsL_len, List.length_set]; omega)]
/-- a row of the call's own: one op of it, to be read and to be overwritten -/
theorem owns_get {w : World} {base g n cap : Nat} {l : List Ir.Op} (h : w.ownsRow base 85 6 (.slice (some ⟨g, 0, none⟩) n cap) n (opsL l)) (hl : l.length = n) (i : Nat) (hi : i < n) (a : Nat) (ha : a = i * 6) :
    OpLies w g a (l.getD i Ir.nop) ∧ ∀ q, w.frozen? ⟨g, q, none⟩ = false := by
  subst ha
  constructor
  · obtain ⟨b, o, e, hc⟩ := (OpsAt.of_owns h hl).get hi
    injection e with e
    injection e with e1 e2
    subst e1 e2
    rw [Nat.zero_add] at hc
    exact hc
  · obtain ⟨_, ⟨h2, _⟩ | ⟨g', cap', cur, h2, h3, h4, _⟩⟩ := h
    · cases h2
    injection h2 with e1 e2 e3
    injection e1 with e1
    injection e1 with e1
    subst e1
    intro q
    simp [World.frozen?, h4]
end Go.Proofs.YtgmbladcoikffaaGreatDoor

/- SweepL -/
/- Sweeping, plainly: one step of it. -/
namespace Go.Proofs.YtgmbladcoikffaaGreatDoor
namespace Ir
theorem sweepGo_same : ∀ (n m : Nat) (l : List Op), l.length ≤ n → l.length ≤ m → sweepGo n l = sweepGo m l
  | 0, 0, l, _, _ => rfl
  | 0, m + 1, l, hn, _ => by
    obtain rfl : l = [] := List.eq_nil_of_length_eq_zero (by omega)
    rfl
  | n + 1, 0, l, _, hm => by
    obtain rfl : l = [] := List.eq_nil_of_length_eq_zero (by omega)
    rfl
  | n + 1, m + 1, l, hn, hm => by
    unfold sweepGo
    split
    · rename_i i hi
      have h1 := (firstDead_some hi).1
      have h3 : (l.eraseIdx i).length = l.length - 1 := List.length_eraseIdx_of_lt h1
      exact sweepGo_same n m _ (by omega) (by omega)
    · rfl
theorem sweep_none {l : List Op} (h : ∀ j, j < l.length → dead l j = false) : sweep l = l := by
  have hf : firstDead l = none := by
    unfold firstDead
    rw [List.find?_eq_none]
    intro j hj
    simp [h j (List.mem_range.1 hj)]
  unfold sweep
  cases hl : l.length with
  | zero => rfl
  | succ n => unfold sweepGo; rw [hf]
theorem firstDead_at {l : List Op} {i : Nat} (hi : i < l.length) (hd : dead l i = true) (h : ∀ j, j < i → dead l j = false) : firstDead l = some i := by
  unfold firstDead
  rw [List.find?_range_eq_some]
  refine ⟨hd, List.mem_range.2 hi, fun j hj => ?_⟩
  simp [h j hj]
theorem sweep_step {l : List Op} {i : Nat} (hi : i < l.length) (hd : dead l i = true) (h : ∀ j, j < i → dead l j = false) : sweep l = sweep (l.eraseIdx i) := by
  have h3 : (l.eraseIdx i).length = l.length - 1 := List.length_eraseIdx_of_lt hi
  unfold sweep
  cases hl : l.length with
  | zero => omega
  | succ n =>
    conv => lhs; unfold sweepGo
    rw [firstDead_at hi hd h]
    exact sweepGo_same _ _ _ (by omega) (by omega)
end Ir
end Go.Proofs.YtgmbladcoikffaaGreatDoor

/- OptL -/
/- Of better codes, what the walks need: ranges, and what Opt answers. -/
namespace Go.Proofs.YtgmbladcoikffaaGreatDoor
open Go.RowKit Go.Deep
set_option linter.unusedVariables false
set_option linter.unusedSimpArgs false

theorem regs_b {o : Ir.Op} {many : Int} (h : Ir.opErr o many = 0) (hs : Ir.isSum (Ir.kn o.k) = true) : 0 ≤ o.b ∧ o.b < 64 := by
  unfold Ir.opErr at h
  split at h
  · cases h
  split at h
  · cases h
  rename_i h2
  rw [Bool.not_eq_false] at h2
  simp only [Bool.and_eq_true, decide_eq_true_eq] at h2
  obtain ⟨⟨⟨h3, h4⟩, h5⟩, h6⟩ := h2
  unfold Ir.regs at h3
  simp only [Bool.and_eq_true, Bool.or_eq_true, decide_eq_true_eq, Bool.not_eq_true'] at h3
  unfold Ir.isSum at hs
  have hs := of_decide_eq_true hs
  rcases h3.2 with (h7 | h7) | h7
  · unfold Ir.hasB at h7
    simp at h7
    omega
  · omega
  · exact h7
theorem ops_ok_good {many : Int} {l : List Ir.Op} (h : Ir.Good many l) (hok : ∀ o ∈ l, OpOk o) : OpsOk l := by
  refine ⟨hok, fun o ho hs => ?_⟩
  obtain ⟨i, hi, rfl⟩ := List.getElem_of_mem ho
  have h1 := (Ir.errAt_zero.1 (h.each i hi)).1
  rw [List.getD_eq_getElem?_getD, List.getElem?_eq_getElem hi] at h1
  exact regs_b h1 hs
theorem fold_ops_ok {l : List Ir.Op} (h : OpsOk l) : ∀ o ∈ Ir.fold l, OpOk o := by
  intro o ho
  obtain ⟨i, hi, rfl⟩ := List.getElem_of_mem ho
  have hl := Ir.fold_len l
  have e := Ir.fold_at l i (by omega)
  rw [List.getD_eq_getElem?_getD, List.getElem?_eq_getElem hi] at e
  simp only [Option.getD_some] at e
  rw [e]
  exact foldOp_ok (facts_u l h i (by omega)) (h.ok _ (getD_mem (by omega)))
theorem sweepGo_mem : ∀ (n : Nat) (l : List Ir.Op), ∀ o ∈ Ir.sweepGo n l, o ∈ l
  | 0, _, _, h => h
  | n + 1, l, o, h => by
    unfold Ir.sweepGo at h
    split at h
    · rename_i i hi
      exact (List.eraseIdx_sublist l i).subset (sweepGo_mem n _ o h)
    · exact h
theorem opt_ops_ok {l : List Ir.Op} (h : OpsOk l) (v : Int) : ∀ o ∈ Ir.opt l v, OpOk o := by
  unfold Ir.opt
  split
  · exact h.ok
  · split
    · exact fold_ops_ok h
    · exact fun o ho => fold_ops_ok h o (sweepGo_mem _ _ o ho)
/-- what is wrong of a code and a level -/
def Ir.optFault (many : Int) (l : List Ir.Op) (level : Int) : Nat × Int := if (Ir.fault many l).1 ≠ 0 then Ir.fault many l else if level < 0 ∨ 2 < level then (2, -1) else (0, -1)
/-- WHAT Opt ANSWERS: a code, and an error -/
def OptIs (w : World) (ea : Nat → Addr) (pc many : Int) (l : List Ir.Op) (level : Int) (cv ev : Value) : Prop :=
  FaultIs w ea (Ir.optFault many l level) ev ∧
  (((Ir.optFault many l level).1 ≠ 0 ∧ cv = .agg #[.int .u32 0, .int .i64 0, .slice none 0 0]) ∨
   ((Ir.optFault many l level).1 = 0 ∧ ∃ A cap, cv = .agg #[.int .u32 pc, .int .i64 many, .slice A (Ir.opt l level).length cap] ∧ OpsAt w A (Ir.opt l level).length cap (Ir.opt l level) ∧ cap ≤ 9223372036854775807))
theorem OptIs.keep {w w' : World} {ea : Nat → Addr} {pc many : Int} {l : List Ir.Op} {level : Int} {cv ev : Value} (h : OptIs w ea pc many l level cv ev) (k : Keeps (fun _ => False) w w') : OptIs w' ea pc many l level cv ev := by
  obtain ⟨h1, h2⟩ := h
  refine ⟨h1.keep k, ?_⟩
  rcases h2 with h2 | ⟨h2, A, cap, h3, h4, h5⟩
  · exact .inl h2
  · exact .inr ⟨h2, A, cap, h3, h4.quiet k, h5⟩
end Go.Proofs.YtgmbladcoikffaaGreatDoor

/- Fold -/
/- The walk of opt.fold. -/
namespace Go.Proofs.YtgmbladcoikffaaGreatDoor
open Go.RowKit Go.Deep
set_option linter.unusedVariables false
set_option linter.unusedSimpArgs false

/-- the loop's state between two rounds -/
structure FoldAt (w wr : World) (mb g n cap i : Nat) (l : List Ir.Op) : Prop where
  facts : FactsAt wr mb i (Ir.factsOf ((Ir.fold l).take i))
  row : wr.ownsRow w.heap.size 85 6 (.slice (some ⟨g, 0, none⟩) n cap) n (opsL (foldTo l i))
  k : Keeps (fun _ => False) w wr
  hm : w.heap.size ≤ mb
  hg : w.heap.size ≤ g
  ne : mb ≠ g
  lt : mb < wr.heap.size
theorem FoldAt.keep {w wr w' : World} {mb g n cap i : Nat} {l : List Ir.Op} (F : FoldAt w wr mb g n cap i l) (k : Keeps (fun _ => False) wr w') : FoldAt w w' mb g n cap i l :=
  ⟨F.facts.keep k (fun h => h), owns_keep F.row k (fun _ _ h => h), F.k.trans k (fun _ _ h => h), F.hm, F.hg, F.ne, Nat.lt_of_lt_of_le F.lt k.size⟩
theorem FoldAt.get {w wr : World} {mb g n cap i : Nat} {l : List Ir.Op} (F : FoldAt w wr mb g n cap i l) (hl : l.length = n) (hi : i < n) (a : Nat) (ha : a = i * 6) : OpLies wr g a (l.getD i Ir.nop) ∧ ∀ q, wr.frozen? ⟨g, q, none⟩ = false := by
  have h := owns_get F.row ((foldTo_len l i (by omega)).trans hl) i hi a ha
  rw [foldTo_at l i (by omega)] at h
  exact h
/-- behind the round's store, if there was one: the row one op further -/
structure FoldMid (w wr : World) (mb g n cap i : Nat) (l : List Ir.Op) : Prop where
  facts : FactsAt wr mb i (Ir.factsOf ((Ir.fold l).take i))
  row : wr.ownsRow w.heap.size 85 6 (.slice (some ⟨g, 0, none⟩) n cap) n (opsL (foldTo l (i + 1)))
  k : Keeps (fun _ => False) w wr
  hm : w.heap.size ≤ mb
  hg : w.heap.size ≤ g
  ne : mb ≠ g
  lt : mb < wr.heap.size
theorem FoldMid.get {w wr : World} {mb g n cap i : Nat} {l : List Ir.Op} (F : FoldMid w wr mb g n cap i l) (hl : l.length = n) (hi : i < n) (a : Nat) (ha : a = i * 6) : OpLies wr g a (Ir.foldOp (Ir.factsOf ((Ir.fold l).take i)) (l.getD i Ir.nop)) := by
  have h := (owns_get F.row ((foldTo_len l (i + 1) (by omega)).trans hl) i hi a ha).1
  rw [foldTo_step l i (by omega), List.getD_eq_getElem?_getD, List.getElem?_set_self (by rw [foldTo_len l i (by omega)]; omega)] at h
  exact h
theorem FoldAt.same {w wr : World} {mb g n cap i : Nat} {l : List Ir.Op} (F : FoldAt w wr mb g n cap i l) (hl : l.length = n) (hi : i < n) (h : Ir.foldOp (Ir.factsOf ((Ir.fold l).take i)) (l.getD i Ir.nop) = l.getD i Ir.nop) : FoldMid w wr mb g n cap i l := by
  refine ⟨F.facts, ?_, F.k, F.hm, F.hg, F.ne, F.lt⟩
  have e : foldTo l (i + 1) = foldTo l i := by
    rw [foldTo_step l i (by omega), h, ← foldTo_at l i (by omega)]
    have hlt : i < (foldTo l i).length := by rw [foldTo_len l i (by omega)]; omega
    rw [List.getD_eq_getElem?_getD, List.getElem?_eq_getElem hlt]
    exact List.set_getElem_self hlt
  rw [e]
  exact F.row
theorem FoldAt.store {w wr : World} {mb g n cap i : Nat} {l : List Ir.Op} (F : FoldAt w wr mb g n cap i l) (hl : l.length = n) (hi : i < n) (p : Nat) (hp : p = i * 6) {k : ByteArray} {d a b im t : Int} (h : Ir.foldOp (Ir.factsOf ((Ir.fold l).take i)) (l.getD i Ir.nop) = ⟨k, d, a, b, im, t⟩) :
    FoldMid w ((((((wr.setCell ⟨g, p, none⟩ (.string k)).setCell ⟨g, p + 1, none⟩ (.int .i64 d)).setCell ⟨g, p + 2, none⟩ (.int .i64 a)).setCell ⟨g, p + 3, none⟩ (.int .i64 b)).setCell ⟨g, p + 4, none⟩ (.int .u32 im)).setCell ⟨g, p + 5, none⟩ (.int .i64 t)) mb g n cap i l := by
  obtain ⟨h1, h2⟩ := owns_set F.row ((foldTo_len l i (by omega)).trans hl) i hi ⟨k, d, a, b, im, t⟩ p hp
  refine ⟨F.facts.keep h2 F.ne, ?_, F.k.trans h2 (fun b hb h => by have := F.hg; omega), F.hm, F.hg, F.ne, Nat.lt_of_lt_of_le F.lt h2.size⟩
  rw [foldTo_step l i (by omega), h]
  exact h1
theorem FoldMid.keep {w wr w' : World} {mb g n cap i : Nat} {l : List Ir.Op} (F : FoldMid w wr mb g n cap i l) (k : Keeps (fun _ => False) wr w') : FoldMid w w' mb g n cap i l :=
  ⟨F.facts.keep k (fun h => h), owns_keep F.row k (fun _ _ h => h), F.k.trans k (fun _ _ h => h), F.hm, F.hg, F.ne, Nat.lt_of_lt_of_le F.lt k.size⟩
theorem FoldMid.next {w wr w' : World} {mb g n cap i : Nat} {l : List Ir.Op} (F : FoldMid w wr mb g n cap i l) (hl : l.length = n) (hi : i < n) (h : FactsAt w' mb (i + 1) (Ir.learn (Ir.factsOf ((Ir.fold l).take i)) (Ir.foldOp (Ir.factsOf ((Ir.fold l).take i)) (l.getD i Ir.nop)))) (k : Keeps (· = mb) wr w') : FoldAt w w' mb g n cap (i + 1) l := by
  refine ⟨by rw [facts_foldTo l i (by omega)]; exact h, owns_keep F.row k (fun q hq h => ?_), F.k.trans k (fun b hb h => by have := F.hm; omega), F.hm, F.hg, F.ne, Nat.lt_of_lt_of_le F.lt k.size⟩
  injection hq with hq
  exact F.ne (h.symm.trans hq.symm)
theorem rem64 (b : Int) : IntKind.i64.wrap (b.tmod 64) = b.tmod 64 ∧ i64R (b.tmod 64) := by
  have h1 := Int.tmod_lt_of_pos b (b := 64) (by omega)
  have h2 := Int.tmod_lt_of_pos (-b) (b := 64) (by omega)
  rw [Int.neg_tmod] at h2
  refine ⟨?_, ?_⟩
  · rw [IntKind.wrap_i64]; omega
  · unfold i64R; omega


set_option maxHeartbeats 4000000 in
set_option maxRecDepth 100000 in
theorem fold_any (A : Option Addr) (n cap : Nat) (l : List Ir.Op) (w : World) (V : OpsAt w A n cap l) (hn : n < 1000000) (hok : OpsOk l) :
    Calls Tryz.prog 60 #[.slice A n cap] w fun e w' => ∃ v, e = .returned v ∧ OpsOwn w' w.heap.size (Ir.fold l) v ∧ Keeps (fun _ => False) w w' := by
  have HL := Lib.hid V.len
  have HV := Lib.hid V
  have HOK := Lib.hid hok
  clear V hok
  obtain ⟨B, hB⟩ : ∃ B, w.heap.size = B := ⟨_, rfl⟩
  rw [hB]
  have HB := Lib.hid hB.symm
  clear hB
  have HFM := Lib.hid (facts_made w)
  have HAL := Lib.hid ((Keeps.refl (fun _ => False) w).alloc (.map #[] 0))
  have hmm := @run_makeMap Tryz.prog
  go_enter Tryz.func60, Tryz.ntmps60
  go_upto_region 2 with fail
  clear hmm
  have hfm := HFM.out
  have hal := HAL.out
  obtain ⟨mb, hmb⟩ : ∃ b, w.heap.size = b := ⟨_, rfl⟩
  clear HFM HAL
  have HMB := Lib.hid hmb
  rw [hmb] at hfm ⊢
  clear hmb
  generalize w.alloc _ = wm at *
  have HFM := Lib.hid hfm
  have HAL := Lib.hid hal
  clear hfm hal
  have HCL := Lib.hid (clone_any A n cap l wm (HV.out.quiet HAL.out) hn)
  go_wp2_with fail
  refine HCL.out.mono ?_
  rintro e w2 ⟨v, rfl, ⟨A', cap', rfl, ho⟩, hk2⟩
  rw [HL.out] at ho ⊢
  have HK2 := Lib.hid (HAL.out.trans hk2 (fun _ _ h => h))
  have HM2 := Lib.hid (HFM.out.keep hk2 (fun h => h))
  have HO := Lib.hid ho
  clear hk2
  obtain ⟨hlen, ⟨h0, hn0⟩ | ⟨g, cap2, cur, h2, h3, h4, h5, h6, h7, h8⟩⟩ := ho
  · injection h0 with e1 e2 e3
    subst e1 e3
    subst hn0
    have HNIL := Lib.hid (show Ir.fold l = [] by rw [List.eq_nil_of_length_eq_zero HL.out]; rfl)
    clear hlen e2
    go_wp2_with fail
    go_loopw [16] (fun s16 wr => s16 = .int .i64 0 ∧ wr = w2) (fun _ _ => 0)
    case atStart => exact ⟨rfl, rfl⟩
    case round =>
      obtain ⟨rfl, rfl⟩ := hrel
      go_wp2_with fail
      go_ret
      rw [HNIL.out]
      exact ⟨_, rfl, ⟨none, 0, rfl, World.ownsRow_nil _ _ _ _⟩, HK2.out⟩
  · injection h2 with e1 e2 e3
    subst e1 e3
    have HFA := Lib.hid (show FoldAt w w2 mb g n cap' 0 l from by
      have hlt := HFM.out.lt
      have := HAL.out.size
      refine ⟨HM2.out, ⟨hlen, .inr ⟨g, cap', cur, rfl, by omega, h4, h5, h6, h7, h8⟩⟩, HK2.out, ?_, by omega, by omega, HM2.out.lt⟩
      rw [← HMB.out]
      omega)
    clear h3 h4 h5 h7 h8 hlen e2
    obtain ⟨o, ho0⟩ : ∃ o, o = 0 := ⟨0, rfl⟩
    rw [show (Value.slice (some ⟨g, 0, none⟩) n cap') = .slice (some ⟨g, o, none⟩) n cap' by rw [ho0]]
    have HO0 := Lib.hid ho0
    have HCAP := Lib.hid h6
    clear ho0 h6
    go_wp2_with fail
    go_loopw [16] (fun s16 wr => ∃ i : Nat, i ≤ n ∧ s16 = .int .i64 i ∧ FoldAt w wr mb g n cap' i l) (fun s16 _ => n - (intOf s16).toNat)
    case atStart => exact ⟨0, by omega, rfl, HFA.out⟩
    case round =>
      obtain ⟨i, hi, rfl, hF⟩ := hrel
      have HF := Lib.hid hF
      clear hF
      by_cases hlt : i < n
      · have HP := Lib.hid (show o + i * 6 = i * 6 by rw [HO0.out, Nat.zero_add])
        have HIL := Lib.hid (show i < l.length by rw [HL.out]; exact hlt)
        obtain ⟨hE, hfz⟩ := HF.out.get HL.out hlt (o + i * 6) HP.out
        obtain ⟨e0, e1, e2, e3, e4, e5⟩ := hE
        have HOP := Lib.hid (HOK.out.ok _ (getD_mem HIL.out))
        have HRG := Lib.hid (HOK.out.reg _ (getD_mem HIL.out))
        have HFU := Lib.hid (facts_u l HOK.out i (Nat.le_of_lt HIL.out))
        have HGET := Lib.hid (fun w' (F : FoldAt w w' mb g n cap' i l) => F.get HL.out hlt (o + i * 6) HP.out)
        have HSTO := Lib.hid (fun w' (F : FoldAt w w' mb g n cap' i l) k d a b im t => F.store HL.out hlt (o + i * 6) HP.out (k := k) (d := d) (a := a) (b := b) (im := im) (t := t))
        have HSAM := Lib.hid (fun w' (F : FoldAt w w' mb g n cap' i l) => F.same HL.out hlt)
        have HMGT := Lib.hid (fun w' (F : FoldMid w w' mb g n cap' i l) => F.get HL.out hlt (o + i * 6) HP.out)
        have HNXT := Lib.hid (fun w1 w' (F : FoldMid w w1 mb g n cap' i l) => F.next (w' := w') HL.out hlt)
        have HFAC := Lib.hid (fun w' (F : FoldAt w w' mb g n cap' i l) => F.facts)
        have HMFA := Lib.hid (fun w' (F : FoldMid w w' mb g n cap' i l) => F.facts)
        obtain ⟨ff, hff⟩ : ∃ ff, Ir.factsOf ((Ir.fold l).take i) = ff := ⟨_, rfl⟩
        rw [hff] at HFU HSTO HSAM HMGT HNXT HFAC HMFA
        clear hff
        obtain ⟨op, hop⟩ : ∃ op, l.getD i Ir.nop = op := ⟨_, rfl⟩
        rw [hop] at e0 e1 e2 e3 e4 e5 HOP HRG HGET HSTO HSAM HMGT HNXT
        clear hop
        have HOF := Lib.hid (foldOp_ok HFU.out HOP.out)
        have HE1 := Lib.hid (show Ir.foldable ff op = true → Ir.foldOp ff op = ⟨⟨#[115, 101, 116]⟩, op.d, 0, 0, Ir.value (Ir.kn op.k) ((Ir.fof ff op.a).getD 0) ((Ir.fof ff (op.b.tmod 64)).getD 0) 0, op.at_⟩ from fun h => by
          have hb : op.b.tmod 64 = op.b := by
            have h2 := h
            unfold Ir.foldable at h2
            simp only [Bool.and_eq_true] at h2
            have := HRG.out h2.1.1.1
            rw [Int.tmod_eq_emod_of_nonneg this.1]
            omega
          unfold Ir.foldOp
          rw [if_pos h, hb]
          rfl)
        have HE2 := Lib.hid (show Ir.foldable ff op = false → (Ir.kn op.k == 2) = true → (Ir.fof ff op.a).isSome = true → Ir.foldOp ff op = ⟨⟨#[115, 101, 116]⟩, op.d, 0, 0, (Ir.fof ff op.a).getD 0, op.at_⟩ from fun h h2 h3 => by
          unfold Ir.foldOp
          rw [if_neg (by rw [h]; decide), if_pos ⟨by simpa using h2, h3⟩]
          rfl)
        have HE3 := Lib.hid (show Ir.foldable ff op = false → ¬ ((Ir.kn op.k == 2) = true ∧ (Ir.fof ff op.a).isSome = true) → Ir.foldOp ff op = op from fun h h2 => by
          unfold Ir.foldOp
          rw [if_neg (by rw [h]; decide), if_neg (fun h3 => h2 ⟨by simpa using h3.1, h3.2⟩)])
        have HGA := Lib.hid (HFU.out.fof op.a)
        have HGB := Lib.hid (HFU.out.fof (op.b.tmod 64))
        have HVA := Lib.hid (fun w => value_any op.k ((Ir.fof ff op.a).getD 0) ((Ir.fof ff (op.b.tmod 64)).getD 0) 0 w HGA.out HGB.out)
        have HFA1 := Lib.hid (fun w F => of_any mb i ff op.a w F HOP.out.a)
        obtain ⟨hrm, hrr⟩ := rem64 op.b
        have HFB1 := Lib.hid (fun w F => of_any mb i ff (op.b.tmod 64) w F hrr)
        have HFO := Lib.hid (fun w F => foldable_any mb i ff op w F HOP.out)
        have HLN := Lib.hid (fun w F => learn_any mb i ff (Ir.foldOp ff op) w F (by omega) HOF.out)
        have h2 := is_copy op.k
        have HALR := Lib.hid ((Keeps.refl (fun _ => False) wr).alloc (.cells (opC op) 85))
        have HOAR := Lib.hid (OpAt.new wr op 85)
        have hzg : wr.heap.size ≠ g := fun e => by
          have := World.block_lt_of_cell? _ _ e0
          simp only at this
          omega
        clear hrr
        generalize Ir.value (Ir.kn op.k) ((Ir.fof ff op.a).getD 0) ((Ir.fof ff (op.b.tmod 64)).getD 0) 0 = vv at *
        generalize Ir.foldOp ff op = op2 at *
        generalize Ir.foldable ff op = fo at *
        generalize (Ir.kn op.k == 2) = p2 at *
        go_upto_region 6 with fail
        have hal := HALR.out
        have hoa := HOAR.out
        simp only [opC] at hal hoa
        clear HALR HOAR
        have HFX := Lib.hid (HF.out.keep hal)
        generalize wr.alloc _ = wx at *
        generalize wr.heap.size = z at *
        have HZX := Lib.hid hoa
        obtain ⟨x0, x1, x2, x3, x4, x5⟩ := hoa
        clear hal e0 e1 e2 e3 e4 e5 hfz
        go_wp2_with fail
        refine (HFA1.out wx (HFAC.out _ HFX.out)).mono ?_
        rintro e w3 ⟨rfl, rfl⟩
        go_wp2_with fail
        refine (HFB1.out _ (HFAC.out _ HFX.out)).mono ?_
        rintro e w3a ⟨rfl, rfl⟩
        generalize (Ir.fof ff op.a).isSome = ia at *
        generalize (Ir.fof ff op.a).getD 0 = ga at *
        generalize (Ir.fof ff (op.b.tmod 64)).isSome = ib at *
        generalize (Ir.fof ff (op.b.tmod 64)).getD 0 = gb at *
        go_wp2_with fail
        refine (HFO.out _ (HFAC.out _ HFX.out)).mono ?_
        rintro e w3 ⟨rfl, hk3⟩
        have HF3 := Lib.hid (HFX.out.keep hk3)
        have HZ3 := Lib.hid (HZX.out.keep hk3 (fun h => h))
        clear x0 x1 x2 x3 x4 x5 hk3
        obtain ⟨x0, x1, x2, x3, x4, x5⟩ := HZ3.out
        have hl0 : (0 : Int) ≤ (i : Int) := by omega
        have hl1 : (i : Int) < (n : Int) := by omega
        cases fo
        · cases p2
          · have HM := Lib.hid (HSAM.out w3 HF3.out (HE3.out rfl (fun h => Bool.noConfusion h.1)))
            obtain ⟨y0, y1, y2, y3, y4, y5⟩ := HMGT.out w3 HM.out
            go_wp2_with fail
            refine (HLN.out w3 (HMFA.out _ HM.out)).mono ?_
            rintro e w5 ⟨rfl, hF5, hk5⟩
            have HN := Lib.hid (HNXT.out w3 w5 HM.out hF5 hk5)
            clear y0 y1 y2 y3 y4 y5 hF5 hk5
            go_wp2_with fail
            go_roundw
            case rel => exact ⟨i + 1, by omega, by go_num, HN.out⟩
            case measure => simp [intOf]; omega
          · cases ia
            · have HM := Lib.hid (HSAM.out w3 HF3.out (HE3.out rfl (fun h => Bool.noConfusion h.2)))
              obtain ⟨y0, y1, y2, y3, y4, y5⟩ := HMGT.out w3 HM.out
              go_wp2_with fail
              refine (HLN.out w3 (HMFA.out _ HM.out)).mono ?_
              rintro e w5 ⟨rfl, hF5, hk5⟩
              have HN := Lib.hid (HNXT.out w3 w5 HM.out hF5 hk5)
              clear y0 y1 y2 y3 y4 y5 hF5 hk5
              go_wp2_with fail
              go_roundw
              case rel => exact ⟨i + 1, by omega, by go_num, HN.out⟩
              case measure => simp [intOf]; omega
            · have HM := Lib.hid (HSTO.out w3 HF3.out _ _ _ _ _ _ (HE2.out rfl rfl rfl))
              obtain ⟨⟨f0, f1, f2, f3, f4, f5⟩, hfz⟩ := HGET.out w3 HF3.out
              go_upto_region 12 with fail
              clear f0 f1 f2 f3 f4 f5 hfz x0 x1 x2 x3 x4 x5
              generalize ((((((w3.setCell ⟨g, o + i * 6, none⟩ (.string ⟨#[115, 101, 116]⟩)).setCell ⟨g, o + i * 6 + 1, none⟩ (.int .i64 op.d)).setCell ⟨g, o + i * 6 + 2, none⟩ (.int .i64 0)).setCell ⟨g, o + i * 6 + 3, none⟩ (.int .i64 0)).setCell ⟨g, o + i * 6 + 4, none⟩ (.int .u32 ga)).setCell ⟨g, o + i * 6 + 5, none⟩ (.int .i64 op.at_)) = WW at *
              obtain ⟨y0, y1, y2, y3, y4, y5⟩ := HMGT.out WW HM.out
              go_wp2_with fail
              refine (HLN.out WW (HMFA.out _ HM.out)).mono ?_
              rintro e w5 ⟨rfl, hF5, hk5⟩
              have HN := Lib.hid (HNXT.out WW w5 HM.out hF5 hk5)
              clear y0 y1 y2 y3 y4 y5 hF5 hk5
              go_wp2_with fail
              go_roundw
              case rel => exact ⟨i + 1, by omega, by go_num, HN.out⟩
              case measure => simp [intOf]; omega
        · go_upto_region 9 with fail
          go_region_held3 (fun w' => Keeps (· = g) w3 w' ∧ w'.cell? ⟨z, 0, none⟩ = some (.string op.k) ∧ w'.cell? ⟨z, 1, none⟩ = some (.int .i64 op.d) ∧ w'.cell? ⟨z, 5, none⟩ = some (.int .i64 op.at_))
            (first | (refine ⟨?_, ?_, ?_, ?_⟩ <;> first | ((repeat (first | (with_reducible assumption) | (with_reducible (exact Keeps.refl _ _)) | (with_reducible (apply Keeps.drew)) | (refine Keeps.setCell (S := fun x => x = g) (a := ⟨g, _, none⟩) ?_ (fun _ => rfl) _))); done) | (refine Keeps.cell' (S := (· = g)) (w := w3) ?_ (by assumption) hzg; (repeat (first | (with_reducible assumption) | (with_reducible (exact Keeps.refl _ _)) | (with_reducible (apply Keeps.drew)) | (refine Keeps.setCell (S := fun x => x = g) (a := ⟨g, _, none⟩) ?_ (fun _ => rfl) _))); done)) | (trace_state; fail))
            (first | (go_at_call 93; refine (HVA.out _).mono ?_; rintro e w4 ⟨rfl, hk4⟩; have HF4 := Lib.hid (HF3.out.keep (((Keeps.refl (fun _ => False) w3).drew).trans hk4 (fun _ _ h => h))); have hk5 : Keeps (· = g) w3 w4 := (((Keeps.refl (fun _ => False) w3).drew).trans hk4 (fun _ _ h => h)).mono (fun _ _ h => h.elim); obtain ⟨⟨f0, f1, f2, f3, f4, f5⟩, hfz⟩ := HGET.out w4 HF4.out))
          have HM := Lib.hid (HSTO.out w4 HF4.out _ _ _ _ _ _ (HE1.out (by first | rfl | trivial)))
          clear f0 f1 f2 f3 f4 f5 hfz x0 x1 x2 x3 x4 x5
          generalize ((((((w4.setCell ⟨g, o + i * 6, none⟩ (.string ⟨#[115, 101, 116]⟩)).setCell ⟨g, o + i * 6 + 1, none⟩ (.int .i64 op.d)).setCell ⟨g, o + i * 6 + 2, none⟩ (.int .i64 0)).setCell ⟨g, o + i * 6 + 3, none⟩ (.int .i64 0)).setCell ⟨g, o + i * 6 + 4, none⟩ (.int .u32 vv)).setCell ⟨g, o + i * 6 + 5, none⟩ (.int .i64 op.at_)) = WW at *
          obtain ⟨y0, y1, y2, y3, y4, y5⟩ := HMGT.out WW HM.out
          go_wp2_with fail
          refine (HLN.out WW (HMFA.out _ HM.out)).mono ?_
          rintro e w5 ⟨rfl, hF5, hk5⟩
          have HN := Lib.hid (HNXT.out WW w5 HM.out hF5 hk5)
          clear y0 y1 y2 y3 y4 y5 hF5 hk5
          go_wp2_with fail
          go_roundw
          case rel => exact ⟨i + 1, by omega, by go_num, HN.out⟩
          case measure => simp [intOf]; omega
      · obtain rfl : i = n := by omega
        go_wp2_with fail
        go_ret
        refine ⟨_, rfl, ⟨some ⟨g, o, none⟩, cap', ?_, ?_⟩, HF.out.k⟩
        · rw [Ir.fold_len, HL.out]
          rfl
        · have h := HF.out.row
          rw [Ir.fold_len, HL.out, HO0.out, HB.out, ← foldTo_all, HL.out]
          exact h
end Go.Proofs.YtgmbladcoikffaaGreatDoor

/- Delete -/
/- The walk of slices.Delete on a row of ops of the call's own, one op taken out. -/
namespace Go.Proofs.YtgmbladcoikffaaGreatDoor
open Go.RowKit Go.Deep
set_option linter.unusedVariables false
set_option linter.unusedSimpArgs false

/-- 'append' in place, at one operation -/
theorem wp_append_in {P : Program} (w : World) {o : Oper} {a : Act} {K : Act → World → Prop} {Q : Exit → Act → World → Prop} (s x : Operand) (t e : TypeId) (i : TypeInfo) (size : Nat)
    (hop : o.op = Op.call { callee := Callee.builtin Builtin.append, args := #[s, x], argTypes := #[t, t] }) (ht : P.underlying t = some (.slice e)) (hi : P.info? e = some i) (hsz : i.size = size)
    (g n cap : Nat) (cur : Array Value) (hg : w.heap[g]? = some (.cells cur e (0, 0))) (ad : Addr) (m c : Nat) (news : List Value) (hs : a.eval s = .slice (some ⟨g, 0, none⟩) n cap) (hx : a.eval x = .slice (some ad) m c)
    (hl : news.length = m * size) (hnews : ∀ j u, news[j]? = some u → w.cell? (ad.add j) = some u) (h1 : ∀ u ∈ news, u.oneCell' = true) (hroom : n + m ≤ cap) (hfit : n * size + news.length ≤ cur.size)
    (h : K (a.put o.dst (.slice (some ⟨g, 0, none⟩) (n + m) cap)) (w.setRow g (cur.toList.take (n * size) ++ news ++ cur.toList.drop (n * size + news.length)).toArray)) : Oper.wp P o a w K Q := by
  subst hsz
  have hrun := run_append_room (P := P) w t o.type e i ht hi g n cap cur hg ad m c news hl hnews h1 hroom hfit
  unfold Oper.wp
  simp [execOp, hop, resolve, invoke, builtin, hs, hx, hrun, Result.andThen]
  rw [List.append_assoc] at h
  exact h
theorem run_clear_op (w : World) (ty : TypeId) (g o c : Nat) (cur : Array Value) (hg : w.heap[g]? = some (.cells cur 85 (0, 0))) (hfit : o + 6 ≤ cur.size) :
    (Builtin.clear_ #[23] ty #[.slice (some ⟨g, o, none⟩) 1 c]).run Tryz.prog w = .ok (.tuple #[]) (w.setRow g (cur.toList.take o ++ (opC ⟨ByteArray.empty, 0, 0, 0, 0, 0⟩).toList ++ cur.toList.drop (o + 6)).toArray) := by
  have hz : ∀ w, (zeroValue 85).run Tryz.prog w = .ok (.agg (opC ⟨ByteArray.empty, 0, 0, 0, 0, 0⟩)) w := fun w => by kernel_rfl
  have hc : (Builtin.zeroCells (Value.agg (opC ⟨ByteArray.empty, 0, 0, 0, 0, 0⟩)).cells 1).toList = (opC ⟨ByteArray.empty, 0, 0, 0, 0, 0⟩).toList := by kernel_rfl
  have hst := run_storeCells_at Tryz.prog g o 85 (opC ⟨ByteArray.empty, 0, 0, 0, 0, 0⟩).toList 0 cur w hg (by exact hfit) (by decide +kernel)
  simp only [Nat.add_zero] at hst
  simp [Builtin.clear_, run_underlying Tryz.underlying23, hz, hc, hst]
  rfl
theorem opsL_append (a b : List Ir.Op) : opsL (a ++ b) = opsL a ++ opsL b := by unfold opsL; rw [List.flatMap_append]
theorem opsL_take (l : List Ir.Op) (i : Nat) (hi : i ≤ l.length) : (opsL l).take (i * 6) = opsL (l.take i) := by
  have h := opsL_append (l.take i) (l.drop i)
  rw [List.take_append_drop] at h
  rw [h, List.take_append_of_le_length (by rw [opsL_len, List.length_take]; omega)]
  exact List.take_of_length_le (by rw [opsL_len, List.length_take]; omega)
theorem opsL_drop (l : List Ir.Op) (i : Nat) (hi : i ≤ l.length) : (opsL l).drop (i * 6) = opsL (l.drop i) := by
  have h := opsL_append (l.take i) (l.drop i)
  rw [List.take_append_drop] at h
  have e : (opsL (l.take i)).length = i * 6 := by rw [opsL_len, List.length_take]; omega
  rw [h, ← e, List.drop_left]
set_option maxHeartbeats 4000000 in
set_option maxRecDepth 100000 in
theorem delete_any (base g n cap i : Nat) (l : List Ir.Op) (w : World) (h : w.ownsRow base 85 6 (.slice (some ⟨g, 0, none⟩) n cap) n (opsL l)) (hl : l.length = n) (hi : i < n) (hn : n < 1000000) :
    Calls Tryz.prog 98 #[.slice (some ⟨g, 0, none⟩) n cap, .int .i64 i, .int .i64 ((i + 1 : Nat) : Int)] w fun e w' => e = .returned (.slice (some ⟨g, 0, none⟩) (n - 1) cap) ∧ w'.ownsRow base 85 6 (.slice (some ⟨g, 0, none⟩) (n - 1) cap) (n - 1) (opsL (l.eraseIdx i)) ∧ Keeps (· = g) w w' := by
  obtain ⟨i0, hinf, hz0, hz1, hz2⟩ := info_parts Tryz.info_op
  obtain ⟨hlen, ⟨h0, _⟩ | ⟨g', cap', cur, h2, h3, h4, h5, h6, h7, h8⟩⟩ := h
  · cases h0
  injection h2 with e1 e2 e3
  injection e1 with e1
  injection e1 with e1
  subst e1 e3
  clear e2
  obtain ⟨j, hj⟩ : ∃ j, j = i + 1 := ⟨_, rfl⟩
  obtain ⟨m, hm⟩ : ∃ m, m + 1 = n := ⟨n - 1, by omega⟩
  rw [← hj, show n - 1 = m by omega]
  have hij : i < j := by omega
  have hjn : j ≤ n := by omega
  have hmn : m < n := by omega
  have hnc : n ≤ cap := h5
  have hjc : j ≤ cap := by omega
  have hic : i ≤ cap := by omega
  have hne : ((i : Int) == (j : Int)) = false := by
    rw [beq_eq_false_iff_ne]
    omega
  have HX := Lib.hid h4
  have HN := Lib.hid (show ∀ q u, (opsL (l.drop j))[q]? = some u → w.cell? ((⟨g, j * 6, none⟩ : Addr).add q) = some u from fun q u hq => by
    have hql : q < (opsL (l.drop j)).length := (List.getElem?_eq_some_iff.1 hq).1
    rw [opsL_len, List.length_drop, hl] at hql
    rw [← opsL_drop l j (by omega), List.getElem?_drop, ← h8, List.getElem?_take_of_lt (by omega)] at hq
    rw [Addr.add_lit]
    simp only [World.cell?, h4]
    simpa using hq)
  have hfit : i * 6 + (opsL (l.drop j)).length ≤ cur.size := by rw [opsL_len, List.length_drop, hl, h7]; omega
  have hdl : (opsL (l.drop j)).length = (n - j) * 6 := by rw [opsL_len, List.length_drop, hl]
  have hmj : i + (n - j) = m := by omega
  obtain ⟨cur1, hc1⟩ : ∃ c, c = (cur.toList.take (i * 6) ++ opsL (l.drop j) ++ cur.toList.drop (i * 6 + (opsL (l.drop j)).length)).toArray := ⟨_, rfl⟩
  have hs1 : cur1.size = cap * 6 := by
    rw [hc1]
    simp only [List.size_toArray, List.length_append, List.length_take, List.length_drop, Array.length_toList, hdl]
    omega
  have ht1 : cur1.toList.take (m * 6) = opsL (l.eraseIdx i) := by
    have e1 : cur.toList.take (i * 6) = opsL (l.take i) := by
      rw [← opsL_take l i (by omega), ← h8, List.take_take, Nat.min_eq_left (by omega)]
    have e2 : l.eraseIdx i = l.take i ++ l.drop j := by rw [hj]; exact List.eraseIdx_eq_take_drop_succ l i
    have e3 : (opsL (l.take i) ++ opsL (l.drop j)).length = m * 6 := by
      rw [List.length_append, opsL_len, hdl, List.length_take]
      omega
    rw [hc1, e1, e2, opsL_append, ← e3, List.take_left]
  have H1 := Lib.hid (show (w.drew.setRow g cur1).heap[g]? = some (.cells cur1 85 (0, 0)) from setRow_heap w.drew g cur _ _ _ h4)
  have K1 := Lib.hid (show Keeps (· = g) w (w.drew.setRow g cur1) from ((Keeps.refl (· = g) w).drew).setRow (fun _ => rfl) cur1)
  have HC1 := Lib.hid hc1
  have HS1 := Lib.hid hs1
  have HT1 := Lib.hid ht1
  have HFT := Lib.hid hfit
  have HDL := Lib.hid hdl
  have HMJ := Lib.hid hmj
  have HH := Lib.hid (And.intro h3 h6)
  have HJ := Lib.hid hj
  have HM := Lib.hid hm
  clear hc1 hs1 ht1 hj hm hlen h8 h7 h4 h3 h6 hfit hdl hl hmj
  by_cases hcj : cap = j
  · obtain rfl : n = j := by omega
    subst hcj
    have hmi : m = i := by have := HMJ.out; omega
    subst hmi
    have hcc : cur1 = cur := by
      have e : opsL (l.drop cap) = [] := List.eq_nil_of_length_eq_zero (HDL.out.trans (by simp))
      rw [HC1.out, e]
      simp
    have HH1 := Lib.hid (show w.drew.heap[g]? = some (.cells cur1 85 (0, 0)) by rw [hcc]; exact HX.out)
    have HK1 := Lib.hid (show Keeps (· = g) w w.drew from (Keeps.refl (· = g) w).drew)
    clear hcc
    go_enter Tryz.func98, Tryz.ntmps98
    go_upto_region 5 with fail
    go_region_held3 (fun _ => True) (trivial)
      (fail)
    have h1 := HH1.out
    have k1 := HK1.out
    clear HH1 HK1 H1 K1
    generalize w.drew = w1 at *
    have hcl := fun ty => run_clear_op w1 ty g (m * 6) (cap - m) cur1 h1 (by rw [HS1.out]; omega)
    have h2 := setRow_heap w1 g cur1 (cur1.toList.take (m * 6) ++ (opC ⟨ByteArray.empty, 0, 0, 0, 0, 0⟩).toList ++ cur1.toList.drop (m * 6 + 6)).toArray _ _ h1
    have k2 : Keeps (· = g) w (w1.setRow g (cur1.toList.take (m * 6) ++ (opC ⟨ByteArray.empty, 0, 0, 0, 0, 0⟩).toList ++ cur1.toList.drop (m * 6 + 6)).toArray) := k1.setRow (fun _ => rfl) _
    obtain ⟨cur2, hc2⟩ : ∃ c, c = (cur1.toList.take (m * 6) ++ (opC ⟨ByteArray.empty, 0, 0, 0, 0, 0⟩).toList ++ cur1.toList.drop (m * 6 + 6)).toArray := ⟨_, rfl⟩
    rw [← hc2] at h2 k2
    simp only [← hc2] at hcl
    have HC2 := Lib.hid hc2
    have H2 := Lib.hid h2
    have K2 := Lib.hid k2
    clear h1 k1 hc2 h2 k2
    have HMN := HM.out
    have hml : m ≤ cap := by omega
    have hnm : cap - m = 1 := by omega
    rw [hnm] at hcl
    clear HMN
    go_wp2_with fail
    go_ret
    refine ⟨rfl, ⟨?_, .inr ⟨g, cap, cur2, rfl, HH.out.1, H2.out, by omega, HH.out.2, ?_, ?_⟩⟩, K2.out⟩
    · rw [← HT1.out, List.length_take, Array.length_toList, HS1.out]
      omega
    · rw [HC2.out]
      simp only [List.size_toArray, List.length_append, List.length_take, List.length_drop, Array.length_toList, HS1.out]
      show min (m * 6) (cap * 6) + 6 + _ = _
      omega
    · rw [← HT1.out, HC2.out]
      simp only [List.append_assoc]
      rw [List.take_append_of_le_length (by rw [List.length_take, Array.length_toList, HS1.out]; omega), List.take_take, Nat.min_self]
  · go_enter Tryz.func98, Tryz.ntmps98
    go_upto_region 5 with fail
    go_region_held3 (fun _ => True) (trivial)
      (refine wp_append_in _ _ _ 23 85 i0 6 rfl Tryz.underlying23 hinf hz1 g i cap cur HX.out ⟨g, j * 6, none⟩ (n - j) _ (opsL (l.drop j)) rfl rfl HDL.out HN.out (opsL_one _) (by omega) HFT.out ?_)
    rw [← HC1.out, HMJ.out]
    have h1 := H1.out
    have k1 := K1.out
    clear H1 K1
    generalize w.drew.setRow g cur1 = w1 at *
    have hcl := fun ty => run_clear_op w1 ty g (m * 6) (cap - m) cur1 h1 (by rw [HS1.out]; omega)
    have h2 := setRow_heap w1 g cur1 (cur1.toList.take (m * 6) ++ (opC ⟨ByteArray.empty, 0, 0, 0, 0, 0⟩).toList ++ cur1.toList.drop (m * 6 + 6)).toArray _ _ h1
    have k2 : Keeps (· = g) w (w1.setRow g (cur1.toList.take (m * 6) ++ (opC ⟨ByteArray.empty, 0, 0, 0, 0, 0⟩).toList ++ cur1.toList.drop (m * 6 + 6)).toArray) := k1.setRow (fun _ => rfl) _
    obtain ⟨cur2, hc2⟩ : ∃ c, c = (cur1.toList.take (m * 6) ++ (opC ⟨ByteArray.empty, 0, 0, 0, 0, 0⟩).toList ++ cur1.toList.drop (m * 6 + 6)).toArray := ⟨_, rfl⟩
    rw [← hc2] at h2 k2
    simp only [← hc2] at hcl
    have HC2 := Lib.hid hc2
    have H2 := Lib.hid h2
    have K2 := Lib.hid k2
    clear h1 k1 hc2 h2 k2
    have HMN := HM.out
    have hml : m ≤ n := by omega
    have hmc : m ≤ cap := by omega
    have hnm : n - m = 1 := by omega
    clear HMN
    go_wp2_with fail
    go_ret
    refine ⟨rfl, ⟨?_, .inr ⟨g, cap, cur2, rfl, HH.out.1, H2.out, by omega, HH.out.2, ?_, ?_⟩⟩, K2.out⟩
    · rw [← HT1.out, List.length_take, Array.length_toList, HS1.out]
      omega
    · rw [HC2.out]
      simp only [List.size_toArray, List.length_append, List.length_take, List.length_drop, Array.length_toList, HS1.out]
      show min (m * 6) (cap * 6) + 6 + _ = _
      omega
    · rw [← HT1.out, HC2.out]
      simp only [List.append_assoc]
      rw [List.take_append_of_le_length (by rw [List.length_take, Array.length_toList, HS1.out]; omega), List.take_take, Nat.min_self]
end Go.Proofs.YtgmbladcoikffaaGreatDoor

/- Sweep -/
/- The walk of opt.sweep. -/
namespace Go.Proofs.YtgmbladcoikffaaGreatDoor
open Go.RowKit Go.Deep
set_option linter.unusedVariables false
set_option linter.unusedSimpArgs false

def lenV : Value → Nat | .slice _ n _ => n | _ => 0
def trueN : Value → Nat | .bool true => 1 | _ => 0
set_option maxHeartbeats 4000000 in
set_option maxRecDepth 100000 in
theorem sweep_any (A : Option Addr) (n cap : Nat) (l : List Ir.Op) (w : World) (V : OpsAt w A n cap l) (hn : n < 1000000) (hc : cap ≤ 9223372036854775807) :
    Calls Tryz.prog 61 #[.slice A n cap] w fun e w' => ∃ A' cap', e = .returned (.slice A' (Ir.sweep l).length cap') ∧ OpsAt w' A' (Ir.sweep l).length cap' (Ir.sweep l) ∧ cap' ≤ 9223372036854775807 ∧ Keeps (fun _ => False) w w' := by
  have HV := Lib.hid V
  have HCC := Lib.hid hc
  clear V hc
  go_enter Tryz.func61, Tryz.ntmps61
  go_wp2_with fail
  go_loopw [0, 3] (fun s0 s3 wr => ∃ A1 n1 cap1 l1 b, s0 = .slice A1 n1 cap1 ∧ s3 = .bool b ∧ OpsAt wr A1 n1 cap1 l1 ∧ n1 ≤ n ∧ cap1 ≤ 9223372036854775807 ∧ Ir.sweep l = Ir.sweep l1 ∧ (b = false → Ir.sweep l1 = l1) ∧ Keeps (fun _ => False) w wr) (fun s0 s3 _ => lenV s0 + trueN s3)
  case atStart => exact ⟨A, n, cap, l, true, rfl, rfl, HV.out, Nat.le_refl _, HCC.out, rfl, (fun h => by cases h), Keeps.refl _ _⟩
  case round =>
    obtain ⟨A1, n1, cap1, l1, b, rfl, rfl, hV1, hn1, hc1, hs1, hb1, hK1⟩ := hrel
    obtain ⟨w1, rfl⟩ : ∃ w1, w1 = wr := ⟨wr, rfl⟩
    have HV1 := Lib.hid hV1
    have HS1 := Lib.hid hs1
    have HB1 := Lib.hid hb1
    have HK1 := Lib.hid hK1
    have HL1 := Lib.hid hV1.len
    have hnc := hV1.le
    clear hV1 hs1 hb1 hK1
    cases b
    · go_wp2_with fail
      go_ret
      have e : Ir.sweep l = l1 := HS1.out.trans (HB1.out (by first | rfl | trivial))
      rw [e, HL1.out]
      exact ⟨A1, cap1, rfl, HV1.out, hc1, HK1.out⟩
    · go_wp2_with fail
      go_loopw [8, 0, 3] (fun s8 s0 s3 wq => ∃ i : Nat, i ≤ n1 ∧ s8 = .int .i64 i ∧ s0 = .slice A1 n1 cap1 ∧ s3 = .bool false ∧ (∀ j, j < i → Ir.dead l1 j = false) ∧ Keeps (fun _ => False) w1 wq) (fun s8 _ _ _ => n1 - (intOf s8).toNat)
      case atStart => exact ⟨0, by omega, rfl, rfl, rfl, fun j hj => absurd hj (Nat.not_lt_zero _), Keeps.refl _ _⟩
      case round =>
        obtain ⟨i, hi, rfl, rfl, rfl, hz, hKi⟩ := hrel
        have HZ := Lib.hid hz
        have HKI := Lib.hid hKi
        clear hz hKi
        by_cases hlt : i < n1
        · have HD := Lib.hid (fun (d : Bool) (h : Ir.dead l1 i = d) => h)
          have HDA := Lib.hid (dead_any A1 n1 cap1 l1 i wr (HV1.out.quiet HKI.out) hlt hc1)
          obtain ⟨d, hd⟩ : ∃ d, Ir.dead l1 i = d := ⟨_, rfl⟩
          rw [hd] at HDA
          have HDD := Lib.hid hd
          clear hd HD
          go_wp2_with fail
          refine HDA.out.mono ?_
          rintro e w3 ⟨rfl, hk3⟩
          have HK3 := Lib.hid (HKI.out.trans hk3 (fun _ _ h => h))
          clear hk3
          cases d
          · go_wp2_with fail
            go_roundw
            case rel => exact ⟨i + 1, by omega, by go_num, rfl, rfl, fun j hj => by
              by_cases e : j = i
              · subst e; exact HDD.out
              · exact HZ.out j (by omega), HK3.out⟩
            case measure => simp [intOf]; omega
          · go_wp2_with fail
            refine (clone_any A1 n1 cap1 l1 w3 (HV1.out.quiet HK3.out) (by omega)).mono ?_
            rintro e w4 ⟨v, rfl, ⟨A4, cap4, rfl, ho4⟩, hk4⟩
            rw [HL1.out] at ho4 ⊢
            have HO4 := Lib.hid ho4
            have HK4 := Lib.hid (HK3.out.trans hk4 (fun _ _ h => h))
            have HK34 := Lib.hid hk4
            obtain ⟨_, ⟨h0, hn0⟩ | ⟨g, cap2, cur, h2, h3, h4, h5, h6, h7, h8⟩⟩ := ho4
            · omega
            injection h2 with e1 e2 e3
            subst e1 e3
            have HG := Lib.hid h3
            have HCP := Lib.hid h6
            clear h3 h4 h5 h6 h7 h8 e2 hk4
            have HDE := Lib.hid (delete_any w3.heap.size g n1 cap4 i l1 w4 HO4.out HL1.out hlt (by omega))
            rw [show ((i + 1 : Nat) : Int) = (i : Int) + 1 by omega] at HDE
            go_wp2_with fail
            refine HDE.out.mono ?_
            rintro e w5 ⟨rfl, ho5, hk5⟩
            have hi1 : i < l1.length := by rw [HL1.out]; exact hlt
            have hel : (l1.eraseIdx i).length = n1 - 1 := by rw [List.length_eraseIdx_of_lt hi1, HL1.out]
            have HO5 := Lib.hid (OpsAt.of_owns ho5 hel)
            have HK5 := Lib.hid (show Keeps (fun _ => False) w w5 from (HK1.out.trans HK4.out (fun _ _ h => h)).trans hk5 (fun b hb h => by
              have h1 := HG.out
              have h2 := HK1.out.size
              have h3 := HK3.out.size
              omega))
            have HST := Lib.hid (Ir.sweep_step hi1 HDD.out HZ.out)
            clear ho5 hk5
            go_wp2_with fail
            go_roundw
            case rel => exact ⟨_, n1 - 1, cap4, l1.eraseIdx i, true, rfl, rfl, HO5.out, by omega, by have := HCP.out; unfold maxLen at this; omega, HS1.out.trans HST.out, (fun h => by cases h), HK5.out⟩
            case measure => simp [lenV, trueN]; omega
        · obtain rfl : i = n1 := by omega
          have HSN := Lib.hid (Ir.sweep_none (l := l1) (fun j hj => HZ.out j (by have := HL1.out; omega)))
          go_wp2_with fail
          go_roundw
          case rel => exact ⟨A1, i, cap1, l1, false, rfl, rfl, HV1.out.quiet HKI.out, hn1, hc1, HS1.out, (fun _ => HSN.out), HK1.out.trans HKI.out (fun _ _ h => h)⟩
          case measure => simp [lenV, trueN]
end Go.Proofs.YtgmbladcoikffaaGreatDoor

/- Opt -/
/- The walk of opt.Opt. -/
namespace Go.Proofs.YtgmbladcoikffaaGreatDoor
open Go.RowKit Go.Deep
set_option linter.unusedVariables false
set_option linter.unusedSimpArgs false

theorem size_code : (Tryz.prog.info? 35).map (·.size) = some 3 := by kernel_rfl
theorem results_code {fn : Func} {p u : Tmp} (h : fn.results = #[.cell p 35, .tmp u]) (tmps : Array Value) (w : World) (g : Nat) (cs : Array Value) (hp : tmps.getD p undef = .pointer (some ⟨g, 0, none⟩)) (hg : w.heap[g]? = some (.cells cs 35 (0, 0))) (hc : cs.size = 3) :
    (results fn tmps).run Tryz.prog w = .ok (.tuple #[.agg cs, tmps.getD u undef]) w := by
  rw [results_cell_tmp h, hp]
  have := run_loadVar_row (P := Tryz.prog) w g 35 35 cs (0, 0) _ hg Tryz.underlying35 rfl (by rw [hc]; exact size_code)
  simp [asAddr, this]
theorem set3c {w : World} {x : Nat} {T : TypeId} {a b c a' b' c' : Value} (h : w.heap[x]? = some (.cells #[a, b, c] T (0, 0))) :
    (((w.setCell ⟨x, 0, none⟩ a').setCell ⟨x, 1, none⟩ b').setCell ⟨x, 2, none⟩ c').heap[x]? = some (.cells #[a', b', c'] T (0, 0)) ∧
      Keeps (· = x) w (((w.setCell ⟨x, 0, none⟩ a').setCell ⟨x, 1, none⟩ b').setCell ⟨x, 2, none⟩ c') := by
  refine ⟨?_, Keeps.trans (Keeps.trans (Keeps.one _ _ _ _) (Keeps.one _ _ _ _) (fun _ _ h => h)) (Keeps.one _ _ _ _) (fun _ _ h => h)⟩
  have h1 := set_block (set_block (set_block h 0 a') 1 b') 2 c'
  simpa using h1
/-- a code's cells -/
def codeC (pc many : Int) (A : Option Addr) (n cap : Nat) : Array Value := #[.int .u32 pc, .int .i64 many, .slice A n cap]
/-- a code in a block of its own -/
structure CodeBox (w : World) (x : Nat) (pc many : Int) (A : Option Addr) (n cap : Nat) : Prop where
  blk : w.heap[x]? = some (.cells (codeC pc many A n cap) 35 (0, 0))
theorem CodeBox.lt {w : World} {x : Nat} {pc many : Int} {A : Option Addr} {n cap : Nat} (h : CodeBox w x pc many A n cap) : x < w.heap.size := (Array.getElem?_eq_some_iff.1 h.blk).1
theorem CodeBox.keep {S : Nat → Prop} {w w' : World} {x : Nat} {pc many : Int} {A : Option Addr} {n cap : Nat} (h : CodeBox w x pc many A n cap) (k : Keeps S w w') (hs : ¬ S x) : CodeBox w' x pc many A n cap := ⟨(k.block x h.lt hs).trans h.blk⟩
theorem CodeBox.cells {w : World} {x : Nat} {pc many : Int} {A : Option Addr} {n cap : Nat} (h : CodeBox w x pc many A n cap) :
    w.cell? ⟨x, 0, none⟩ = some (.int .u32 pc) ∧ w.cell? ⟨x, 1, none⟩ = some (.int .i64 many) ∧ w.cell? ⟨x, 2, none⟩ = some (.slice A n cap) ∧ w.frozen? ⟨x, 0, none⟩ = false ∧ w.frozen? ⟨x, 1, none⟩ = false ∧ w.frozen? ⟨x, 2, none⟩ = false := by
  have hb := h.blk
  unfold codeC at hb
  refine ⟨?_, ?_, ?_, frozen_of_block hb 0, frozen_of_block hb 1, frozen_of_block hb 2⟩ <;> (unfold World.cell?; rw [hb]; rfl)
theorem CodeBox.code {w : World} {x : Nat} {pc many : Int} {A : Option Addr} {n cap : Nat} (h : CodeBox w x pc many A n cap) : CodeAt w x pc many A n cap := ⟨h.cells.1, h.cells.2.1, h.cells.2.2.1⟩
theorem CodeBox.put {w : World} {x : Nat} {pc many pc' many' : Int} {A A' : Option Addr} {n cap n' cap' : Nat} (h : CodeBox w x pc many A n cap) :
    CodeBox (((w.setCell ⟨x, 0, none⟩ (.int .u32 pc')).setCell ⟨x, 1, none⟩ (.int .i64 many')).setCell ⟨x, 2, none⟩ (.slice A' n' cap')) x pc' many' A' n' cap' ∧
      Keeps (· = x) w (((w.setCell ⟨x, 0, none⟩ (.int .u32 pc')).setCell ⟨x, 1, none⟩ (.int .i64 many')).setCell ⟨x, 2, none⟩ (.slice A' n' cap')) :=
  ⟨⟨(set3c h.blk).1⟩, (set3c h.blk).2⟩
theorem CodeBox.put2 {w : World} {x : Nat} {pc many : Int} {A A' : Option Addr} {n cap n' cap' : Nat} (h : CodeBox w x pc many A n cap) :
    CodeBox (w.setCell ⟨x, 2, none⟩ (.slice A' n' cap')) x pc many A' n' cap' ∧ Keeps (· = x) w (w.setCell ⟨x, 2, none⟩ (.slice A' n' cap')) := by
  refine ⟨⟨?_⟩, Keeps.one _ _ _ _⟩
  have h1 := set_block h.blk 2 (.slice A' n' cap')
  simpa [codeC] using h1
theorem CodeBox.new (w : World) (pc many : Int) (A : Option Addr) (n cap : Nat) : CodeBox (w.alloc (.cells #[.int .u32 pc, .int .i64 many, .slice A n cap] 35)) w.heap.size pc many A n cap := ⟨blk_alloc_new _ _⟩
/-- the two boxes that Opt begins with: its argument, its result -/
structure OptBox (w wr : World) (x rb : Nat) (pc many : Int) (A : Option Addr) (n cap : Nat) : Prop where
  code : CodeBox wr x pc many A n cap
  res : CodeBox wr rb 0 0 none 0 0
  k : Keeps (fun _ => False) w wr
  ne : x ≠ rb
  low : w.heap.size ≤ x ∧ w.heap.size ≤ rb
theorem OptBox.new (w : World) (pc many : Int) (A : Option Addr) (n cap : Nat) :
    OptBox w ((w.alloc (.cells #[.int .u32 pc, .int .i64 many, .slice A n cap] 35)).alloc (.cells #[.int .u32 0, .int .i64 0, .slice none 0 0] 35)) w.heap.size (w.heap.size + 1) pc many A n cap := by
  have h1 := CodeBox.new w pc many A n cap
  have h2 := CodeBox.new (w.alloc (.cells #[.int .u32 pc, .int .i64 many, .slice A n cap] 35)) 0 0 none 0 0
  rw [nblk_alloc] at h2
  exact ⟨h1.keep ((Keeps.refl (fun _ => False) _).alloc _) (fun h => h), h2, ((Keeps.refl _ _).alloc _).alloc _, by omega, by omega⟩
theorem OptBox.keep {w wr w' : World} {x rb : Nat} {pc many : Int} {A : Option Addr} {n cap : Nat} (h : OptBox w wr x rb pc many A n cap) (k : Keeps (fun _ => False) wr w') : OptBox w w' x rb pc many A n cap :=
  ⟨h.code.keep k (fun h => h), h.res.keep k (fun h => h), h.k.trans k (fun _ _ h => h), h.ne, h.low⟩

theorem OpsAt.other {w w' : World} {A A' : Option Addr} {n cap n' cap' z : Nat} {l : List Ir.Op} {pc many : Int} (V : OpsAt w A n cap l) (C : CodeBox w z pc many A' n' cap') (k : Keeps (· = z) w w') : OpsAt w' A n cap l := by
  obtain ⟨h1, h2, h3 | ⟨b, o, rfl, hb, hc⟩⟩ := V
  · exact ⟨h1, h2, .inl h3⟩
  · refine ⟨h1, h2, .inr ⟨b, o, rfl, Nat.lt_of_lt_of_le hb k.size, fun i hi => (hc i hi).keep k (fun e => ?_)⟩⟩
    have e : b = z := e
    subst e
    have h4 := (hc i hi).v0
    have h5 := C.blk
    unfold World.cell? at h4
    rw [h5] at h4
    generalize o + i * 6 = j at h4
    match j with
    | 0 => simp [codeC] at h4
    | 1 => simp [codeC] at h4
    | 2 => simp [codeC] at h4
    | j + 3 => simp [codeC] at h4
theorem FaultIs.other {w w' : World} {ea : Nat → Addr} {f : Nat × Int} {v : Value} {z n cap : Nat} {pc many : Int} {A : Option Addr} (h : FaultIs w ea f v) (C : CodeBox w z pc many A n cap) (k : Keeps (· = z) w w') : FaultIs w' ea f v := by
  rcases h with h | h | ⟨h1, h2, b, h3, h4, h5⟩
  · exact .inl h
  · exact .inr (.inl h)
  · have hne : b ≠ z := by
      rintro rfl
      rw [C.cells.1] at h4
      cases h4
    exact .inr (.inr ⟨h1, h2, b, h3, k.cell' h4 hne, k.cell' h5 hne⟩)
/-- the code that Opt works on -/
structure OptRun (w wr : World) (z rb : Nat) (pc many : Int) (l : List Ir.Op) (A : Option Addr) (n cap : Nat) : Prop where
  code : CodeBox wr z pc many A n cap
  ops : OpsAt wr A n cap l
  hc : cap ≤ 9223372036854775807
  res : CodeBox wr rb 0 0 none 0 0
  k : Keeps (fun _ => False) w wr
  ne : z ≠ rb
  low : w.heap.size ≤ z ∧ w.heap.size ≤ rb
theorem OptRun.keep {w wr w' : World} {z rb : Nat} {pc many : Int} {l : List Ir.Op} {A : Option Addr} {n cap : Nat} (h : OptRun w wr z rb pc many l A n cap) (k : Keeps (fun _ => False) wr w') : OptRun w w' z rb pc many l A n cap :=
  ⟨h.code.keep k (fun h => h), h.ops.quiet k, h.hc, h.res.keep k (fun h => h), h.k.trans k (fun _ _ h => h), h.ne, h.low⟩
theorem OptRun.put {w wr : World} {z rb : Nat} {pc many : Int} {l l' : List Ir.Op} {A A' : Option Addr} {n cap n' cap' : Nat} (h : OptRun w wr z rb pc many l A n cap) (V : OpsAt wr A' n' cap' l') (hc : cap' ≤ 9223372036854775807) :
    OptRun w (wr.setCell ⟨z, 2, none⟩ (.slice A' n' cap')) z rb pc many l' A' n' cap' := by
  obtain ⟨h1, h2⟩ := h.code.put2 (A' := A') (n' := n') (cap' := cap')
  exact ⟨h1, V.other h.code h2, hc, h.res.keep h2 (fun e => h.ne e.symm), h.k.trans h2 (fun b hb e => by have e : b = z := e; have := h.low; omega), h.ne, h.low⟩
theorem OptRun.done {w wr : World} {z rb : Nat} {pc many : Int} {l : List Ir.Op} {A : Option Addr} {n cap : Nat} (h : OptRun w wr z rb pc many l A n cap) :
    (((wr.setCell ⟨rb, 0, none⟩ (.int .u32 pc)).setCell ⟨rb, 1, none⟩ (.int .i64 many)).setCell ⟨rb, 2, none⟩ (.slice A n cap)).heap[rb]? = some (.cells (codeC pc many A n cap) 35 (0, 0)) ∧
    OpsAt (((wr.setCell ⟨rb, 0, none⟩ (.int .u32 pc)).setCell ⟨rb, 1, none⟩ (.int .i64 many)).setCell ⟨rb, 2, none⟩ (.slice A n cap)) A n cap l ∧
    Keeps (fun _ => False) w (((wr.setCell ⟨rb, 0, none⟩ (.int .u32 pc)).setCell ⟨rb, 1, none⟩ (.int .i64 many)).setCell ⟨rb, 2, none⟩ (.slice A n cap)) := by
  obtain ⟨h1, h2⟩ := h.res.put (pc' := pc) (many' := many) (A' := A) (n' := n) (cap' := cap)
  exact ⟨h1.blk, h.ops.other h.res h2, h.k.trans h2 (fun b hb e => by have e : b = rb := e; have := h.low; omega)⟩
theorem owns_cap {w : World} {base e size n cap : Nat} {A : Option Addr} {xs : List Value} (h : w.ownsRow base e size (.slice A n cap) n xs) : cap ≤ 9223372036854775807 := by
  obtain ⟨_, ⟨h2, h3⟩ | ⟨g, cap', cur, h2, h3, h4, h5, h6, h7, h8⟩⟩ := h
  · injection h2 with e1 e2 e3
    omega
  · injection h2 with e1 e2 e3
    subst e3
    unfold maxLen at h6
    omega
theorem OptRun.first {w w2 w3 w4 : World} {x rb : Nat} {pc many : Int} {l : List Ir.Op} {A A4 : Option Addr} {n cap cap4 base : Nat} (h : OptBox w w2 x rb pc many A n cap) (hw : w3 = w2.drew) (k : Keeps (fun _ => False) w3 w4) (ho : w4.ownsRow base 85 6 (.slice A4 l.length cap4) l.length (opsL l)) :
    OptRun w (w4.alloc (.cells #[.int .u32 pc, .int .i64 many, .slice A4 l.length cap4] 35)) w4.heap.size rb pc many l A4 l.length cap4 := by
  subst hw
  have hk := ((Keeps.refl (fun _ => False) w2).drew).trans k (fun _ _ h => h)
  have ha := (Keeps.refl (fun _ => False) w4).alloc (.cells #[.int .u32 pc, .int .i64 many, .slice A4 l.length cap4] 35)
  have h1 := h.res.lt
  have h2 := hk.size
  have h3 := h.k.size
  exact ⟨CodeBox.new _ _ _ _ _ _, (OpsAt.of_owns ho rfl).quiet ha, owns_cap ho, (h.res.keep hk (fun h => h)).keep ha (fun h => h), (h.k.trans hk (fun _ _ h => h)).trans ha (fun _ _ h => h), by omega, by omega, h.low.2⟩
theorem OptRun.second {w w2 w3 w4 : World} {x rb : Nat} {pc many : Int} {l : List Ir.Op} {A A4 : Option Addr} {n cap cap4 base : Nat} (h : OptBox w w2 x rb pc many A n cap) (hw : w3 = (w2.alloc (.cells #[.int .u32 0, .int .i64 0, .slice none 0 0] 35)).drew) (k : Keeps (fun _ => False) w3 w4) (ho : w4.ownsRow base 85 6 (.slice A4 l.length cap4) l.length (opsL l)) (hz : CodeBox w4 w2.heap.size 0 0 none 0 0) :
    OptRun w (((w4.setCell ⟨w2.heap.size, 0, none⟩ (.int .u32 pc)).setCell ⟨w2.heap.size, 1, none⟩ (.int .i64 many)).setCell ⟨w2.heap.size, 2, none⟩ (.slice A4 l.length cap4)) w2.heap.size rb pc many l A4 l.length cap4 := by
  subst hw
  have hk := ((((Keeps.refl (fun _ => False) w2).alloc (.cells #[.int .u32 0, .int .i64 0, .slice none 0 0] 35)).drew)).trans k (fun _ _ h => h)
  obtain ⟨h5, h6⟩ := hz.put (pc' := pc) (many' := many) (A' := A4) (n' := l.length) (cap' := cap4)
  have h1 := h.res.lt
  have h3 := h.k.size
  exact ⟨h5, (OpsAt.of_owns ho rfl).other hz h6, owns_cap ho, (h.res.keep hk (fun h => h)).keep h6 (fun e => by have e : rb = w2.heap.size := e; omega), (h.k.trans hk (fun _ _ h => h)).trans h6 (fun b hb e => by have e : b = w2.heap.size := e; omega), by omega, by omega, h.low.2⟩
theorem OptIs.fails {w : World} {ea : Nat → Addr} {pc many : Int} {l : List Ir.Op} {level : Int} {ev : Value} (h : FaultIs w ea (Ir.optFault many l level) ev) (h0 : (Ir.optFault many l level).1 ≠ 0) : OptIs w ea pc many l level (.agg (codeC 0 0 none 0 0)) ev :=
  ⟨h, .inl ⟨h0, rfl⟩⟩
theorem OptIs.makes {w : World} {ea : Nat → Addr} {pc many : Int} {l l' : List Ir.Op} {level : Int} {A : Option Addr} {n cap : Nat} (h : Ir.optFault many l level = (0, -1)) (hl : Ir.opt l level = l') (V : OpsAt w A n cap l') (hc : cap ≤ 9223372036854775807) : OptIs w ea pc many l level (.agg (codeC pc many A n cap)) .nilIface := by
  refine ⟨.inl ⟨by rw [h], rfl⟩, .inr ⟨by rw [h], A, cap, ?_, ?_, hc⟩⟩
  · rw [hl, V.len]; rfl
  · rw [hl, V.len]; exact V

set_option maxHeartbeats 4000000 in
set_option maxRecDepth 100000 in
theorem Opt_any (pc many level : Int) (A : Option Addr) (n cap : Nat) (l : List Ir.Op) (w : World) (ea : Nat → Addr) (E : ErrsC w ea) (V : OpsAt w A n cap l) (hc : cap ≤ 9223372036854775807) (hok : ∀ o ∈ l, OpOk o) :
    Calls Tryz.prog 24 #[.agg #[.int .u32 pc, .int .i64 many, .slice A n cap], .int .i64 level] w fun e w' => (∃ cv ev, e = .returned (.tuple #[cv, ev]) ∧ OptIs w' ea pc many l level cv ev) ∧ Keeps (fun _ => False) w w' := by
  have HE := Lib.hid E
  have HV := Lib.hid V
  have hn := V.le
  have HL := Lib.hid V.len
  have HN := Lib.hid (OptBox.new w pc many A n cap)
  have HCK := Lib.hid (fun w E V => Check_any pc many A n cap l w ea E V hc)
  have HOK := Lib.hid hok
  have HF := Lib.hid (show Ir.optFault many l level = if (Ir.fault many l).1 ≠ 0 then Ir.fault many l else if level < 0 ∨ 2 < level then (2, -1) else (0, -1) from rfl)
  have HG := Lib.hid (fun (h : (Ir.fault many l).1 = 0) => Ir.good_of_fault h)
  generalize hof : Ir.optFault many l level = of at HF
  have HOF := Lib.hid hof
  clear hof
  generalize Ir.fault many l = f at HF HCK HG
  clear E V hok
  go_enter Tryz.func24, Tryz.ntmps24
  go_upto_region 1 with fail
  have hN := HN.out
  clear HN
  generalize (w.alloc _).alloc _ = w1 at *
  generalize w.heap.size + 1 = rb at *
  obtain ⟨x, hx⟩ : ∃ x, w.heap.size = x := ⟨_, rfl⟩
  rw [hx] at hN ⊢
  clear hx
  have HB1 := Lib.hid hN
  obtain ⟨c0, c1, c2, _⟩ := hN.code.cells
  clear hN
  go_wp2_with fail
  refine (HCK.out w1 (HE.out.quiet HB1.out.k) (HV.out.quiet HB1.out.k)).mono ?_
  rintro e w2 ⟨⟨v, rfl, hv⟩, hk2⟩
  have HB2 := Lib.hid (HB1.out.keep hk2)
  have HFV := Lib.hid hv
  have hp := hv.parts
  clear c0 c1 c2 hk2 hv
  rcases hp with ⟨h0, rfl⟩ | ⟨h0, t, u, rfl⟩
  · have HGG := Lib.hid (HG.out h0)
    have hF2 := HF.out
    rw [if_neg (by rw [h0]; decide)] at hF2
    have HF2 := Lib.hid hF2
    clear h0 hF2
    by_cases hlv : level < 0 ∨ 2 < level
    · have HR := Lib.hid (show of = (2, -1) by rw [HF2.out, if_pos hlv])
      obtain ⟨r0, r1, r2, g0, g1, g2⟩ := HB2.out.res.cells
      have he := (HE.out.quiet HB2.out.k).bound
      have hrb2 : rb ≠ 0 := by
        rintro rfl
        rw [r0] at he
        cases he
      have hrb3 : 0 ≠ rb := fun e => hrb2 e.symm
      rcases hlv with hlv | hlv
      · have t1 : decide (level < 0) = true := decide_eq_true hlv
        go_upto_region 5 with fail
        go_region_held3 (fun w' => Keeps (· = rb) w2 w' ∧ w'.cell? ⟨0, 0, none⟩ = some (.iface 236 (.pointer (some (ea 2)))))
          (first | (refine ⟨?_, ?_⟩ <;> first | ((repeat (first | (with_reducible assumption) | (with_reducible (exact Keeps.refl _ _)) | (with_reducible (apply Keeps.drew)) | (refine Keeps.setCell (S := fun x => x = rb) (a := ⟨rb, _, none⟩) ?_ (fun _ => rfl) _))); done) | (refine Keeps.cell' (S := (· = rb)) (w := w2) ?_ (by assumption) hrb3; (repeat (first | (with_reducible assumption) | (with_reducible (exact Keeps.refl _ _)) | (with_reducible (apply Keeps.drew)) | (refine Keeps.setCell (S := fun x => x = rb) (a := ⟨rb, _, none⟩) ?_ (fun _ => rfl) _))); done)) | (trace_state; fail))
          (fail)
        rename_i hh
        have HKH := Lib.hid hh.1
        clear hh r0 r1 r2 g0 g1 g2 he hrb2 hrb3 t1
        obtain ⟨hq1, hq2⟩ := HB2.out.res.put (pc' := 0) (many' := 0) (A' := none) (n' := 0) (cap' := 0)
        have HP := Lib.hid hq1.blk
        clear hq1 hq2
        go_wp2_with fail
        refine bodyPost_ret (results_code rfl _ _ rb (codeC 0 0 none 0 0) rfl HP.out rfl) rfl ⟨⟨_, _, rfl, ?_⟩, ?_⟩
        · refine OptIs.fails ?_ (by rw [HOF.out, HR.out]; decide)
          rw [HOF.out, HR.out]
          exact FaultIs.bare rfl (by decide)
        · exact HB2.out.k.trans HKH.out (fun b hb e => by have e : b = rb := e; have := HB2.out.low; omega)
      · have t1 : decide (level < 0) = false := decide_eq_false (by omega)
        have t2 : decide (2 < level) = true := decide_eq_true hlv
        go_upto_region 5 with fail
        go_region_held3 (fun w' => Keeps (· = rb) w2 w' ∧ w'.cell? ⟨0, 0, none⟩ = some (.iface 236 (.pointer (some (ea 2)))))
          (first | (refine ⟨?_, ?_⟩ <;> first | ((repeat (first | (with_reducible assumption) | (with_reducible (exact Keeps.refl _ _)) | (with_reducible (apply Keeps.drew)) | (refine Keeps.setCell (S := fun x => x = rb) (a := ⟨rb, _, none⟩) ?_ (fun _ => rfl) _))); done) | (refine Keeps.cell' (S := (· = rb)) (w := w2) ?_ (by assumption) hrb3; (repeat (first | (with_reducible assumption) | (with_reducible (exact Keeps.refl _ _)) | (with_reducible (apply Keeps.drew)) | (refine Keeps.setCell (S := fun x => x = rb) (a := ⟨rb, _, none⟩) ?_ (fun _ => rfl) _))); done)) | (trace_state; fail))
          (fail)
        rename_i hh
        have HKH := Lib.hid hh.1
        clear hh r0 r1 r2 g0 g1 g2 he hrb2 hrb3 t1
        obtain ⟨hq1, hq2⟩ := HB2.out.res.put (pc' := 0) (many' := 0) (A' := none) (n' := 0) (cap' := 0)
        have HP := Lib.hid hq1.blk
        clear hq1 hq2
        go_wp2_with fail
        refine bodyPost_ret (results_code rfl _ _ rb (codeC 0 0 none 0 0) rfl HP.out rfl) rfl ⟨⟨_, _, rfl, ?_⟩, ?_⟩
        · refine OptIs.fails ?_ (by rw [HOF.out, HR.out]; decide)
          rw [HOF.out, HR.out]
          exact FaultIs.bare rfl (by decide)
        · exact HB2.out.k.trans HKH.out (fun b hb e => by have e : b = rb := e; have := HB2.out.low; omega)
    · have HR := Lib.hid (show of = (0, -1) by rw [HF2.out, if_neg hlv])
      have t1 : decide (level < 0) = false := decide_eq_false (by omega)
      have t2 : decide (2 < level) = false := decide_eq_false (by omega)
      have hlv3 : level = 0 ∨ level = 1 ∨ level = 2 := by omega
      clear hlv
      go_upto_region 6 with fail
      obtain ⟨d0, d1, d2, _⟩ := HB2.out.code.cells
      have HCL := Lib.hid (fun w V => clone_any A n cap l w V (by have := HGG.out.len; have := HL.out; omega))
      have HW2 := Lib.hid (HV.out.quiet HB2.out.k)
      obtain ⟨B, hB⟩ : ∃ B, w2.heap.size = B := ⟨_, rfl⟩
      have HBB := Lib.hid hB
      have hxB : x < B := by have := HB2.out.code.lt; omega
      have hb2 : B ≤ w2.heap.size := Nat.le_of_eq hB.symm
      clear hB
      go_cut [7] (fun s7 wx => ∃ z A' cap', s7 = .pointer (some ⟨z, 0, none⟩) ∧ OptRun w wx z rb pc many l A' l.length cap')
      case first =>
        go_region_held3 (fun w' => Keeps (fun b => B ≤ b) w2 w' ∧ w'.cell? ⟨x, 0, none⟩ = some (.int .u32 pc) ∧ w'.cell? ⟨x, 1, none⟩ = some (.int .i64 many) ∧ w'.cell? ⟨x, 2, none⟩ = some (.slice A n cap))
          (first | (refine ⟨?_, ?_, ?_, ?_⟩ <;> first | ((repeat (first | (with_reducible assumption) | (with_reducible (exact Keeps.refl _ _)) | (with_reducible (apply Keeps.drew)) | (with_reducible (apply Keeps.alloc)) | (refine Keeps.setCell (S := fun b => B ≤ b) (a := ⟨_, _, none⟩) ?_ (fun _ => by first | assumption | (simp only [nblk_alloc, nblk_drew]; omega)) _))); done) | (refine Keeps.cell' (S := fun b => B ≤ b) (w := w2) ?_ (by assumption) (Nat.not_le.2 hxB); (repeat (first | (with_reducible assumption) | (with_reducible (exact Keeps.refl _ _)) | (with_reducible (apply Keeps.drew)) | (with_reducible (apply Keeps.alloc)) | (refine Keeps.setCell (S := fun b => B ≤ b) (a := ⟨_, _, none⟩) ?_ (fun _ => by first | assumption | (simp only [nblk_alloc, nblk_drew]; omega)) _))); done)) | (trace_state; fail))
          (first | (go_at_call 59; refine (HCL.out _ ?_).mono ?_; (exact HW2.out.quiet (by (repeat (first | exact Keeps.refl _ _ | assumption | apply Keeps.drew | apply Keeps.drewN | apply Keeps.alloc)))); rintro e w4 ⟨v4, rfl, ho4, hk4⟩; have hq4 : Keeps (fun b => B ≤ b) w2 w4 := Keeps.trans (by (repeat (first | (with_reducible assumption) | (with_reducible (exact Keeps.refl _ _)) | (with_reducible (apply Keeps.drew)) | (with_reducible (apply Keeps.alloc)) | (refine Keeps.setCell (S := fun b => B ≤ b) (a := ⟨_, _, none⟩) ?_ (fun _ => by first | assumption | (simp only [nblk_alloc, nblk_drew]; omega)) _))); done) (hk4.mono (fun _ _ h => h.elim)) (fun _ _ h => h); have hb4 : B ≤ w4.heap.size := Nat.le_trans hb2 hq4.size; obtain ⟨A4, cap4, rfl, ho4⟩ := ho4; (first | (have hz4 : CodeBox w4 w2.heap.size 0 0 none 0 0 := CodeBox.keep (S := fun _ => False) (CodeBox.new w2.drew 0 0 none 0 0) hk4 (fun h => h); have HZ4 := Lib.hid hz4; obtain ⟨z0, z1, z2, z3, z4, z5⟩ := hz4.cells; clear hz4) | skip)))
        · have HO := Lib.hid (OptRun.first (pc := pc) (many := many) HB2.out rfl hk4 ho4)
          clear hq4 hb4 ho4 hk4 d0 d1 d2
          go_wp2_with fail
          go_meet
          exact ⟨_, _, _, rfl, HO.out⟩
        · have HO := Lib.hid (OptRun.second (pc := pc) (many := many) HB2.out rfl hk4 ho4 HZ4.out)
          clear hq4 hb4 ho4 hk4 d0 d1 d2 z0 z1 z2 z3 z4 z5
          go_wp2_with fail
          go_meet
          exact ⟨_, _, _, rfl, HO.out⟩
      case rest =>
        obtain ⟨z, A4, cap4, rfl, hO⟩ := hcut
        have HO := Lib.hid hO
        clear hO d0 d1 d2
        have HOO := Lib.hid (ops_ok_good HGG.out HOK.out)
        have HLN := Lib.hid (show l.length < 1000000 by have := HGG.out.len; omega)
        rcases hlv3 with rfl | rfl | rfl
        · have HOP := Lib.hid (show Ir.opt l 0 = l from if_pos (by decide))
          obtain ⟨d0, d1, d2, _⟩ := HO.out.code.cells
          obtain ⟨r0, r1, r2, g0, g1, g2⟩ := HO.out.res.cells
          have hd := HO.out.done
          have HD := Lib.hid hd
          clear hd
          go_wp2_with fail
          refine bodyPost_ret (results_code rfl _ _ rb (codeC pc many A4 l.length cap4) rfl HD.out.1 rfl) rfl ⟨⟨_, _, rfl, ?_⟩, HD.out.2.2⟩
          exact OptIs.makes (HOF.out.trans HR.out) HOP.out HD.out.2.1 HO.out.hc
        · have HOP := Lib.hid (show Ir.opt l 1 = Ir.fold l by unfold Ir.opt; rw [if_neg (by decide), if_pos (by decide)])
          have HFC := Lib.hid (fold_any A4 l.length cap4 l wc HO.out.ops HLN.out HOO.out)
          obtain ⟨d0, d1, d2, _⟩ := HO.out.code.cells
          go_wp2_with fail
          refine HFC.out.mono ?_
          rintro e w5 ⟨v5, rfl, ⟨A5, cap5, rfl, ho5⟩, hk5⟩
          have HO5 := Lib.hid ((HO.out.keep hk5).put (OpsAt.of_owns ho5 rfl) (owns_cap ho5))
          obtain ⟨e0, e1, e2, f0, f1, f2⟩ := (HO.out.keep hk5).code.cells
          clear d0 d1 d2 ho5 hk5
          go_upto_region 11 with fail
          clear e0 e1 e2 f0 f1 f2
          generalize w5.setCell _ _ = w6 at *
          obtain ⟨d0, d1, d2, _⟩ := HO5.out.code.cells
          obtain ⟨r0, r1, r2, g0, g1, g2⟩ := HO5.out.res.cells
          have hd := HO5.out.done
          have HD := Lib.hid hd
          clear hd
          go_wp2_with fail
          refine bodyPost_ret (results_code rfl _ _ rb (codeC pc many A5 (Ir.fold l).length cap5) rfl HD.out.1 rfl) rfl ⟨⟨_, _, rfl, ?_⟩, HD.out.2.2⟩
          exact OptIs.makes (HOF.out.trans HR.out) HOP.out HD.out.2.1 HO5.out.hc
        · have HOP := Lib.hid (show Ir.opt l 2 = Ir.sweep (Ir.fold l) by unfold Ir.opt; rw [if_neg (by decide), if_neg (by decide)])
          have HFC := Lib.hid (fold_any A4 l.length cap4 l wc HO.out.ops HLN.out HOO.out)
          have HFN := Lib.hid (show (Ir.fold l).length < 1000000 by rw [Ir.fold_len]; exact HLN.out)
          obtain ⟨d0, d1, d2, _⟩ := HO.out.code.cells
          go_wp2_with fail
          refine HFC.out.mono ?_
          rintro e w5 ⟨v5, rfl, ⟨A5, cap5, rfl, ho5⟩, hk5⟩
          have HO5 := Lib.hid ((HO.out.keep hk5).put (OpsAt.of_owns ho5 rfl) (owns_cap ho5))
          obtain ⟨e0, e1, e2, f0, f1, f2⟩ := (HO.out.keep hk5).code.cells
          clear d0 d1 d2 ho5 hk5
          go_upto_region 10 with fail
          clear e0 e1 e2 f0 f1 f2
          generalize w5.setCell _ _ = w6 at *
          have HSW := Lib.hid (sweep_any A5 (Ir.fold l).length cap5 (Ir.fold l) w6 HO5.out.ops HFN.out HO5.out.hc)
          obtain ⟨d0, d1, d2, _⟩ := HO5.out.code.cells
          go_wp2_with fail
          refine HSW.out.mono ?_
          rintro e w7 ⟨A7, cap7, rfl, ho7, hc7, hk7⟩
          have HO7 := Lib.hid ((HO5.out.keep hk7).put ho7 hc7)
          obtain ⟨e0, e1, e2, f0, f1, f2⟩ := (HO5.out.keep hk7).code.cells
          clear d0 d1 d2 ho7 hc7 hk7
          go_upto_region 11 with fail
          clear e0 e1 e2 f0 f1 f2
          generalize w7.setCell _ _ = w8 at *
          obtain ⟨d0, d1, d2, _⟩ := HO7.out.code.cells
          obtain ⟨r0, r1, r2, g0, g1, g2⟩ := HO7.out.res.cells
          have hd := HO7.out.done
          have HD := Lib.hid hd
          clear hd
          go_wp2_with fail
          refine bodyPost_ret (results_code rfl _ _ rb (codeC pc many A7 (Ir.sweep (Ir.fold l)).length cap7) rfl HD.out.1 rfl) rfl ⟨⟨_, _, rfl, ?_⟩, HD.out.2.2⟩
          exact OptIs.makes (HOF.out.trans HR.out) HOP.out HD.out.2.1 HO7.out.hc
  · have HR := Lib.hid (show of = f by rw [HF.out, if_pos h0])
    have HRN := Lib.hid (show of.1 ≠ 0 by rw [HR.out]; exact h0)
    obtain ⟨r0, r1, r2, g0, g1, g2⟩ := HB2.out.res.cells
    obtain ⟨hq1, hq2⟩ := HB2.out.res.put (pc' := 0) (many' := 0) (A' := none) (n' := 0) (cap' := 0)
    have HP := Lib.hid hq1.blk
    have HPK := Lib.hid hq2
    clear h0 hq1 hq2
    go_wp2_with fail
    refine bodyPost_ret (results_code rfl _ _ rb (codeC 0 0 none 0 0) rfl HP.out rfl) rfl ⟨⟨_, _, rfl, ?_⟩, ?_⟩
    · refine OptIs.fails ?_ (by rw [HOF.out]; exact HRN.out)
      rw [HOF.out, HR.out]
      exact HFV.out.other HB2.out.res HPK.out
    · exact HB2.out.k.trans HPK.out (fun b hb e => by have e : b = rb := e; have := HB2.out.low; omega)
end Go.Proofs.YtgmbladcoikffaaGreatDoor

/- MachOk -/
/- A machine stays in its ranges. -/
namespace Go.Proofs.YtgmbladcoikffaaGreatDoor
open Go.RowKit Go.Deep
set_option linter.unusedVariables false
set_option linter.unusedSimpArgs false

theorem wide_rng {v n : Int} {s : Bool} (h : 0 ≤ v ∧ v < 4294967296) : 0 ≤ Wd.wide v n s ∧ Wd.wide v n s < 4294967296 := by
  unfold Wd.wide
  split
  · exact h
  · have h1 : 0 ≤ v % 2 ^ n.toNat := Int.emod_nonneg _ (Int.ne_of_gt (Int.pow_pos (by omega)))
    have h2 : v % 2 ^ n.toNat ≤ v := by
      have h3 := Int.mul_ediv_add_emod v (2 ^ n.toNat)
      have h4 : 0 ≤ (2 : Int) ^ n.toNat * (v / 2 ^ n.toNat) := Int.mul_nonneg (Int.le_of_lt (Int.pow_pos (by omega))) (Int.ediv_nonneg h.1 (Int.le_of_lt (Int.pow_pos (by omega))))
      omega
    split <;> omega
theorem quo_rng {a b : Int} {s : Bool} (ha : 0 ≤ a ∧ a < 4294967296) (hb : 0 ≤ b ∧ b < 4294967296) : 0 ≤ Wd.quo a b s ∧ Wd.quo a b s < 4294967296 := by
  unfold Wd.quo
  split
  · omega
  · split
    · omega
    · have h1 : 0 ≤ a / b := Int.ediv_nonneg ha.1 hb.1
      have h2 : a / b ≤ a := Int.ediv_le_self _ ha.1
      omega
theorem rst_rng {a b : Int} {s : Bool} (ha : 0 ≤ a ∧ a < 4294967296) (hb : 0 ≤ b ∧ b < 4294967296) : 0 ≤ Wd.rst a b s ∧ Wd.rst a b s < 4294967296 := by
  unfold Wd.rst
  split
  · omega
  · split
    · omega
    · have h1 : 0 ≤ a % b := Int.emod_nonneg _ (by assumption)
      have h2 : a % b < b := Int.emod_lt_of_pos _ (by omega)
      omega
theorem value_rng (c : Nat) {a b d : Int} (ha : 0 ≤ a ∧ a < 4294967296) (hb : 0 ≤ b ∧ b < 4294967296) (hd : 0 ≤ d ∧ d < 4294967296) : 0 ≤ Ir.value c a b d ∧ Ir.value c a b d < 4294967296 := by
  unfold Ir.value
  split
  · split
    · exact hd
    · split
      · exact quo_rng ha hb
      · exact rst_rng ha hb
  · exact sumsV_rng c ha hb
theorem loadV_rng {m : Nat → Int} (hm : ∀ j, j < 16384 → 0 ≤ m j ∧ m j < 256) (ws : List Ir.Wt) {ad b : Int} (h0 : 0 ≤ ad) (h : rightC ad b.natAbs = 0) : 0 ≤ Ir.loadV m ws ad b ∧ Ir.loadV m ws ad b < 4294967296 := by
  obtain ⟨hn, hal, hlt⟩ := rightC_ok h
  have hn3 : b.natAbs = 1 ∨ b.natAbs = 2 ∨ b.natAbs = 4 := by omega
  unfold Ir.loadV
  refine wide_rng ?_
  have hfit : ad + b.natAbs ≤ 16384 := by
    generalize b.natAbs = n at *
    rcases hn3 with rfl | rfl | rfl <;> omega
  have h1 := be_rng (Ir.pend m ws) ad.toNat b.natAbs (fun j hj => pend_rng hm ws _ (by omega))
  have h2 : (256 : Int) ^ b.natAbs ≤ 4294967296 := by rcases hn3 with h3 | h3 | h3 <;> rw [h3] <;> decide
  exact ⟨h1.1, Int.lt_of_lt_of_le h1.2 h2⟩
theorem setX_ok {W : Int → Bool} {c : Ir.Mc} (h : Ir.McOk W c) (d : Int) {v : Int} (hv : 0 ≤ v ∧ v < 4294967296) : Ir.McOk W { c with X := Ir.setX c.X d v } := by
  refine ⟨fun k hk => ?_, h.ws⟩
  show 0 ≤ Ir.setX c.X d v k ∧ Ir.setX c.X d v k < 4294967296
  unfold Ir.setX
  split
  · exact hv
  · exact h.X k hk
theorem rg_ok {W : Int → Bool} {c : Ir.Mc} (h : Ir.McOk W c) {n : Int} (hn : 0 ≤ n ∧ n < 64) : 0 ≤ Ir.rg c.X n ∧ Ir.rg c.X n < 4294967296 := h.X _ (by omega)
theorem doOp_ok {m : Nat → Int} (hm : ∀ j, j < 16384 → 0 ≤ m j ∧ m j < 256) {W : Int → Bool} {c c' : Ir.Mc} {o : Ir.Op} (h : Ir.McOk W c) (hi : Ir.OpIn o) (hnl : Ir.leaves (Ir.kn o.k) = false) (hd : Ir.doOp m W c o = some c') : Ir.McOk W c' ∧ c'.ws.length ≤ c.ws.length + 1 := by
  have ha := rg_ok h hi.a
  have hle := Ir.kn_le o.k
  unfold Ir.leaves at hnl
  have hnl := of_decide_eq_false hnl
  have hk := hi.k
  unfold Ir.doOp at hd
  split at hd
  · injection hd with hd; subst hd
    exact ⟨setX_ok h _ hi.imm, by simp⟩
  split at hd
  · injection hd with hd; subst hd
    exact ⟨setX_ok h _ ha, by simp⟩
  split at hd
  · split at hd
    · cases hd
    · injection hd with hd; subst hd
      exact ⟨h, by simp⟩
  split at hd
  · split at hd
    · rename_i h5
      injection hd with hd; subst hd
      exact ⟨setX_ok h _ (loadV_rng hm c.ws (by unfold Ir.adr; omega) h5), by simp⟩
    · cases hd
  rename_i h5
  have hb := rg_ok h (hi.b h5)
  split at hd
  · split at hd
    · rename_i h6 h7
      injection hd with hd; subst hd
      refine ⟨⟨h.X, fun s hs => ?_⟩, by simp⟩
      rcases List.mem_append.1 hs with hs | hs
      · exact h.ws s hs
      · simp only [List.mem_singleton] at hs
        subst hs
        exact ⟨h7.1, by show 0 ≤ Ir.adr _ _; unfold Ir.adr; omega, hb, h7.2⟩
    · cases hd
  · injection hd with hd; subst hd
    have hd1 := hi.d (by omega)
    exact ⟨setX_ok h _ (value_rng _ ha hb (rg_ok h (by omega))), by simp⟩
end Go.Proofs.YtgmbladcoikffaaGreatDoor

/- Mach7 -/
/- The walk of a machine's Leave. -/
namespace Go.Proofs.YtgmbladcoikffaaGreatDoor
open Go.RowKit Go.Deep
set_option linter.unusedVariables false
set_option linter.unusedSimpArgs false

theorem stL_lenD (s : Cp.St) : (stL s).length = 43 := by simp [stL, regs, restC]
def stF (s : Cp.St) (k : Nat) : Value := (stL s).getD k undef
theorem StAt.rowD {w : World} {sb : Nat} {s : Cp.St} (h : StAt w sb s) : w.rowIs sb 26 43 (stF s) := by
  refine ⟨_, h, by simp [stL_lenD], fun i hi => ?_⟩
  unfold stF
  rw [List.getD_eq_getElem?_getD, List.getElem?_toArray, List.getElem?_eq_getElem (by rw [stL_lenD]; exact hi)]
  rfl
theorem StAt.of_row {w : World} {sb : Nat} {s : Cp.St} {f : Nat → Value} (h : w.rowIs sb 26 43 f) (hf : ∀ i, i < 43 → stF s i = f i) : StAt w sb s := by
  obtain ⟨c, hb, h1, h2⟩ := h
  unfold StAt
  rw [hb]
  congr 2
  apply Array.ext_getElem?
  intro i
  by_cases hi : i < 43
  · rw [h2 i hi, ← hf i hi]
    unfold stF
    rw [List.getD_eq_getElem?_getD, List.getElem?_toArray, List.getElem?_eq_getElem (by rw [stL_lenD]; exact hi)]
    rfl
  · rw [Array.getElem?_eq_none (by omega), List.getElem?_toArray, List.getElem?_eq_none (by rw [stL_lenD]; omega)]
theorem stF_reg (s : Cp.St) (k : Nat) (hk : k < 32) : stF s k = .int .u32 (s.R k) := by
  unfold stF stL
  rw [List.getD_eq_getElem?_getD, List.getElem?_append_left (by rw [regs_len]; exact hk)]
  simp [regs, hk]
theorem stF_rest (s : Cp.St) (i : Nat) : stF s (32 + i) = (restC s).getD i undef := by
  unfold stF stL
  rw [List.getD_eq_getElem?_getD, List.getElem?_append_right (by rw [regs_len]; omega), regs_len, show 32 + i - 32 = i by omega, List.getD_eq_getElem?_getD]
/-- a state as a machine left it -/
def Ir.leaveSt (s : Cp.St) (c : Ir.Mc) (pc many : Int) : Cp.St := { s with R := c.X, hi := c.X 32, lo := c.X 33, pc := pc, next := (pc + 4) % 4294967296, count := s.count + many }
theorem StAt.set32 {w : World} {sb : Nat} {s s' : Cp.St} (h : StAt w sb s) (i : Nat) (v : Value) (hR : s'.R = s.R) (hi : (restC s).set i v = restC s') : StAt (w.setCell ⟨sb, 32 + i, none⟩ v) sb s' := h.set i v hR hi
set_option maxHeartbeats 4000000 in
set_option maxRecDepth 100000 in
theorem leave_any (B mb r sb pb pw ph cp : Nat) (c : Ir.Mc) (m : Nat → Int) (W : Int → Bool) (s : Cp.St) (pc many : Int) (w : World) (M : MachAt w B mb r c) (R : RamAt w r pb pw ph cp m) (hW : WatchAt w pw W) (hS : StAt w sb s) (hok : Ir.McOk W c)
    (hpc : 0 ≤ pc ∧ pc < 4294967296) (hcnt : 0 ≤ s.count ∧ s.count < 4611686018427387904) (hmany : 0 ≤ many ∧ many ≤ 24) (hsep : sb ≠ mb ∧ sb ≠ r ∧ sb ≠ pb ∧ sb ≠ pw) (hsB : sb < B) (hpB : pb < B) (hrB : r < B) (hB : B ≤ w.heap.size) :
    Calls Tryz.prog 53 #[.pointer (some ⟨mb, 0, none⟩), .pointer (some ⟨sb, 0, none⟩), .int .u32 pc, .int .i64 many] w fun e w' => e = .returned (.tuple #[]) ∧ StAt w' sb (Ir.leaveSt s c pc many) ∧ RamAt w' r pb pw ph cp (Ir.pend m c.ws) ∧ Keeps (fun b => b = sb ∨ b = pb) w w' := by
  have HM := Lib.hid M
  have HR := Lib.hid R
  have HW := Lib.hid hW
  have HS := Lib.hid hS
  have HOK := Lib.hid hok
  have HSEP := Lib.hid hsep
  have HLOW := Lib.hid M.low
  clear M R hW hS hok hsep
  go_enter Tryz.func53, Tryz.ntmps53
  go_upto_region 0 with fail
  go_still_tail 8, (by kernel_rfl)
  change wpList _ _ _ _ _ w.drew
  have hkd := (Keeps.refl (fun _ => False) w).drew
  have HK1 := Lib.hid hkd
  have HM1 := Lib.hid (HM.out.keep hkd (fun _ _ h => h))
  have HS1 := Lib.hid (HS.out.keep hkd (fun h => h))
  have HROW1 := Lib.hid (HS1.out.rowD)
  clear hkd
  generalize w.drew = w1 at *
  refine wpList_copy_rowIs rfl (.tmp 13) (.tmp 17) 27 27 rfl 22 Tryz.underlying27 (by kernel_rfl) sb 0 32 32 ⟨mb, 0, none⟩ 32 64 rfl rfl 26 43 _ HROW1.out 32 (fun k => .int .u32 (c.X k)) (by decide) ?a2 (by omega) (fun _ _ => rfl) ?a5
  case a2 =>
    intro j hj
    rw [Addr.add_lit, Nat.zero_add]
    exact (HM1.out.reg j (by omega)).1
  case a5 =>
    intro w2 hrow hk2
    have hS2 : StAt w2 sb { s with R := c.X } := StAt.of_row hrow (fun i hi => by
      by_cases h : i < 32
      · rw [if_pos ⟨Nat.zero_le _, by omega⟩, stF_reg _ i h, Nat.sub_zero]
      · rw [if_neg (by omega)]
        obtain ⟨j, rfl⟩ : ∃ j, i = 32 + j := ⟨i - 32, by omega⟩
        rw [stF_rest, stF_rest]
        rfl)
    have HS2 := Lib.hid hS2
    have HK2 := Lib.hid hk2
    have HM2 := Lib.hid (HM1.out.keep hk2 (fun b hb e => by have e : b = sb := e; omega))
    have hne := HSEP.out.1
    have hne2 : mb ≠ sb := fun e => hne e.symm
    obtain ⟨p0, p1, p2, p3, p4, p5, p6, p7, p8, p9, p10⟩ := hS2.cells
    have q0 := hS2.frozen 32
    have q1 := hS2.frozen 33
    obtain ⟨x0, _⟩ := HM2.out.reg 32 (by omega)
    obtain ⟨x1, _⟩ := HM2.out.reg 33 (by omega)
    simp only at p0 p1
    clear hrow hk2 hS2 HROW1 p2 p3 p4 p5 p6 p7 p8 p9 p10
    go_upto_region 1 with fail
    go_region_held3 (fun w' => Keeps (· = sb) w2 w' ∧ w'.cell? ⟨mb, 32, none⟩ = some (.int .u32 (c.X 32)) ∧ w'.cell? ⟨mb, 33, none⟩ = some (.int .u32 (c.X 33)))
      (first | (refine ⟨?_, ?_, ?_⟩ <;> first | ((repeat (first | (with_reducible assumption) | (with_reducible (exact Keeps.refl _ _)) | (with_reducible (apply Keeps.drew)) | (refine Keeps.setCell (S := fun x => x = sb) (a := ⟨sb, _, none⟩) ?_ (fun _ => rfl) _))); done) | (refine Keeps.cell' (S := (· = sb)) (w := w2) ?_ (by assumption) hne2; (repeat (first | (with_reducible assumption) | (with_reducible (exact Keeps.refl _ _)) | (with_reducible (apply Keeps.drew)) | (refine Keeps.setCell (S := fun x => x = sb) (a := ⟨sb, _, none⟩) ?_ (fun _ => rfl) _))); done)) | (trace_state; fail))
      (fail)
    rename_i hh
    have HKH := Lib.hid hh.1
    have hS3 : StAt ((w2.setCell ⟨sb, 32, none⟩ (.int .u32 (c.X 32))).setCell ⟨sb, 33, none⟩ (.int .u32 (c.X 33))).drew sb { s with R := c.X, hi := c.X 32, lo := c.X 33 } :=
      StAt.keep (((HS2.out.set (s' := { s with R := c.X, hi := c.X 32 }) 0 (.int .u32 (c.X 32)) rfl rfl).set (s' := { s with R := c.X, hi := c.X 32, lo := c.X 33 }) 1 (.int .u32 (c.X 33)) rfl rfl)) ((Keeps.refl (fun _ => False) _).drew) (fun h => h)
    have HS3 := Lib.hid hS3
    have HM3 := Lib.hid (HM2.out.keep hh.1 (fun b hb e => by have e : b = sb := e; omega))
    clear hh q0 q1 x0 x1 p0 p1
    generalize World.drew _ = w3 at *
    have HK3 := Lib.hid ((HK1.out.mono (T := fun b => b = sb) (fun _ _ h => h.elim)).trans (HK2.out.trans HKH.out (fun _ _ h => h)) (fun _ _ h => h))
    obtain ⟨p0, p1, p2, p3, p4, p5, p6, p7, p8, p9, p10⟩ := hS3.cells
    have q2 := hS3.frozen 34
    have q3 := hS3.frozen 35
    have q10 := hS3.frozen 42
    simp only at p2 p3 p10
    have hw1 : IntKind.i64.wrap (s.count + many) = s.count + many := by rw [IntKind.wrap_i64]; omega
    have hS4 : StAt (((w3.setCell ⟨sb, 34, none⟩ (.int .u32 pc)).setCell ⟨sb, 35, none⟩ (.int .u32 ((pc + 4) % 4294967296))).setCell ⟨sb, 42, none⟩ (.int .i64 (s.count + many))) sb (Ir.leaveSt s c pc many) := ((HS3.out.set (s' := { s with R := c.X, hi := c.X 32, lo := c.X 33, pc := pc }) 2 (.int .u32 pc) rfl rfl).set (s' := { s with R := c.X, hi := c.X 32, lo := c.X 33, pc := pc, next := (pc + 4) % 4294967296 }) 3 (.int .u32 ((pc + 4) % 4294967296)) rfl rfl).set (s' := Ir.leaveSt s c pc many) 10 (.int .i64 (s.count + many)) rfl rfl
    have hk4 : Keeps (· = sb) w3 _ := ((Keeps.one w3 sb 34 (.int .u32 pc)).trans (Keeps.one _ sb 35 (.int .u32 ((pc + 4) % 4294967296))) (fun _ _ h => h)).trans (Keeps.one _ sb 42 (.int .i64 (s.count + many))) (fun _ _ h => h)
    have HS4 := Lib.hid hS4
    have HK4 := Lib.hid (HK3.out.trans hk4 (fun _ _ h => h))
    have HM4 := Lib.hid (HM3.out.keep hk4 (fun b hb e => by have e : b = sb := e; omega))
    clear hS3 hS4 hk4 p0 p1 p4 p5 p6 p7 p8 p9
    go_upto_region 3 with fail
    clear p2 p3 p10 q2 q3 q10 hw1
    generalize World.setCell (World.setCell (World.setCell w3 _ _) _ _) _ _ = w4 at *
    have HR4 := Lib.hid (HR.out.keep HK4.out (fun e => HSEP.out.2.1 (Eq.symm e)) (fun e => HSEP.out.2.2.1 (Eq.symm e)))
    have HW4 := Lib.hid (HW.out.keep HK4.out (fun e => HSEP.out.2.2.2 (Eq.symm e)))
    obtain ⟨A, cap, hw65, hWT⟩ := HM4.out.wts
    obtain ⟨N, hN⟩ : ∃ N, c.ws.length = N := ⟨_, rfl⟩
    rw [hN] at hw65 hWT
    have HN := Lib.hid hN
    have hNle := hWT.2.1
    have H65 := Lib.hid hw65
    clear hN hWT
    have hpm : ∀ b, B ≤ b → ¬ (b = pb) := fun b hb e => by omega
    have HPM := Lib.hid hpm
    clear hpm
    go_wp2_with fail
    go_loopw [58] (fun s58 wr => ∃ i : Nat, i ≤ N ∧ s58 = .int .i64 i ∧ RamAt wr r pb pw ph cp (Ir.pend m (c.ws.take i)) ∧ Keeps (fun b => b = pb) w4 wr) (fun s58 _ => N - (intOf s58).toNat)
    case atStart => exact ⟨0, by omega, rfl, HR4.out, Keeps.refl _ _⟩
    case round =>
      obtain ⟨i, hi, rfl, hRi, hKi⟩ := hrel
      have HRI := Lib.hid hRi
      have HKI := Lib.hid hKi
      have HMI := Lib.hid (HM4.out.keep hKi HPM.out)
      clear hRi hKi hw65
      by_cases hlt : i < N
      · obtain ⟨A', cap', h65', _, _, hcap, hlies⟩ := HMI.out.wts
        rw [HN.out] at h65'
        have h65 := HKI.out.cell' H65.out (fun e => HPM.out mb HLOW.out e)
        rw [h65] at h65'
        injection h65' with h65'
        injection h65' with e1 e2 e3
        subst e1 e3
        clear e2
        obtain ⟨g, rfl, hg⟩ := hlies.resolve_left (by have := HN.out; omega)
        obtain ⟨g0, g1, g2⟩ := hg i (by rw [HN.out]; exact hlt)
        obtain ⟨st, hst⟩ : ∃ st, c.ws[i]'(by rw [HN.out]; exact hlt) = st := ⟨_, rfl⟩
        have hso := HOK.out.ws _ (List.getElem_mem (show i < c.ws.length by rw [HN.out]; exact hlt))
        have hsn := pend_snoc m c.ws i (by rw [HN.out]; exact hlt)
        rw [hst] at g0 g1 g2 hso hsn
        obtain ⟨sa, sz, sv⟩ := st
        simp only at g0 g1 g2 hso hsn
        obtain ⟨hs1, hs2, hsv, hsw⟩ := hso
        have HSN := Lib.hid hsn
        have hrc := rightC_ok hs1
        have h64 := HMI.out.ram
        clear hg hst hsn hlies h65
        have hka := (Keeps.refl (fun _ => False) wr).alloc (.cells #[.int .u32 sa, .int .i64 sz, .int .u32 sv] 146)
        have HKA := Lib.hid hka
        have c0 := cells_new wr [.int .u32 sa, .int .i64 sz, .int .u32 sv] 146 0 _ rfl
        have c1 := cells_new wr [.int .u32 sa, .int .i64 sz, .int .u32 sv] 146 1 _ rfl
        have c2 := cells_new wr [.int .u32 sa, .int .i64 sz, .int .u32 sv] 146 2 _ rfl
        rw [Addr.add_lit] at c0 c1 c2
        simp only [Nat.zero_add] at c0 c1 c2
        have H64 := Lib.hid (hka.cell' h64 (fun h => h))
        clear hka
        go_upto_region 6 with fail
        have h64 := H64.out
        clear H64
        have hkr := (HKA.out).drew
        have HRW := Lib.hid (HRI.out.keep hkr (fun h => h) (fun h => h))
        have hw5 := HW4.out.keep (HKI.out.trans (hkr.mono (T := fun b => b = pb) (fun _ _ h => h.elim)) (fun _ _ h => h)) (fun e => HRI.out.apart.2.2.2.1 (Eq.symm e))
        have HW5 := Lib.hid hw5
        generalize wr.alloc _ = w5 at *
        have HST := Lib.hid (store_coldI r pb pw ph cp (Ir.pend m (c.ws.take i)) sa sz sv w5.drew HRW.out hs2 hsv hs1 (fun w' k => by
          have h1 := hrc.2.2
          have h2 := (HW5.out.keep k (fun e => HRI.out.apart.2.2.2.1 (Eq.symm e))).look (sa / 256) (by omega) (by omega)
          rw [hsw] at h2
          exact h2))
        rw [← HSN.out] at HST
        clear hw5 hsw hrc hs1
        go_still_tail 10, (by kernel_rfl)
        change wpList _ _ _ _ _ w5.drew
        go_wp2_with fail
        refine HST.out.mono ?_
        rintro e w6 ⟨rfl, hR6, hk6⟩
        have HR6 := Lib.hid hR6
        have HK6 := Lib.hid (HKI.out.trans ((hkr.mono (T := fun b => b = pb) (fun _ _ h => h.elim)).trans hk6 (fun _ _ h => h)) (fun _ _ h => h))
        clear hR6 hk6 hkr c0 c1 c2 h64 g0 g1 g2
        go_wp2_with fail
        go_roundw
        case rel => exact ⟨i + 1, by omega, by go_num, HR6.out, HK6.out⟩
        case measure => simp [intOf]; omega
      · obtain rfl : i = N := by omega
        go_wp2_with fail
        refine bodyPost_end (results_none rfl _ _ _) rfl ⟨rfl, ?_, ?_, ?_⟩
        · exact HS4.out.keep HKI.out (fun e => HSEP.out.2.2.1 e)
        · have h := HRI.out
          rw [show c.ws.take i = c.ws by rw [← HN.out, List.take_length]] at h
          exact h
        · exact (HK4.out.mono (T := fun b => b = sb ∨ b = pb) (fun _ _ h => .inl h)).trans HKI.out (fun _ _ h => .inr h)
end Go.Proofs.YtgmbladcoikffaaGreatDoor
