
/- Rows of ops of the call's own; the walks of slices.Clone, OwnOps. -/
import Derived.Test.YtlmnmncdoiealaaGreatDoorIrOps
import Derived.Laws.AppendOwn
import Derived.OwnWalk
import Derived.Lib.Slices
import Derived.Lib.Hide
namespace Go.Proofs.YtlmnmncdoiealaaGreatDoor
open Go.RowKit Go.Deep
set_option linter.unusedVariables false
set_option linter.unusedSimpArgs false

def opsL (l : List Ir.Op) : List Value := l.flatMap (fun o => (opC o).toList)
theorem opsL_len (l : List Ir.Op) : (opsL l).length = l.length * 6 := by
  induction l with
  | nil => rfl
  | cons o r ih =>
    have : opsL (o :: r) = (opC o).toList ++ opsL r := rfl
    rw [this, List.length_append, ih, List.length_cons]
    show 6 + _ = _
    omega
theorem opsL_get (l : List Ir.Op) : ∀ i q, i < l.length → q < 6 → (opsL l)[i * 6 + q]? = (opC (l.getD i Ir.nop))[q]? := by
  induction l with
  | nil => intro i q h; simp at h
  | cons o r ih =>
    intro i q h hq
    have e : opsL (o :: r) = (opC o).toList ++ opsL r := rfl
    rw [e]
    cases i with
    | zero =>
      rw [List.getElem?_append_left (by show _ < 6; omega)]
      simp
    | succ i =>
      rw [List.getElem?_append_right (by show 6 ≤ _; omega)]
      show (opsL r)[(i + 1) * 6 + q - 6]? = _
      rw [show (i + 1) * 6 + q - 6 = i * 6 + q by omega, ih i q (by simpa using h) hq]
      rfl
theorem opsL_one (l : List Ir.Op) : ∀ v ∈ opsL l, v.oneCell' = true := by
  intro v hv
  unfold opsL at hv
  obtain ⟨o, _, h⟩ := List.mem_flatMap.1 hv
  simp only [opC, List.mem_cons, List.not_mem_nil, or_false] at h
  rcases h with rfl | rfl | rfl | rfl | rfl | rfl <;> rfl
theorem OpLies.of_cells {w : World} {b o : Nat} {x : Ir.Op} (h : ∀ q, q < 6 → ∀ v, (opC x)[q]? = some v → w.cell? ⟨b, o + q, none⟩ = some v) : OpLies w b o x :=
  ⟨h 0 (by omega) _ rfl, h 1 (by omega) _ rfl, h 2 (by omega) _ rfl, h 3 (by omega) _ rfl, h 4 (by omega) _ rfl, h 5 (by omega) _ rfl⟩
theorem OpLies.cell {w : World} {b o : Nat} {x : Ir.Op} (h : OpLies w b o x) {q : Nat} (hq : q < 6) {v : Value} (hv : (opC x)[q]? = some v) : w.cell? ⟨b, o + q, none⟩ = some v := by
  have hq2 : q = 0 ∨ q = 1 ∨ q = 2 ∨ q = 3 ∨ q = 4 ∨ q = 5 := by omega
  rcases hq2 with rfl | rfl | rfl | rfl | rfl | rfl <;> (injection hv with hv; subst hv)
  · exact h.v0
  · exact h.v1
  · exact h.v2
  · exact h.v3
  · exact h.v4
  · exact h.v5
theorem OpsAt.cells {w : World} {b o n cap : Nat} {l : List Ir.Op} (V : OpsAt w (some ⟨b, o, none⟩) n cap l) : ∀ j u, (opsL l)[j]? = some u → w.cell? ((⟨b, o, none⟩ : Addr).add j) = some u := by
  intro j u hu
  have hj := (List.getElem?_eq_some_iff.1 hu).1
  rw [opsL_len, V.len] at hj
  obtain ⟨b2, o2, hb, h⟩ := V.get (i := j / 6) (by omega)
  obtain ⟨rfl, rfl⟩ : b = b2 ∧ o = o2 := by injection hb with h; injection h with h1 h2; exact ⟨h1, h2⟩
  have e := opsL_get l (j / 6) (j % 6) (by rw [V.len]; omega) (by omega)
  rw [show j / 6 * 6 + j % 6 = j by omega, hu] at e
  have := h.cell (q := j % 6) (by omega) e.symm
  rw [Addr.add_lit]
  rw [show o + j / 6 * 6 + j % 6 = o + j by omega] at this
  exact this
/-- ops of the call's own -/
theorem OpsAt.of_owns {w : World} {base n cap : Nat} {A : Option Addr} {l : List Ir.Op} (h : w.ownsRow base 64 6 (.slice A n cap) n (opsL l)) (hl : l.length = n) : OpsAt w A n cap l := by
  obtain ⟨h1, ⟨h2, h3⟩ | ⟨g, cap', cur, h2, h3, h4, h5, h6, h7, h8⟩⟩ := h
  · injection h2 with e1 e2 e3
    subst e1 e2 e3
    exact ⟨hl, Nat.le_refl _, .inl rfl⟩
  · injection h2 with e1 e2 e3
    subst e1 e3
    refine ⟨hl, h5, .inr ⟨g, 0, rfl, (Array.getElem?_eq_some_iff.1 h4).1, fun i hi => OpLies.of_cells fun q hq v hv => ?_⟩⟩
    have e := opsL_get l i q (by omega) hq
    rw [hv, ← h8, List.getElem?_take_of_lt (by omega)] at e
    unfold World.cell?
    rw [h4]
    simp only [Nat.zero_add]
    simpa using e
theorem Tryz.info_op : (Tryz.prog.info? 64).map (fun i => (i.zero, i.size, i.bytes)) = some (some (.agg #[.string ByteArray.empty, .int .i64 0, .int .i64 0, .int .i64 0, .int .u32 0, .int .i64 0]), 6, 56) := by kernel_rfl
/-- a result that is a row of ops of the call's own -/
def OpsOwn (w : World) (base : Nat) (l : List Ir.Op) (v : Value) : Prop := ∃ A cap, v = .slice A l.length cap ∧ w.ownsRow base 64 6 v l.length (opsL l)
theorem OpsOwn.at_ {w : World} {base : Nat} {l : List Ir.Op} {v : Value} (h : OpsOwn w base l v) : ∃ A cap, v = .slice A l.length cap ∧ OpsAt w A l.length cap l := by
  obtain ⟨A, cap, rfl, ho⟩ := h
  exact ⟨A, cap, rfl, OpsAt.of_owns ho rfl⟩
set_option maxHeartbeats 2000000 in
set_option maxRecDepth 100000 in
theorem clone_any (A : Option Addr) (n cap : Nat) (l : List Ir.Op) (w : World) (V : OpsAt w A n cap l) (hn : n < 1000000) :
    Calls Tryz.prog 51 #[.slice A n cap] w fun e w' => ∃ v', e = .returned v' ∧ OpsOwn w' w.heap.size l v' ∧ Keeps (fun _ => False) w w' := by
  obtain ⟨i0, hi, hz0, hz1, hz2⟩ := info_parts Tryz.info_op
  have hl := V.len
  have hnc := V.le
  have HV := Lib.hid V
  by_cases h0 : A = none
  · subst h0
    have hcap : cap = 0 := by
      obtain ⟨_, _, h | ⟨b, o, h, _⟩⟩ := V
      · exact h
      · cases h
    obtain rfl : n = 0 := by omega
    subst hcap
    have hln : l = [] := List.eq_nil_of_length_eq_zero hl
    subst hln
    clear V hl hnc HV
    have hq := fun w => Lib.run_eql_slice_nil (P := Tryz.prog) w 40 64 none 0 0 0 0 Tryz.underlying40
    go_enter Tryz.func51, Tryz.ntmps51
    go_wp2_with fail
    go_ret
    exact ⟨_, rfl, ⟨none, 0, rfl, World.ownsRow_nil _ _ _ _⟩, Keeps.refl _ _⟩
  · obtain ⟨ad, rfl⟩ : ∃ ad, A = some ad := by cases A with | none => exact absurd rfl h0 | some a => exact ⟨a, rfl⟩
    clear h0
    have HN := Lib.hid (show ∀ j u, (opsL l)[j]? = some u → (w.alloc (.cells #[] 64)).cell? (ad.add j) = some u from fun j u hu => by
      obtain ⟨h1, h2, h3 | ⟨b, o, hb, hbl, hc⟩⟩ := V
      · have : l = [] := List.eq_nil_of_length_eq_zero (by omega)
        subst this
        simp [opsL] at hu
      · injection hb with hb
        subst hb
        have V2 : OpsAt w (some ⟨b, o, none⟩) n cap l := ⟨h1, h2, .inr ⟨b, o, rfl, hbl, hc⟩⟩
        have := V2.cells j u hu
        rw [Addr.add_lit] at this ⊢
        exact cell_alloc this _)
    clear V
    have hq := fun w => Lib.run_eql_slice_nil (P := Tryz.prog) w 40 64 (some ad) n cap 0 0 Tryz.underlying40
    have hmx : 0 + n ≤ maxLen := by unfold maxLen; omega
    have hlen : (opsL l).length = n * 6 := by rw [opsL_len, hl]
    have h1 := opsL_one l
    go_enter Tryz.func51, Tryz.ntmps51
    go_wp2_with (at_builtin; go_loud (refine wpList_append_own _ rfl _ _ 40 rfl w.heap.size 64 i0 _ 6 56 Tryz.underlying40 hi hz0 hz1 hz2 rfl (by decide) (.slice (some ⟨w.heap.size, 0, none⟩) 0 0) 0 [] rfl ?c0 ad n cap (opsL l) rfl hlen HN.out h1 hmx (by omega) ?c5 ?c6))
    case c0 => exact ⟨rfl, .inr ⟨w.heap.size, 0, #[], rfl, Nat.le_refl _, blk_alloc_new _ _, Nat.le_refl _, Nat.zero_le _, rfl, rfl⟩⟩
    case c5 => simp
    case c6 =>
      intro v' w1 hown hgrow hnil
      obtain ⟨A', cap', rfl⟩ := owns_slice hown
      have hK : Keeps (fun _ => False) w w1 := ((Keeps.refl _ w).alloc (.cells #[] 64)).grown hgrow (fun k hk => by simp [Value.ownBlock] at hk; omega)
      have HO := Lib.hid (show OpsOwn w1 w.heap.size l (.slice A' n cap') from by
        subst hl
        exact ⟨A', cap', rfl, hown⟩)
      clear hown
      go_wp2
      go_ret
      exact ⟨_, rfl, HO.out, hK⟩
theorem wpList_append_none {ops : Array Oper} {rest : List Oper} {o : Oper} {a : Act} {w : World} {Q : Exit → Act → World → Prop} (hgd : o.guard = none) (s x : Operand) (t : TypeId) (ho : o.op = .call { callee := .builtin .append, args := #[s, x], argTypes := #[t, t] })
    (hs : a.eval s = .slice none 0 0) (hx : a.eval x = .slice none 0 0) (hr : (Builtin.append_ #[t, t] o.type #[.slice none 0 0, .slice none 0 0]).run Tryz.prog w = .ok (.slice none 0 0) w)
    (h : wpList Tryz.prog ops Q rest (a.put o.dst (.slice none 0 0)) w) : wpList Tryz.prog ops Q (o :: rest) a w := by
  refine wpList_plain hgd fun K' hK' => ?_
  unfold Oper.wp execOp
  simp only [ho, resolve, invoke, builtin, Sem.run_bind, Sem.run_pure, Result.andThen_ok, List.map_toArray, List.map_cons, List.map_nil, hs, hx, hr]
  exact hK' _ _ h
set_option maxHeartbeats 2000000 in
set_option maxRecDepth 100000 in
theorem ownOps_any (A : Option Addr) (n cap : Nat) (l : List Ir.Op) (w : World) (V : OpsAt w A n cap l) (hn : n < 1000000) :
    Calls Tryz.prog 34 #[.slice A n cap] w fun e w' => ∃ v', e = .returned v' ∧ OpsOwn w' w.heap.size l v' ∧ Keeps (fun _ => False) w w' := by
  obtain ⟨i0, hi, hz0, hz1, hz2⟩ := info_parts Tryz.info_op
  have hl := V.len
  have hnc := V.le
  by_cases h0 : A = none
  · subst h0
    have hcap : cap = 0 := by
      obtain ⟨_, _, h | ⟨b, o, h, _⟩⟩ := V
      · exact h
      · cases h
    obtain rfl : n = 0 := by omega
    subst hcap
    have hln : l = [] := List.eq_nil_of_length_eq_zero hl
    subst hln
    clear V hl hnc
    go_enter Tryz.func34, Tryz.ntmps34
    go_wp2
    go_ret
    exact ⟨_, rfl, ⟨none, 0, rfl, World.ownsRow_nil _ _ _ _⟩, Keeps.refl _ _⟩
  · obtain ⟨ad, rfl⟩ : ∃ ad, A = some ad := by cases A with | none => exact absurd rfl h0 | some a => exact ⟨a, rfl⟩
    clear h0
    have HN := Lib.hid (show ∀ j u, (opsL l)[j]? = some u → w.cell? (ad.add j) = some u from fun j u hu => by
      obtain ⟨h1, h2, h3 | ⟨b, o, hb, hbl, hc⟩⟩ := V
      · have : l = [] := List.eq_nil_of_length_eq_zero (by omega)
        subst this
        simp [opsL] at hu
      · injection hb with hb
        subst hb
        have V2 : OpsAt w (some ⟨b, o, none⟩) n cap l := ⟨h1, h2, .inr ⟨b, o, rfl, hbl, hc⟩⟩
        exact V2.cells j u hu)
    clear V
    have hmx : 0 + n ≤ maxLen := by unfold maxLen; omega
    have hlen : (opsL l).length = n * 6 := by rw [opsL_len, hl]
    have h1 := opsL_one l
    go_enter Tryz.func34, Tryz.ntmps34
    go_wp2_with (at_builtin; go_loud (refine wpList_append_own _ rfl _ _ 40 rfl w.heap.size 64 i0 _ 6 56 Tryz.underlying40 hi hz0 hz1 hz2 rfl (by decide) (.slice none 0 0) 0 [] rfl (World.ownsRow_nil _ _ _ _) ad n cap (opsL l) rfl hlen HN.out h1 hmx (by omega) (Nat.le_refl _) ?c6))
    case c6 =>
      intro v' w1 hown hgrow hnil
      obtain ⟨A', cap', rfl⟩ := owns_slice hown
      have hK : Keeps (fun _ => False) w w1 := (Keeps.refl _ w).grown hgrow (fun k hk => by simp [Value.ownBlock] at hk)
      have HO := Lib.hid (show OpsOwn w1 w.heap.size l (.slice A' n cap') from by
        subst hl
        exact ⟨A', cap', rfl, hown⟩)
      clear hown
      go_wp2
      go_ret
      exact ⟨_, rfl, HO.out, hK⟩
end Go.Proofs.YtlmnmncdoiealaaGreatDoor
