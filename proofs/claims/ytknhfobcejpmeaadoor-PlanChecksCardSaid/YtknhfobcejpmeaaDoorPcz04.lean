import Derived.Test.YtknhfobcejpmeaaDoorPcz03
import Derived.Test.YtknhfobcejpmeaaDoorPcz02
import Derived.Laws.AppendOwn
import Derived.OwnWalk
import Derived.Lib.Slices
import Derived.Lib.Hide
import Derived.Test.YtknhfobcejpmeaaDoorMach
import Derived.Test.YtknhfobcejpmeaaDoorIrOp
import Derived.Test.YtknhfobcejpmeaaDoorSumsD
import Derived.Test.YtknhfobcejpmeaaDoorStored

/- ResOf1 -/
/- The walk of the reference's ResultOf. Printed by gen/resof.py. -/
namespace Go.Proofs.YtknhfobcejpmeaaDoor
open Go.RowKit Go.Deep
set_option linter.unusedVariables false
set_option linter.unusedSimpArgs false

end Go.Proofs.YtknhfobcejpmeaaDoor

/- ResOf2 -/
/- The walk of the reference's ResultOf. Printed by gen/resof.py. -/
namespace Go.Proofs.YtknhfobcejpmeaaDoor
open Go.RowKit Go.Deep
set_option linter.unusedVariables false
set_option linter.unusedSimpArgs false

end Go.Proofs.YtknhfobcejpmeaaDoor

/- ResOf -/
/- The walk of the reference's ResultOf. Printed by gen/resof.py. -/
namespace Go.Proofs.YtknhfobcejpmeaaDoor
open Go.RowKit Go.Deep
set_option linter.unusedVariables false
set_option linter.unusedSimpArgs false

end Go.Proofs.YtknhfobcejpmeaaDoor

/- OpsOwn -/
/- Rows of ops of the call's own; the walks of slices.Clone, OwnOps. -/
namespace Go.Proofs.YtknhfobcejpmeaaDoor
open Go.RowKit Go.Deep
set_option linter.unusedVariables false
set_option linter.unusedSimpArgs false

def opsL (l : List Ir.Op) : List Value := l.flatMap (fun o => (opC o).toList)
theorem opsL_len (l : List Ir.Op) : (opsL l).length = l.length * 6 := by
  induction l with
  | nil => rfl
  | cons o r ih =>
    have : opsL (o :: r) = (opC o).toList ++ opsL r := rfl
    rw [this, List.length_append, ih, List.length_cons]
    show 6 + _ = _
    omega
theorem opsL_get (l : List Ir.Op) : ∀ i q, i < l.length → q < 6 → (opsL l)[i * 6 + q]? = (opC (l.getD i Ir.nop))[q]? := by
  induction l with
  | nil => intro i q h; simp at h
  | cons o r ih =>
    intro i q h hq
    have e : opsL (o :: r) = (opC o).toList ++ opsL r := rfl
    rw [e]
    cases i with
    | zero =>
      rw [List.getElem?_append_left (by show _ < 6; omega)]
      simp
    | succ i =>
      rw [List.getElem?_append_right (by show 6 ≤ _; omega)]
      show (opsL r)[(i + 1) * 6 + q - 6]? = _
      rw [show (i + 1) * 6 + q - 6 = i * 6 + q by omega, ih i q (by simpa using h) hq]
      rfl
theorem opsL_one (l : List Ir.Op) : ∀ v ∈ opsL l, v.oneCell' = true := by
  intro v hv
  unfold opsL at hv
  obtain ⟨o, _, h⟩ := List.mem_flatMap.1 hv
  simp only [opC, List.mem_cons, List.not_mem_nil, or_false] at h
  rcases h with rfl | rfl | rfl | rfl | rfl | rfl <;> rfl
theorem OpLies.of_cells {w : World} {b o : Nat} {x : Ir.Op} (h : ∀ q, q < 6 → ∀ v, (opC x)[q]? = some v → w.cell? ⟨b, o + q, none⟩ = some v) : OpLies w b o x :=
  ⟨h 0 (by omega) _ rfl, h 1 (by omega) _ rfl, h 2 (by omega) _ rfl, h 3 (by omega) _ rfl, h 4 (by omega) _ rfl, h 5 (by omega) _ rfl⟩
theorem OpLies.cell {w : World} {b o : Nat} {x : Ir.Op} (h : OpLies w b o x) {q : Nat} (hq : q < 6) {v : Value} (hv : (opC x)[q]? = some v) : w.cell? ⟨b, o + q, none⟩ = some v := by
  have hq2 : q = 0 ∨ q = 1 ∨ q = 2 ∨ q = 3 ∨ q = 4 ∨ q = 5 := by omega
  rcases hq2 with rfl | rfl | rfl | rfl | rfl | rfl <;> (injection hv with hv; subst hv)
  · exact h.v0
  · exact h.v1
  · exact h.v2
  · exact h.v3
  · exact h.v4
  · exact h.v5
theorem OpsAt.cells {w : World} {b o n cap : Nat} {l : List Ir.Op} (V : OpsAt w (some ⟨b, o, none⟩) n cap l) : ∀ j u, (opsL l)[j]? = some u → w.cell? ((⟨b, o, none⟩ : Addr).add j) = some u := by
  intro j u hu
  have hj := (List.getElem?_eq_some_iff.1 hu).1
  rw [opsL_len, V.len] at hj
  obtain ⟨b2, o2, hb, h⟩ := V.get (i := j / 6) (by omega)
  obtain ⟨rfl, rfl⟩ : b = b2 ∧ o = o2 := by injection hb with h; injection h with h1 h2; exact ⟨h1, h2⟩
  have e := opsL_get l (j / 6) (j % 6) (by rw [V.len]; omega) (by omega)
  rw [show j / 6 * 6 + j % 6 = j by omega, hu] at e
  have := h.cell (q := j % 6) (by omega) e.symm
  rw [Addr.add_lit]
  rw [show o + j / 6 * 6 + j % 6 = o + j by omega] at this
  exact this
/-- ops of the call's own -/
theorem OpsAt.of_owns {w : World} {base n cap : Nat} {A : Option Addr} {l : List Ir.Op} (h : w.ownsRow base 47 6 (.slice A n cap) n (opsL l)) (hl : l.length = n) : OpsAt w A n cap l := by
  obtain ⟨h1, ⟨h2, h3⟩ | ⟨g, cap', cur, h2, h3, h4, h5, h6, h7, h8⟩⟩ := h
  · injection h2 with e1 e2 e3
    subst e1 e2 e3
    exact ⟨hl, Nat.le_refl _, .inl rfl⟩
  · injection h2 with e1 e2 e3
    subst e1 e3
    refine ⟨hl, h5, .inr ⟨g, 0, rfl, (Array.getElem?_eq_some_iff.1 h4).1, fun i hi => OpLies.of_cells fun q hq v hv => ?_⟩⟩
    have e := opsL_get l i q (by omega) hq
    rw [hv, ← h8, List.getElem?_take_of_lt (by omega)] at e
    unfold World.cell?
    rw [h4]
    simp only [Nat.zero_add]
    simpa using e
theorem Tryd.info_op : (Tryd.prog.info? 47).map (fun i => (i.zero, i.size, i.bytes)) = some (some (.agg #[.string ByteArray.empty, .int .i64 0, .int .i64 0, .int .i64 0, .int .u32 0, .int .i64 0]), 6, 56) := by kernel_rfl
/-- a result that is a row of ops of the call's own -/
def OpsOwn (w : World) (base : Nat) (l : List Ir.Op) (v : Value) : Prop := ∃ A cap, v = .slice A l.length cap ∧ w.ownsRow base 47 6 v l.length (opsL l)
theorem OpsOwn.at_ {w : World} {base : Nat} {l : List Ir.Op} {v : Value} (h : OpsOwn w base l v) : ∃ A cap, v = .slice A l.length cap ∧ OpsAt w A l.length cap l := by
  obtain ⟨A, cap, rfl, ho⟩ := h
  exact ⟨A, cap, rfl, OpsAt.of_owns ho rfl⟩
set_option maxHeartbeats 2000000 in
set_option maxRecDepth 100000 in
theorem clone_any (A : Option Addr) (n cap : Nat) (l : List Ir.Op) (w : World) (V : OpsAt w A n cap l) (hn : n < 1000000) :
    Calls Tryd.prog 85 #[.slice A n cap] w fun e w' => ∃ v', e = .returned v' ∧ OpsOwn w' w.heap.size l v' ∧ Keeps (fun _ => False) w w' := by
  obtain ⟨i0, hi, hz0, hz1, hz2⟩ := info_parts Tryd.info_op
  have hl := V.len
  have hnc := V.le
  have HV := Lib.hid V
  by_cases h0 : A = none
  · subst h0
    have hcap : cap = 0 := by
      obtain ⟨_, _, h | ⟨b, o, h, _⟩⟩ := V
      · exact h
      · cases h
    obtain rfl : n = 0 := by omega
    subst hcap
    have hln : l = [] := List.eq_nil_of_length_eq_zero hl
    subst hln
    clear V hl hnc HV
    have hq := fun w => Lib.run_eql_slice_nil (P := Tryd.prog) w 26 47 none 0 0 0 0 Tryd.underlying26
    go_enter Tryd.func85, Tryd.ntmps85
    go_wp2_with fail
    go_ret
    exact ⟨_, rfl, ⟨none, 0, rfl, World.ownsRow_nil _ _ _ _⟩, Keeps.refl _ _⟩
  · obtain ⟨ad, rfl⟩ : ∃ ad, A = some ad := by cases A with | none => exact absurd rfl h0 | some a => exact ⟨a, rfl⟩
    clear h0
    have HN := Lib.hid (show ∀ j u, (opsL l)[j]? = some u → (w.alloc (.cells #[] 47)).cell? (ad.add j) = some u from fun j u hu => by
      obtain ⟨h1, h2, h3 | ⟨b, o, hb, hbl, hc⟩⟩ := V
      · have : l = [] := List.eq_nil_of_length_eq_zero (by omega)
        subst this
        simp [opsL] at hu
      · injection hb with hb
        subst hb
        have V2 : OpsAt w (some ⟨b, o, none⟩) n cap l := ⟨h1, h2, .inr ⟨b, o, rfl, hbl, hc⟩⟩
        have := V2.cells j u hu
        rw [Addr.add_lit] at this ⊢
        exact cell_alloc this _)
    clear V
    have hq := fun w => Lib.run_eql_slice_nil (P := Tryd.prog) w 26 47 (some ad) n cap 0 0 Tryd.underlying26
    have hmx : 0 + n ≤ maxLen := by unfold maxLen; omega
    have hlen : (opsL l).length = n * 6 := by rw [opsL_len, hl]
    have h1 := opsL_one l
    go_enter Tryd.func85, Tryd.ntmps85
    go_wp2_with (at_builtin; go_loud (refine wpList_append_own _ rfl _ _ 26 rfl w.heap.size 47 i0 _ 6 56 Tryd.underlying26 hi hz0 hz1 hz2 rfl (by decide) (.slice (some ⟨w.heap.size, 0, none⟩) 0 0) 0 [] rfl ?c0 ad n cap (opsL l) rfl hlen HN.out h1 hmx (by omega) ?c5 ?c6))
    case c0 => exact ⟨rfl, .inr ⟨w.heap.size, 0, #[], rfl, Nat.le_refl _, blk_alloc_new _ _, Nat.le_refl _, Nat.zero_le _, rfl, rfl⟩⟩
    case c5 => simp
    case c6 =>
      intro v' w1 hown hgrow hnil
      obtain ⟨A', cap', rfl⟩ := owns_slice hown
      have hK : Keeps (fun _ => False) w w1 := ((Keeps.refl _ w).alloc (.cells #[] 47)).grown hgrow (fun k hk => by simp [Value.ownBlock] at hk; omega)
      have HO := Lib.hid (show OpsOwn w1 w.heap.size l (.slice A' n cap') from by
        subst hl
        exact ⟨A', cap', rfl, hown⟩)
      clear hown
      go_wp2
      go_ret
      exact ⟨_, rfl, HO.out, hK⟩
theorem wpList_append_none {ops : Array Oper} {rest : List Oper} {o : Oper} {a : Act} {w : World} {Q : Exit → Act → World → Prop} (hgd : o.guard = none) (s x : Operand) (t : TypeId) (ho : o.op = .call { callee := .builtin .append, args := #[s, x], argTypes := #[t, t] })
    (hs : a.eval s = .slice none 0 0) (hx : a.eval x = .slice none 0 0) (hr : (Builtin.append_ #[t, t] o.type #[.slice none 0 0, .slice none 0 0]).run Tryd.prog w = .ok (.slice none 0 0) w)
    (h : wpList Tryd.prog ops Q rest (a.put o.dst (.slice none 0 0)) w) : wpList Tryd.prog ops Q (o :: rest) a w := by
  refine wpList_plain hgd fun K' hK' => ?_
  unfold Oper.wp execOp
  simp only [ho, resolve, invoke, builtin, Sem.run_bind, Sem.run_pure, Result.andThen_ok, List.map_toArray, List.map_cons, List.map_nil, hs, hx, hr]
  exact hK' _ _ h
set_option maxHeartbeats 2000000 in
set_option maxRecDepth 100000 in
theorem ownOps_any (A : Option Addr) (n cap : Nat) (l : List Ir.Op) (w : World) (V : OpsAt w A n cap l) (hn : n < 1000000) :
    Calls Tryd.prog 37 #[.slice A n cap] w fun e w' => ∃ v', e = .returned v' ∧ OpsOwn w' w.heap.size l v' ∧ Keeps (fun _ => False) w w' := by
  obtain ⟨i0, hi, hz0, hz1, hz2⟩ := info_parts Tryd.info_op
  have hl := V.len
  have hnc := V.le
  by_cases h0 : A = none
  · subst h0
    have hcap : cap = 0 := by
      obtain ⟨_, _, h | ⟨b, o, h, _⟩⟩ := V
      · exact h
      · cases h
    obtain rfl : n = 0 := by omega
    subst hcap
    have hln : l = [] := List.eq_nil_of_length_eq_zero hl
    subst hln
    clear V hl hnc
    go_enter Tryd.func37, Tryd.ntmps37
    go_wp2
    go_ret
    exact ⟨_, rfl, ⟨none, 0, rfl, World.ownsRow_nil _ _ _ _⟩, Keeps.refl _ _⟩
  · obtain ⟨ad, rfl⟩ : ∃ ad, A = some ad := by cases A with | none => exact absurd rfl h0 | some a => exact ⟨a, rfl⟩
    clear h0
    have HN := Lib.hid (show ∀ j u, (opsL l)[j]? = some u → w.cell? (ad.add j) = some u from fun j u hu => by
      obtain ⟨h1, h2, h3 | ⟨b, o, hb, hbl, hc⟩⟩ := V
      · have : l = [] := List.eq_nil_of_length_eq_zero (by omega)
        subst this
        simp [opsL] at hu
      · injection hb with hb
        subst hb
        have V2 : OpsAt w (some ⟨b, o, none⟩) n cap l := ⟨h1, h2, .inr ⟨b, o, rfl, hbl, hc⟩⟩
        exact V2.cells j u hu)
    clear V
    have hmx : 0 + n ≤ maxLen := by unfold maxLen; omega
    have hlen : (opsL l).length = n * 6 := by rw [opsL_len, hl]
    have h1 := opsL_one l
    go_enter Tryd.func37, Tryd.ntmps37
    go_wp2_with (at_builtin; go_loud (refine wpList_append_own _ rfl _ _ 26 rfl w.heap.size 47 i0 _ 6 56 Tryd.underlying26 hi hz0 hz1 hz2 rfl (by decide) (.slice none 0 0) 0 [] rfl (World.ownsRow_nil _ _ _ _) ad n cap (opsL l) rfl hlen HN.out h1 hmx (by omega) (Nat.le_refl _) ?c6))
    case c6 =>
      intro v' w1 hown hgrow hnil
      obtain ⟨A', cap', rfl⟩ := owns_slice hown
      have hK : Keeps (fun _ => False) w w1 := (Keeps.refl _ w).grown hgrow (fun k hk => by simp [Value.ownBlock] at hk)
      have HO := Lib.hid (show OpsOwn w1 w.heap.size l (.slice A' n cap') from by
        subst hl
        exact ⟨A', cap', rfl, hown⟩)
      clear hown
      go_wp2
      go_ret
      exact ⟨_, rfl, HO.out, hK⟩
end Go.Proofs.YtknhfobcejpmeaaDoor

/- Mach2 -/
/- The walks of Ready, Over, Where, Watched, May. -/
namespace Go.Proofs.YtknhfobcejpmeaaDoor
open Go.RowKit Go.Deep
set_option linter.unusedVariables false
set_option linter.unusedSimpArgs false

/-- is a state one that a code at pc begins with? -/
def Ir.ready (s : Cp.St) (pc : Int) : Bool := !s.slot && (s.pc == pc) && (s.next == (pc + 4) % 4294967296)
theorem is_overm (k : ByteArray) : (k.toList == [111, 118, 101, 114, 45]) = (Ir.kn k == 4) := Ir.eq_lit2 k 4 (by omega)
/-- what is watched, as it lies -/
def WatchAt (w : World) (pw : Nat) (W : Int → Bool) : Prop := ∃ es c, w.heap[pw]? = some (.map es c) ∧ ∀ w' : World, w'.heap[pw]? = some (.map es c) → ∀ p : Int, 0 ≤ p → p < 64 →
  (Instr.lookup 108 (.map (some pw)) (.int .i64 p) false).run Tryd.prog w' = .ok (.bool (W p)) w'
theorem WatchAt.keep {S : Nat → Prop} {w w' : World} {pw : Nat} {W : Int → Bool} (h : WatchAt w pw W) (k : Keeps S w w') (hs : ¬ S pw) : WatchAt w' pw W := by
  obtain ⟨es, c, h1, h2⟩ := h
  exact ⟨es, c, k.map h1 hs, h2⟩
theorem WatchAt.look {w : World} {pw : Nat} {W : Int → Bool} (h : WatchAt w pw W) (p : Int) (h0 : 0 ≤ p) (h1 : p < 64) : (Instr.lookup 108 (.map (some pw)) (.int .i64 p) false).run Tryd.prog w = .ok (.bool (W p)) w := by
  obtain ⟨es, c, h2, h3⟩ := h
  exact h3 w h2 p h0 h1
theorem WatchAt.lt {w : World} {pw : Nat} {W : Int → Bool} (h : WatchAt w pw W) : pw < w.heap.size := by
  obtain ⟨es, c, h2, h3⟩ := h
  exact (Array.getElem?_eq_some_iff.1 h2).1
set_option maxRecDepth 100000 in
theorem watched_any (r pb pw ph cp : Nat) (m : Nat → Int) (W : Int → Bool) (a : Int) (w : World) (R : RamAt w r pb pw ph cp m) (hW : WatchAt w pw W) (ha : 0 ≤ a ∧ a < 16384) :
    Calls Tryd.prog 32 #[.pointer (some ⟨r, 0, none⟩), .int .u32 a] w fun e w' => e = .returned (.bool (W (a / 256))) ∧ w = w' := by
  have hb : w.cell? ⟨r, 1, none⟩ = some (.map (some pw)) := by simp [World.cell?, R.box]
  have hl := hW.look (a / 256) (by omega) (by omega)
  clear R hW
  generalize W (a / 256) = q at *
  go_enter Tryd.func32, Tryd.ntmps32
  go_wp2_with fail
  go_ret
  exact ⟨rfl, rfl⟩
end Go.Proofs.YtknhfobcejpmeaaDoor

/- Mach3 -/
/- The walks of Where, May, Wait. -/
namespace Go.Proofs.YtknhfobcejpmeaaDoor
open Go.RowKit Go.Deep
set_option linter.unusedVariables false
set_option linter.unusedSimpArgs false

/-- what Where answers -/
def Ir.whV (o : Ir.Op) (a : Int) : Int × Bool := if kn o.k = 7 then (o.imm, a != 0) else if kn o.k = 9 then (a, true) else (o.imm, kn o.k == 8)
theorem Ir.goes_wh (o : Ir.Op) (a : Int) (h : Ir.leaves (Ir.kn o.k) = true) : Ir.goesTo o a = if (Ir.whV o a).2 = true then some (Ir.whV o a).1 else none := by
  unfold Ir.leaves at h
  have h := of_decide_eq_true h
  unfold Ir.goesTo Ir.whV
  generalize Ir.kn o.k = q at *
  have hq : q = 7 ∨ q = 8 ∨ q = 9 := by omega
  rcases hq with rfl | rfl | rfl
  · simp
  · simp
  · simp
theorem owns_ne {w : World} {base e size n b m : Nat} {v : Value} {xs : List Value} {t : TypeId} {f : Nat → Value} (h : w.ownsRow base e size v n xs) (r : w.rowIs b t m f) (hne : e ≠ t) : ∀ g, v.ownBlock = some g → g ≠ b := by
  rintro g hg rfl
  obtain ⟨c, hb, _⟩ := r
  obtain ⟨_, ⟨h2, h3⟩ | ⟨g2, cap', cur, h2, h3, h4, h5, h6, h7, h8⟩⟩ := h
  · rw [h2] at hg; cases hg
  · rw [h2] at hg
    injection hg with hg
    subst hg
    rw [hb] at h4
    injection h4 with h4
    injection h4 with e1 e2 e3
    exact hne e2.symm
theorem wtL_len (l : List Ir.Wt) : (wtL l).length = l.length * 3 := by
  induction l with
  | nil => rfl
  | cons a r ih =>
    have : wtL (a :: r) = [.int .u32 a.addr, .int .i64 a.size, .int .u32 a.v] ++ wtL r := rfl
    rw [this, List.length_append, ih]
    simp
    omega
theorem wtL_snoc (l : List Ir.Wt) (s : Ir.Wt) : wtL (l ++ [s]) = wtL l ++ [.int .u32 s.addr, .int .i64 s.size, .int .u32 s.v] := by
  unfold wtL
  rw [List.flatMap_append]
  rfl
end Go.Proofs.YtknhfobcejpmeaaDoor
