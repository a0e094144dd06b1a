import Derived.Test.YtknhfobcejpmeaaGreatDoorHrz01
import Derived.Laws.AppendOwn
import Derived.OwnWalk
import Derived.Lib.Slices
import Derived.Lib.Hide
import Derived.Test.YtknhfobcejpmeaaGreatDoorMach
import Derived.Test.YtknhfobcejpmeaaGreatDoorIrOp
import Derived.Test.YtknhfobcejpmeaaGreatDoorSumsD
import Derived.Test.YtknhfobcejpmeaaGreatDoorStored
import Derived.Test.YtknhfobcejpmeaaGreatDoorMachDefs
import Derived.Laws.BitsAllLaws
import Derived.Test.YtknhfobcejpmeaaGreatDoorWide

/- OpsOwn -/
/- Rows of ops of the call's own; the walks of slices.Clone, OwnOps. -/
namespace Go.Proofs.YtknhfobcejpmeaaGreatDoor
open Go.RowKit Go.Deep
set_option linter.unusedVariables false
set_option linter.unusedSimpArgs false

def opsL (l : List Ir.Op) : List Value := l.flatMap (fun o => (opC o).toList)
theorem opsL_len (l : List Ir.Op) : (opsL l).length = l.length * 6 := by
  induction l with
  | nil => rfl
  | cons o r ih =>
    have : opsL (o :: r) = (opC o).toList ++ opsL r := rfl
    rw [this, List.length_append, ih, List.length_cons]
    show 6 + _ = _
    omega
theorem opsL_get (l : List Ir.Op) : ∀ i q, i < l.length → q < 6 → (opsL l)[i * 6 + q]? = (opC (l.getD i Ir.nop))[q]? := by
  induction l with
  | nil => intro i q h; simp at h
  | cons o r ih =>
    intro i q h hq
    have e : opsL (o :: r) = (opC o).toList ++ opsL r := rfl
    rw [e]
    cases i with
    | zero =>
      rw [List.getElem?_append_left (by show _ < 6; omega)]
      simp
    | succ i =>
      rw [List.getElem?_append_right (by show 6 ≤ _; omega)]
      show (opsL r)[(i + 1) * 6 + q - 6]? = _
      rw [show (i + 1) * 6 + q - 6 = i * 6 + q by omega, ih i q (by simpa using h) hq]
      rfl
theorem opsL_one (l : List Ir.Op) : ∀ v ∈ opsL l, v.oneCell' = true := by
  intro v hv
  unfold opsL at hv
  obtain ⟨o, _, h⟩ := List.mem_flatMap.1 hv
  simp only [opC, List.mem_cons, List.not_mem_nil, or_false] at h
  rcases h with rfl | rfl | rfl | rfl | rfl | rfl <;> rfl
theorem OpLies.of_cells {w : World} {b o : Nat} {x : Ir.Op} (h : ∀ q, q < 6 → ∀ v, (opC x)[q]? = some v → w.cell? ⟨b, o + q, none⟩ = some v) : OpLies w b o x :=
  ⟨h 0 (by omega) _ rfl, h 1 (by omega) _ rfl, h 2 (by omega) _ rfl, h 3 (by omega) _ rfl, h 4 (by omega) _ rfl, h 5 (by omega) _ rfl⟩
theorem OpLies.cell {w : World} {b o : Nat} {x : Ir.Op} (h : OpLies w b o x) {q : Nat} (hq : q < 6) {v : Value} (hv : (opC x)[q]? = some v) : w.cell? ⟨b, o + q, none⟩ = some v := by
  have hq2 : q = 0 ∨ q = 1 ∨ q = 2 ∨ q = 3 ∨ q = 4 ∨ q = 5 := by omega
  rcases hq2 with rfl | rfl | rfl | rfl | rfl | rfl <;> (injection hv with hv; subst hv)
  · exact h.v0
  · exact h.v1
  · exact h.v2
  · exact h.v3
  · exact h.v4
  · exact h.v5
theorem OpsAt.cells {w : World} {b o n cap : Nat} {l : List Ir.Op} (V : OpsAt w (some ⟨b, o, none⟩) n cap l) : ∀ j u, (opsL l)[j]? = some u → w.cell? ((⟨b, o, none⟩ : Addr).add j) = some u := by
  intro j u hu
  have hj := (List.getElem?_eq_some_iff.1 hu).1
  rw [opsL_len, V.len] at hj
  obtain ⟨b2, o2, hb, h⟩ := V.get (i := j / 6) (by omega)
  obtain ⟨rfl, rfl⟩ : b = b2 ∧ o = o2 := by injection hb with h; injection h with h1 h2; exact ⟨h1, h2⟩
  have e := opsL_get l (j / 6) (j % 6) (by rw [V.len]; omega) (by omega)
  rw [show j / 6 * 6 + j % 6 = j by omega, hu] at e
  have := h.cell (q := j % 6) (by omega) e.symm
  rw [Addr.add_lit]
  rw [show o + j / 6 * 6 + j % 6 = o + j by omega] at this
  exact this
/-- ops of the call's own -/
theorem OpsAt.of_owns {w : World} {base n cap : Nat} {A : Option Addr} {l : List Ir.Op} (h : w.ownsRow base 100 6 (.slice A n cap) n (opsL l)) (hl : l.length = n) : OpsAt w A n cap l := by
  obtain ⟨h1, ⟨h2, h3⟩ | ⟨g, cap', cur, h2, h3, h4, h5, h6, h7, h8⟩⟩ := h
  · injection h2 with e1 e2 e3
    subst e1 e2 e3
    exact ⟨hl, Nat.le_refl _, .inl rfl⟩
  · injection h2 with e1 e2 e3
    subst e1 e3
    refine ⟨hl, h5, .inr ⟨g, 0, rfl, (Array.getElem?_eq_some_iff.1 h4).1, fun i hi => OpLies.of_cells fun q hq v hv => ?_⟩⟩
    have e := opsL_get l i q (by omega) hq
    rw [hv, ← h8, List.getElem?_take_of_lt (by omega)] at e
    unfold World.cell?
    rw [h4]
    simp only [Nat.zero_add]
    simpa using e
theorem Tryz.info_op : (Tryz.prog.info? 100).map (fun i => (i.zero, i.size, i.bytes)) = some (some (.agg #[.string ByteArray.empty, .int .i64 0, .int .i64 0, .int .i64 0, .int .u32 0, .int .i64 0]), 6, 56) := by kernel_rfl
/-- a result that is a row of ops of the call's own -/
def OpsOwn (w : World) (base : Nat) (l : List Ir.Op) (v : Value) : Prop := ∃ A cap, v = .slice A l.length cap ∧ w.ownsRow base 100 6 v l.length (opsL l)
theorem OpsOwn.at_ {w : World} {base : Nat} {l : List Ir.Op} {v : Value} (h : OpsOwn w base l v) : ∃ A cap, v = .slice A l.length cap ∧ OpsAt w A l.length cap l := by
  obtain ⟨A, cap, rfl, ho⟩ := h
  exact ⟨A, cap, rfl, OpsAt.of_owns ho rfl⟩
set_option maxHeartbeats 2000000 in
set_option maxRecDepth 100000 in
theorem clone_any (A : Option Addr) (n cap : Nat) (l : List Ir.Op) (w : World) (V : OpsAt w A n cap l) (hn : n < 1000000) :
    Calls Tryz.prog 113 #[.slice A n cap] w fun e w' => ∃ v', e = .returned v' ∧ OpsOwn w' w.heap.size l v' ∧ Keeps (fun _ => False) w w' := by
  obtain ⟨i0, hi, hz0, hz1, hz2⟩ := info_parts Tryz.info_op
  have hl := V.len
  have hnc := V.le
  have HV := Lib.hid V
  by_cases h0 : A = none
  · subst h0
    have hcap : cap = 0 := by
      obtain ⟨_, _, h | ⟨b, o, h, _⟩⟩ := V
      · exact h
      · cases h
    obtain rfl : n = 0 := by omega
    subst hcap
    have hln : l = [] := List.eq_nil_of_length_eq_zero hl
    subst hln
    clear V hl hnc HV
    have hq := fun w => Lib.run_eql_slice_nil (P := Tryz.prog) w 23 100 none 0 0 0 0 Tryz.underlying23
    go_enter Tryz.func113, Tryz.ntmps113
    go_wp2_with fail
    go_ret
    exact ⟨_, rfl, ⟨none, 0, rfl, World.ownsRow_nil _ _ _ _⟩, Keeps.refl _ _⟩
  · obtain ⟨ad, rfl⟩ : ∃ ad, A = some ad := by cases A with | none => exact absurd rfl h0 | some a => exact ⟨a, rfl⟩
    clear h0
    have HN := Lib.hid (show ∀ j u, (opsL l)[j]? = some u → (w.alloc (.cells #[] 100)).cell? (ad.add j) = some u from fun j u hu => by
      obtain ⟨h1, h2, h3 | ⟨b, o, hb, hbl, hc⟩⟩ := V
      · have : l = [] := List.eq_nil_of_length_eq_zero (by omega)
        subst this
        simp [opsL] at hu
      · injection hb with hb
        subst hb
        have V2 : OpsAt w (some ⟨b, o, none⟩) n cap l := ⟨h1, h2, .inr ⟨b, o, rfl, hbl, hc⟩⟩
        have := V2.cells j u hu
        rw [Addr.add_lit] at this ⊢
        exact cell_alloc this _)
    clear V
    have hq := fun w => Lib.run_eql_slice_nil (P := Tryz.prog) w 23 100 (some ad) n cap 0 0 Tryz.underlying23
    have hmx : 0 + n ≤ maxLen := by unfold maxLen; omega
    have hlen : (opsL l).length = n * 6 := by rw [opsL_len, hl]
    have h1 := opsL_one l
    go_enter Tryz.func113, Tryz.ntmps113
    go_wp2_with (at_builtin; go_loud (refine wpList_append_own _ rfl _ _ 23 rfl w.heap.size 100 i0 _ 6 56 Tryz.underlying23 hi hz0 hz1 hz2 rfl (by decide) (.slice (some ⟨w.heap.size, 0, none⟩) 0 0) 0 [] rfl ?c0 ad n cap (opsL l) rfl hlen HN.out h1 hmx (by omega) ?c5 ?c6))
    case c0 => exact ⟨rfl, .inr ⟨w.heap.size, 0, #[], rfl, Nat.le_refl _, blk_alloc_new _ _, Nat.le_refl _, Nat.zero_le _, rfl, rfl⟩⟩
    case c5 => simp
    case c6 =>
      intro v' w1 hown hgrow hnil
      obtain ⟨A', cap', rfl⟩ := owns_slice hown
      have hK : Keeps (fun _ => False) w w1 := ((Keeps.refl _ w).alloc (.cells #[] 100)).grown hgrow (fun k hk => by simp [Value.ownBlock] at hk; omega)
      have HO := Lib.hid (show OpsOwn w1 w.heap.size l (.slice A' n cap') from by
        subst hl
        exact ⟨A', cap', rfl, hown⟩)
      clear hown
      go_wp2
      go_ret
      exact ⟨_, rfl, HO.out, hK⟩
theorem wpList_append_none {ops : Array Oper} {rest : List Oper} {o : Oper} {a : Act} {w : World} {Q : Exit → Act → World → Prop} (hgd : o.guard = none) (s x : Operand) (t : TypeId) (ho : o.op = .call { callee := .builtin .append, args := #[s, x], argTypes := #[t, t] })
    (hs : a.eval s = .slice none 0 0) (hx : a.eval x = .slice none 0 0) (hr : (Builtin.append_ #[t, t] o.type #[.slice none 0 0, .slice none 0 0]).run Tryz.prog w = .ok (.slice none 0 0) w)
    (h : wpList Tryz.prog ops Q rest (a.put o.dst (.slice none 0 0)) w) : wpList Tryz.prog ops Q (o :: rest) a w := by
  refine wpList_plain hgd fun K' hK' => ?_
  unfold Oper.wp execOp
  simp only [ho, resolve, invoke, builtin, Sem.run_bind, Sem.run_pure, Result.andThen_ok, List.map_toArray, List.map_cons, List.map_nil, hs, hx, hr]
  exact hK' _ _ h
set_option maxHeartbeats 2000000 in
set_option maxRecDepth 100000 in
theorem ownOps_any (A : Option Addr) (n cap : Nat) (l : List Ir.Op) (w : World) (V : OpsAt w A n cap l) (hn : n < 1000000) :
    Calls Tryz.prog 10 #[.slice A n cap] w fun e w' => ∃ v', e = .returned v' ∧ OpsOwn w' w.heap.size l v' ∧ Keeps (fun _ => False) w w' := by
  obtain ⟨i0, hi, hz0, hz1, hz2⟩ := info_parts Tryz.info_op
  have hl := V.len
  have hnc := V.le
  by_cases h0 : A = none
  · subst h0
    have hcap : cap = 0 := by
      obtain ⟨_, _, h | ⟨b, o, h, _⟩⟩ := V
      · exact h
      · cases h
    obtain rfl : n = 0 := by omega
    subst hcap
    have hln : l = [] := List.eq_nil_of_length_eq_zero hl
    subst hln
    clear V hl hnc
    go_enter Tryz.func10, Tryz.ntmps10
    go_wp2
    go_ret
    exact ⟨_, rfl, ⟨none, 0, rfl, World.ownsRow_nil _ _ _ _⟩, Keeps.refl _ _⟩
  · obtain ⟨ad, rfl⟩ : ∃ ad, A = some ad := by cases A with | none => exact absurd rfl h0 | some a => exact ⟨a, rfl⟩
    clear h0
    have HN := Lib.hid (show ∀ j u, (opsL l)[j]? = some u → w.cell? (ad.add j) = some u from fun j u hu => by
      obtain ⟨h1, h2, h3 | ⟨b, o, hb, hbl, hc⟩⟩ := V
      · have : l = [] := List.eq_nil_of_length_eq_zero (by omega)
        subst this
        simp [opsL] at hu
      · injection hb with hb
        subst hb
        have V2 : OpsAt w (some ⟨b, o, none⟩) n cap l := ⟨h1, h2, .inr ⟨b, o, rfl, hbl, hc⟩⟩
        exact V2.cells j u hu)
    clear V
    have hmx : 0 + n ≤ maxLen := by unfold maxLen; omega
    have hlen : (opsL l).length = n * 6 := by rw [opsL_len, hl]
    have h1 := opsL_one l
    go_enter Tryz.func10, Tryz.ntmps10
    go_wp2_with (at_builtin; go_loud (refine wpList_append_own _ rfl _ _ 23 rfl w.heap.size 100 i0 _ 6 56 Tryz.underlying23 hi hz0 hz1 hz2 rfl (by decide) (.slice none 0 0) 0 [] rfl (World.ownsRow_nil _ _ _ _) ad n cap (opsL l) rfl hlen HN.out h1 hmx (by omega) (Nat.le_refl _) ?c6))
    case c6 =>
      intro v' w1 hown hgrow hnil
      obtain ⟨A', cap', rfl⟩ := owns_slice hown
      have hK : Keeps (fun _ => False) w w1 := (Keeps.refl _ w).grown hgrow (fun k hk => by simp [Value.ownBlock] at hk)
      have HO := Lib.hid (show OpsOwn w1 w.heap.size l (.slice A' n cap') from by
        subst hl
        exact ⟨A', cap', rfl, hown⟩)
      clear hown
      go_wp2
      go_ret
      exact ⟨_, rfl, HO.out, hK⟩
end Go.Proofs.YtknhfobcejpmeaaGreatDoor

/- Mach2 -/
/- The walks of Ready, Over, Where, Watched, May. -/
namespace Go.Proofs.YtknhfobcejpmeaaGreatDoor
open Go.RowKit Go.Deep
set_option linter.unusedVariables false
set_option linter.unusedSimpArgs false

/-- is a state one that a code at pc begins with? -/
def Ir.ready (s : Cp.St) (pc : Int) : Bool := !s.slot && (s.pc == pc) && (s.next == (pc + 4) % 4294967296)
set_option maxRecDepth 100000 in
theorem ready_any (sb : Nat) (s : Cp.St) (pc : Int) (w : World) (hS : StAt w sb s) (hpc : 0 ≤ pc ∧ pc < 4294967296) :
    Calls Tryz.prog 57 #[.pointer (some ⟨sb, 0, none⟩), .int .u32 pc] w fun e w' => e = .returned (.bool (Ir.ready s pc)) ∧ w = w' := by
  obtain ⟨_, _, p2, p3, p4, _⟩ := hS.cells
  obtain ⟨r, hr⟩ : ∃ r, Ir.ready s pc = r := ⟨_, rfl⟩
  rw [hr]
  unfold Ir.ready at hr
  obtain ⟨q, hq⟩ : ∃ q, (s.next == (pc + 4) % 4294967296) = q := ⟨_, rfl⟩
  have hq2 := hq
  rw [hq] at hr
  generalize s.slot = sl at *
  generalize s.pc = sp at *
  generalize s.next = sn at *
  have HR := Lib.hid hr
  clear hr hS
  cases sl
  · cases hp : (sp == pc)
    · have HE := Lib.hid (show r = false by rw [← HR.out, hp]; rfl)
      have HR := ()
      go_enter Tryz.func57, Tryz.ntmps57
      go_wp2_with fail
      go_ret
      exact ⟨by rw [HE.out]; rfl, rfl⟩
    · have HE := Lib.hid (show r = q by rw [← HR.out, hp]; rfl)
      have HR := ()
      clear hq2
      cases q
      all_goals
        go_enter Tryz.func57, Tryz.ntmps57
        go_wp2_with fail
        go_ret
        exact ⟨by rw [HE.out]; rfl, rfl⟩
  · have HE := Lib.hid (show r = false by rw [← HR.out]; rfl)
    have HR := ()
    go_enter Tryz.func57, Tryz.ntmps57
    go_wp2_with fail
    go_ret
    exact ⟨by rw [HE.out]; rfl, rfl⟩
theorem is_overm (k : ByteArray) : (k.toList == [111, 118, 101, 114, 45]) = (Ir.kn k == 4) := Ir.eq_lit2 k 4 (by omega)
set_option maxRecDepth 100000 in
theorem over_any (k : ByteArray) (a b : Int) (w : World) (ha : 0 ≤ a ∧ a < 4294967296) (hb : 0 ≤ b ∧ b < 4294967296) :
    Calls Tryz.prog 137 #[.string k, .int .u32 a, .int .u32 b] w fun e w' => e = .returned (.bool (Ir.overV (Ir.kn k) a b)) ∧ w = w' := by
  have h4 := is_overm k
  have HV : Hid (Ir.overV (Ir.kn k) a b = if (Ir.kn k == 4) = true then !Wd.isS (Wd.sg a - Wd.sg b) else !Wd.isS (Wd.sg a + Wd.sg b)) := Lib.hid (by unfold Ir.overV; simp)
  generalize Ir.overV (Ir.kn k) a b = r at *
  have HA := Lib.hid (fun w => add_any a b w ha hb)
  have HS := Lib.hid (fun w => sub_any a b w ha hb)
  cases h : (Ir.kn k == 4)
  · rw [h] at h4 HV
    clear h
    go_enter Tryz.func137, Tryz.ntmps137
    go_wp2_with fail
    refine (HA.out _).mono ?_
    rintro e w' ⟨rfl, rfl⟩
    go_wp2_with fail
    go_ret
    exact ⟨by rw [HV.out]; rfl, rfl⟩
  · rw [h] at h4 HV
    clear h
    go_enter Tryz.func137, Tryz.ntmps137
    go_wp2_with fail
    refine (HA.out _).mono ?_
    rintro e w' ⟨rfl, rfl⟩
    go_wp2_with fail
    refine (HS.out _).mono ?_
    rintro e w' ⟨rfl, rfl⟩
    go_wp2_with fail
    go_ret
    exact ⟨by rw [HV.out]; rfl, rfl⟩
/-- what is watched, as it lies -/
def WatchAt (w : World) (pw : Nat) (W : Int → Bool) : Prop := ∃ es c, w.heap[pw]? = some (.map es c) ∧ ∀ w' : World, w'.heap[pw]? = some (.map es c) → ∀ p : Int, 0 ≤ p → p < 64 →
  (Instr.lookup 139 (.map (some pw)) (.int .i64 p) false).run Tryz.prog w' = .ok (.bool (W p)) w'
theorem WatchAt.keep {S : Nat → Prop} {w w' : World} {pw : Nat} {W : Int → Bool} (h : WatchAt w pw W) (k : Keeps S w w') (hs : ¬ S pw) : WatchAt w' pw W := by
  obtain ⟨es, c, h1, h2⟩ := h
  exact ⟨es, c, k.map h1 hs, h2⟩
theorem WatchAt.look {w : World} {pw : Nat} {W : Int → Bool} (h : WatchAt w pw W) (p : Int) (h0 : 0 ≤ p) (h1 : p < 64) : (Instr.lookup 139 (.map (some pw)) (.int .i64 p) false).run Tryz.prog w = .ok (.bool (W p)) w := by
  obtain ⟨es, c, h2, h3⟩ := h
  exact h3 w h2 p h0 h1
theorem WatchAt.lt {w : World} {pw : Nat} {W : Int → Bool} (h : WatchAt w pw W) : pw < w.heap.size := by
  obtain ⟨es, c, h2, h3⟩ := h
  exact (Array.getElem?_eq_some_iff.1 h2).1
set_option maxRecDepth 100000 in
theorem watched_any (r pb pw ph cp : Nat) (m : Nat → Int) (W : Int → Bool) (a : Int) (w : World) (R : RamAt w r pb pw ph cp m) (hW : WatchAt w pw W) (ha : 0 ≤ a ∧ a < 16384) :
    Calls Tryz.prog 170 #[.pointer (some ⟨r, 0, none⟩), .int .u32 a] w fun e w' => e = .returned (.bool (W (a / 256))) ∧ w = w' := by
  have hb : w.cell? ⟨r, 1, none⟩ = some (.map (some pw)) := by simp [World.cell?, R.box]
  have hl := hW.look (a / 256) (by omega) (by omega)
  clear R hW
  generalize W (a / 256) = q at *
  go_enter Tryz.func170, Tryz.ntmps170
  go_wp2_with fail
  go_ret
  exact ⟨rfl, rfl⟩
end Go.Proofs.YtknhfobcejpmeaaGreatDoor

/- Mach3 -/
/- The walks of Where, May, Wait. -/
namespace Go.Proofs.YtknhfobcejpmeaaGreatDoor
open Go.RowKit Go.Deep
set_option linter.unusedVariables false
set_option linter.unusedSimpArgs false

/-- what Where answers -/
def Ir.whV (o : Ir.Op) (a : Int) : Int × Bool := if kn o.k = 7 then (o.imm, a != 0) else if kn o.k = 9 then (a, true) else (o.imm, kn o.k == 8)
theorem Ir.goes_wh (o : Ir.Op) (a : Int) (h : Ir.leaves (Ir.kn o.k) = true) : Ir.goesTo o a = if (Ir.whV o a).2 = true then some (Ir.whV o a).1 else none := by
  unfold Ir.leaves at h
  have h := of_decide_eq_true h
  unfold Ir.goesTo Ir.whV
  generalize Ir.kn o.k = q at *
  have hq : q = 7 ∨ q = 8 ∨ q = 9 := by omega
  rcases hq with rfl | rfl | rfl
  · simp
  · simp
  · simp
set_option maxRecDepth 100000 in
theorem where_any (o : Ir.Op) (a : Int) (w : World) :
    Calls Tryz.prog 99 #[.agg (opC o), .int .u32 a] w fun e w' => e = .returned (.tuple #[.int .u32 (Ir.whV o a).1, .bool (Ir.whV o a).2]) ∧ Keeps (fun _ => False) w w' := by
  obtain ⟨k, d, b1, b2, im, t⟩ := o
  have h7 := is_if k
  have h8 := is_out k
  have h9 := is_outr k
  have HV : Hid (Ir.whV ⟨k, d, b1, b2, im, t⟩ a = if (Ir.kn k == 7) = true then (im, a != 0) else if (Ir.kn k == 9) = true then (a, true) else (im, Ir.kn k == 8)) := Lib.hid (by unfold Ir.whV; simp)
  have HN := Lib.hid (op_new w k d b1 b2 im t 100)
  generalize Ir.whV ⟨k, d, b1, b2, im, t⟩ a = r at *
  unfold opC
  generalize (Ir.kn k == 7) = p7 at *
  generalize (Ir.kn k == 8) = p8 at *
  generalize (Ir.kn k == 9) = p9 at *
  cases p7
  · cases p9
    · have HE := Lib.hid (show r = (im, p8) from HV.out)
      go_enter Tryz.func99, Tryz.ntmps99
      go_upto_region 1 with fail
      obtain ⟨hV, hK⟩ := HN.out
      generalize w.alloc _ = w1 at *
      generalize w.heap.size = x at *
      obtain ⟨v0, v1, v2, v3, v4, v5⟩ := hV
      simp only at v0 v1 v2 v3 v4 v5
      have HK := Lib.hid hK
      clear hK HN
      go_upto_region 6 with fail
      go_quiet (fail)
      generalize hwd : World.drewN w1 _ = wd
      have hkd : Keeps (fun _ => False) w1 wd := by rw [← hwd]; exact Keeps.of_drewN _ _ _
      have HKD := Lib.hid hkd
      clear hwd hkd
      go_wp2_with fail
      go_ret2
      exact ⟨by rw [HE.out]; rfl, HK.out.trans HKD.out (fun _ _ h => h)⟩
    · have HE := Lib.hid (show r = (a, true) from HV.out)
      go_enter Tryz.func99, Tryz.ntmps99
      go_upto_region 1 with fail
      obtain ⟨hV, hK⟩ := HN.out
      generalize w.alloc _ = w1 at *
      generalize w.heap.size = x at *
      obtain ⟨v0, v1, v2, v3, v4, v5⟩ := hV
      simp only at v0 v1 v2 v3 v4 v5
      have HK := Lib.hid hK
      clear hK HN
      go_wp2_with fail
      go_ret2
      exact ⟨by rw [HE.out]; rfl, HK.out⟩
  · have HE := Lib.hid (show r = (im, a != 0) from HV.out)
    obtain ⟨z, hz⟩ : ∃ z, (a != 0) = z := ⟨_, rfl⟩
    rw [hz] at HE
    go_enter Tryz.func99, Tryz.ntmps99
    go_upto_region 1 with fail
    obtain ⟨hV, hK⟩ := HN.out
    generalize w.alloc _ = w1 at *
    generalize w.heap.size = x at *
    obtain ⟨v0, v1, v2, v3, v4, v5⟩ := hV
    simp only at v0 v1 v2 v3 v4 v5
    have HK := Lib.hid hK
    clear hK HN
    go_wp2_with fail
    go_ret2
    exact ⟨by rw [HE.out]; rfl, HK.out⟩
set_option maxRecDepth 100000 in
theorem may_any (B mb r pb pw ph cp : Nat) (c : Ir.Mc) (m : Nat → Int) (W : Int → Bool) (a n : Int) (w : World) (ea : Nat → Addr) (E : Errs3 w ea) (M : MachAt w B mb r c) (R : RamAt w r pb pw ph cp m) (hW : WatchAt w pw W) (ha : 0 ≤ a ∧ a < 4294967296) :
    Calls Tryz.prog 139 #[.pointer (some ⟨mb, 0, none⟩), .int .u32 a, .int .i64 n] w fun e w' => e = .returned (.bool (decide (rightC a n = 0 ∧ W (a / 256) = false))) ∧ w = w' := by
  have hm := M.ram
  by_cases h : rightC a n = 0
  · have hr := rightC_ok h
    have HL := Lib.hid (load_okI r pb pw ph cp m a n false w R ha.1 h)
    have HWD := Lib.hid (watched_any r pb pw ph cp m W a w R hW ⟨ha.1, hr.2.2⟩)
    have HE : Hid (decide (rightC a n = 0 ∧ W (a / 256) = false) = !W (a / 256)) := Lib.hid (by rw [Bool.eq_iff_iff]; simp [h])
    generalize decide (rightC a n = 0 ∧ W (a / 256) = false) = q at *
    generalize W (a / 256) = wq at *
    clear M R hW h hr
    go_enter Tryz.func139, Tryz.ntmps139
    go_wp2_with fail
    refine HL.out.mono ?_
    rintro e w' ⟨rfl, rfl⟩
    go_wp2_with fail
    refine HWD.out.mono ?_
    rintro e w' ⟨rfl, rfl⟩
    go_wp2_with fail
    go_ret
    exact ⟨by rw [HE.out]; rfl, rfl⟩
  · have HL := Lib.hid (load_bad ⟨r, 0, none⟩ a n false w ea E ha h)
    have HE : Hid (decide (rightC a n = 0 ∧ W (a / 256) = false) = false) := Lib.hid (by rw [decide_eq_false_iff_not]; exact fun hh => h hh.1)
    generalize decide (rightC a n = 0 ∧ W (a / 256) = false) = q at *
    clear M R hW h
    go_enter Tryz.func139, Tryz.ntmps139
    go_wp2_with fail
    refine HL.out.mono ?_
    rintro e w' ⟨rfl, rfl⟩
    unfold errV
    go_wp2_with fail
    go_ret
    exact ⟨by rw [HE.out]; rfl, rfl⟩
theorem Tryz.info_wt : (Tryz.prog.info? 183).map (fun i => (i.zero, i.size, i.bytes)) = some (some (.agg #[.int .u32 0, .int .i64 0, .int .u32 0]), 3, 24) := by kernel_rfl
theorem owns_ne {w : World} {base e size n b m : Nat} {v : Value} {xs : List Value} {t : TypeId} {f : Nat → Value} (h : w.ownsRow base e size v n xs) (r : w.rowIs b t m f) (hne : e ≠ t) : ∀ g, v.ownBlock = some g → g ≠ b := by
  rintro g hg rfl
  obtain ⟨c, hb, _⟩ := r
  obtain ⟨_, ⟨h2, h3⟩ | ⟨g2, cap', cur, h2, h3, h4, h5, h6, h7, h8⟩⟩ := h
  · rw [h2] at hg; cases hg
  · rw [h2] at hg
    injection hg with hg
    subst hg
    rw [hb] at h4
    injection h4 with h4
    injection h4 with e1 e2 e3
    exact hne e2.symm
theorem wtL_len (l : List Ir.Wt) : (wtL l).length = l.length * 3 := by
  induction l with
  | nil => rfl
  | cons a r ih =>
    have : wtL (a :: r) = [.int .u32 a.addr, .int .i64 a.size, .int .u32 a.v] ++ wtL r := rfl
    rw [this, List.length_append, ih]
    simp
    omega
theorem wtL_snoc (l : List Ir.Wt) (s : Ir.Wt) : wtL (l ++ [s]) = wtL l ++ [.int .u32 s.addr, .int .i64 s.size, .int .u32 s.v] := by
  unfold wtL
  rw [List.flatMap_append]
  rfl
set_option maxHeartbeats 2000000 in
set_option maxRecDepth 100000 in
theorem wait_any (B mb r : Nat) (c : Ir.Mc) (a n v : Int) (w : World) (M : MachAt w B mb r c) (S : Nat → Prop) (hS : S mb ∧ ∀ v, w.cell? ⟨mb, 65, none⟩ = some v → ∀ g, v.ownBlock = some g → S g) (hB : B ≤ w.heap.size) (hl : c.ws.length < 1000000) :
    Calls Tryz.prog 98 #[.pointer (some ⟨mb, 0, none⟩), .int .u32 a, .int .i64 n, .int .u32 v] w fun e w' => e = .returned (.tuple #[]) ∧ MachAt w' B mb r { c with ws := c.ws ++ [⟨a, n, v⟩] } ∧ Keeps S w w' := by
  obtain ⟨i0, hi, hz0, hz1, hz2⟩ := info_parts Tryz.info_wt
  obtain ⟨⟨sv, hrow, hown, hne⟩, hlow⟩ := M
  have hc := rowIs_cell hrow 65 (by omega)
  have hf := rowIs_frozen hrow 65
  rw [machF, if_neg (by omega), if_neg (by omega)] at hc
  have hmx : c.ws.length + 1 ≤ maxLen := by unfold maxLen; omega
  have HSX := Lib.hid hS.1
  have HROW := Lib.hid hrow
  have HNE := Lib.hid hne
  have HLOW := Lib.hid hlow
  have HOWN := Lib.hid hown
  have HLT := Lib.hid (rowIs_lt hrow)
  obtain ⟨A1, cap1, rfl⟩ := owns_slice hown
  have HSG := Lib.hid (hS.2 _ hc)
  clear hS
  have HQ := Lib.hid (show (w.alloc (.cells #[.int .u32 a, .int .i64 n, .int .u32 v] 183)).ownsRow B 183 3 (.slice A1 c.ws.length cap1) c.ws.length (wtL c.ws) from hown.alloc _)
  have HC := Lib.hid (fun j u hj => cells_new w [.int .u32 a, .int .i64 n, .int .u32 v] 183 j u hj)
  have HS := Lib.hid (show B ≤ (w.alloc (.cells #[.int .u32 a, .int .i64 n, .int .u32 v] 183)).heap.size by rw [nblk_alloc]; omega)
  have HA := Lib.hid ((Keeps.refl (fun _ => False) w).alloc (.cells #[.int .u32 a, .int .i64 n, .int .u32 v] 183))
  have HNL := Lib.hid (wtL_snoc c.ws ⟨a, n, v⟩)
  have HLL := Lib.hid (wtL_len c.ws)
  have hone : ∀ u ∈ [Value.int .u32 a, .int .i64 n, .int .u32 v], u.oneCell' = true := by
    intro u hu
    simp only [List.mem_cons, List.not_mem_nil, or_false] at hu
    rcases hu with rfl | rfl | rfl <;> rfl
  have HONE := Lib.hid hone
  clear hrow hown hne hone
  go_enter Tryz.func98, Tryz.ntmps98
  go_wp2_with (at_builtin; go_loud (refine wpList_append_own _ rfl _ _ 171 rfl B 183 i0 _ 3 24 Tryz.underlying171 hi hz0 hz1 hz2 rfl (by decide) (.slice A1 c.ws.length cap1) c.ws.length (wtL c.ws) rfl HQ.out ⟨w.heap.size, 0, none⟩ 1 1 [.int .u32 a, .int .i64 n, .int .u32 v] rfl rfl HC.out HONE.out hmx (by omega) HS.out ?c0))
  case c0 =>
    intro v' w1 hown hgrow hnil
    obtain ⟨A2, cap2, rfl⟩ := owns_slice hown
    have hk := (HA.out.mono (T := fun k => (Value.slice A1 c.ws.length cap1).ownBlock = some k) (fun _ _ h => h.elim)).grown hgrow (fun k hk _ => hk)
    have hr1 := keeps_rowIs hk HROW.out (fun h => HNE.out mb h rfl)
    have HN2 := Lib.hid (owns_ne hown hr1 (by decide))
    have c1 := rowIs_cell hr1 65 (by omega)
    have f1 := rowIs_frozen hr1 65
    rw [machF, if_neg (by omega), if_neg (by omega)] at c1
    have hk2 := Keeps.one w1 mb 65 (.slice A2 (c.ws.length + 1) cap2)
    have HFIN := Lib.hid (show MachAt (w1.setCell ⟨mb, 65, none⟩ (.slice A2 (c.ws.length + 1) cap2)) B mb r { c with ws := c.ws ++ [⟨a, n, v⟩] } from by
      refine ⟨⟨.slice A2 (c.ws.length + 1) cap2, (hr1.set 65 _).congr (fun i hi => ?_), ?_, HN2.out⟩, HLOW.out⟩
      · unfold machF
        by_cases e : i = 65
        · subst e; rfl
        · rw [if_neg e]
          by_cases h64 : i < 64
          · rw [if_pos h64, if_pos h64]
          · rw [if_neg h64, if_neg h64, if_pos (by omega), if_pos (by omega)]
      · rw [HNL.out, show (c.ws ++ [(⟨a, n, v⟩ : Ir.Wt)]).length = c.ws.length + 1 by simp]
        exact owns_keep hown hk2 (fun g hg => HN2.out g hg))
    have HKF := Lib.hid (show Keeps S w (w1.setCell ⟨mb, 65, none⟩ (.slice A2 (c.ws.length + 1) cap2)) from
      Keeps.trans (hk.mono (fun g _ hg => HSG.out g hg)) (hk2.mono (fun g _ hg => by have hg : g = mb := hg; subst hg; exact HSX.out)) (fun _ _ h => h))
    clear hown hgrow hnil hk hr1 hk2 hc hf
    go_wp2_with fail
    exact bodyPost_end (results_none rfl _ _ _) rfl ⟨rfl, HFIN.out, HKF.out⟩
end Go.Proofs.YtknhfobcejpmeaaGreatDoor

/- Patch -/
/- A byte of a word, patched; bytes that stores left. No program in sight but memory's plain text. -/
namespace Go.Proofs.YtknhfobcejpmeaaGreatDoor
open Go.RowKit
set_option linter.unusedVariables false

theorem nat_patch (v x u : Nat) (hu : u ≤ 24) (hv : v < 4294967296) (hx : x < 256) : (v &&& (4294967295 - 255 * 2 ^ u)) ||| (x * 2 ^ u) = 2 ^ u * (2 ^ 8 * (v / 2 ^ (u + 8)) + x) + v % 2 ^ u := by
  have hp : 255 * 2 ^ u < 2 ^ 32 := by
    have : 2 ^ u ≤ 2 ^ 24 := Nat.pow_le_pow_right (by omega) hu
    omega
  apply Nat.eq_of_testBit_eq
  intro j
  rw [Nat.testBit_or, Nat.testBit_and, show 4294967295 - 255 * 2 ^ u = 2 ^ 32 - (255 * 2 ^ u + 1) by omega, Nat.testBit_two_pow_sub_succ hp,
    Nat.testBit_two_pow_mul_add _ (Nat.mod_lt _ (Nat.two_pow_pos u)), Nat.testBit_mod_two_pow, Nat.testBit_two_pow_mul_add _ (show x < 2 ^ 8 by omega), Nat.testBit_div_two_pow,
    Nat.testBit_mul_two_pow, Nat.testBit_mul_two_pow, show (255 : Nat) = 2 ^ 8 - 1 from rfl, Nat.testBit_two_pow_sub_one]
  by_cases h1 : j < u
  · simp [h1, show ¬ u ≤ j by omega, show j < 32 by omega]
  · rw [if_neg h1]
    by_cases h2 : j - u < 8
    · simp [h2, show u ≤ j by omega]
    · have hx0 : x.testBit (j - u) = false := Nat.testBit_lt_two_pow (Nat.lt_of_lt_of_le hx (Nat.pow_le_pow_right (n := 2) (by omega) (show 8 ≤ j - u by omega)))
      have e : j - u - 8 + (u + 8) = j := by omega
      simp only [h2, hx0, e]
      by_cases h3 : j < 32
      · simp [h3]
      · have hv0 : v.testBit j = false := Nat.testBit_lt_two_pow (Nat.lt_of_lt_of_le hv (Nat.pow_le_pow_right (n := 2) (by omega) (show 32 ≤ j by omega)))
        simp [hv0]
theorem cast_mul_pow (x u : Nat) : ((x * 2 ^ u : Nat) : Int) = (x : Int) * 2 ^ u := by push_cast; rfl
theorem cast_div_pow (x u : Nat) : ((x / 2 ^ u : Nat) : Int) = (x : Int) / 2 ^ u := by push_cast; rfl
theorem cast_mod (x : Nat) : ((x % 256 : Nat) : Int) = (x : Int) % 256 := by omega
theorem int_patch (v s : Int) (u k : Nat) (hu : u ≤ 24) (hv : 0 ≤ v ∧ v < 4294967296) (hs : 0 ≤ s ∧ s < 4294967296) (hk : k ≤ 24) :
    bits .or .u32 (bits .andNot .u32 v (255 * 2 ^ u % 4294967296)) (bits .and .u32 (s / 2 ^ k) 255 * 2 ^ u % 4294967296) = v - v / 2 ^ u % 256 * 2 ^ u + s / 2 ^ k % 256 * 2 ^ u := by
  obtain ⟨V, rfl⟩ := Int.eq_ofNat_of_zero_le hv.1
  obtain ⟨S, rfl⟩ := Int.eq_ofNat_of_zero_le hs.1
  have hpu : 2 ^ u ≤ 2 ^ 24 := Nat.pow_le_pow_right (by omega) hu
  have hpp := Nat.two_pow_pos u
  have e1 : (255 * 2 ^ u % 4294967296 : Int) = ((255 * 2 ^ u : Nat) : Int) := by
    have h1 : ((255 * 2 ^ u : Nat) : Int) < 4294967296 := by omega
    have h2 : (0 : Int) ≤ ((255 * 2 ^ u : Nat) : Int) := by omega
    have h3 := cast_mul_pow 255 u
    rw [show ((255 : Nat) : Int) = 255 from rfl] at h3
    rw [← h3, Int.emod_eq_of_lt h2 h1]
  have e2 : ((S : Int) / 2 ^ k) = ((S / 2 ^ k : Nat) : Int) := (cast_div_pow S k).symm
  have hSk : S / 2 ^ k < 4294967296 := Nat.lt_of_le_of_lt (Nat.div_le_self _ _) (by omega)
  have e3 : bits .and .u32 ((S : Int) / 2 ^ k) 255 = ((S / 2 ^ k % 256 : Nat) : Int) := by
    rw [e2, show (255 : Int) = ((255 : Nat) : Int) from rfl, u32_and_nat _ _ hSk (by omega), show (255 : Nat) = 2 ^ 8 - 1 from rfl, Nat.and_two_pow_sub_one_eq_mod]
  obtain ⟨X, hX⟩ : ∃ X, S / 2 ^ k % 256 = X := ⟨_, rfl⟩
  have hX256 : X < 256 := by rw [← hX]; exact Nat.mod_lt _ (by omega)
  have hXu : X * 2 ^ u < 4294967296 := Nat.lt_of_lt_of_le (Nat.mul_lt_mul_of_lt_of_le hX256 hpu (by omega)) (by decide)
  have e4 : bits .and .u32 ((S : Int) / 2 ^ k) 255 * 2 ^ u % 4294967296 = ((X * 2 ^ u : Nat) : Int) := by
    have h1 : ((X * 2 ^ u : Nat) : Int) < 4294967296 := by omega
    have h2 : (0 : Int) ≤ ((X * 2 ^ u : Nat) : Int) := by omega
    rw [e3, hX, ← cast_mul_pow, Int.emod_eq_of_lt h2 h1]
  have h255 : 255 * 2 ^ u < 4294967296 := by omega
  rw [e1, e4, u32_andNot_nat _ _ (by omega) h255, u32_or_nat _ _ (Nat.lt_of_le_of_lt Nat.and_le_left (by omega)) hXu, nat_patch V X u hu (by omega) hX256]
  have e5 : ((S : Int) / 2 ^ k % 256) = (X : Int) := by rw [e2, ← hX, cast_mod]
  rw [e5]
  have hd : V = 2 ^ u * (2 ^ 8 * (V / 2 ^ (u + 8)) + V / 2 ^ u % 256) + V % 2 ^ u := by
    have h1 := Nat.div_add_mod V (2 ^ u)
    have h2 := Nat.div_add_mod (V / 2 ^ u) 256
    rw [Nat.div_div_eq_div_mul, show 2 ^ u * 256 = 2 ^ (u + 8) by rw [Nat.pow_add]] at h2
    rw [show (2 : Nat) ^ 8 = 256 from rfl, h2, h1]
  have hd2 : ((2 ^ u * (2 ^ 8 * (V / 2 ^ (u + 8)) + X) + V % 2 ^ u : Nat) : Int) = (V : Int) - ((V / 2 ^ u % 256 * 2 ^ u : Nat) : Int) + ((X * 2 ^ u : Nat) : Int) := by
    generalize V / 2 ^ (u + 8) = H at *
    generalize V / 2 ^ u % 256 = O at *
    generalize V % 2 ^ u = L at *
    have : 2 ^ u * (2 ^ 8 * H + X) + L + O * 2 ^ u = V + X * 2 ^ u := by
      rw [hd, Nat.mul_add, Nat.mul_add, Nat.mul_comm O, Nat.mul_comm X]
      omega
    omega
  rw [hd2, cast_mul_pow, cast_mul_pow, cast_mod, cast_div_pow]
/-- bytes with one set -/
def upd (f : Nat → Int) (k : Nat) (x : Int) (j : Nat) : Int := if j = k then x else f j
theorem be_patch {f : Nat → Int} {a n i : Nat} {x : Int} {u : Nat} (hn : n = 1 ∨ n = 2 ∨ n = 4) (hi : i < n) (hu : (u : Int) = 8 * ((n : Int) - 1 - i)) (hf : ∀ k, k < n → 0 ≤ f (a + k) ∧ f (a + k) < 256) :
    be (upd f (a + i) x) a n = be f a n - be f a n / 2 ^ u % 256 * 2 ^ u + x * 2 ^ u := by
  have h0 := hf 0 (by omega)
  rcases hn with rfl | rfl | rfl
  · obtain rfl : i = 0 := by omega
    obtain rfl : u = 0 := by omega
    simp only [be, upd, Nat.add_zero] at *
    simp
    omega
  · have h1 := hf 1 (by omega)
    have hc : i = 0 ∨ i = 1 := by omega
    rcases hc with rfl | rfl
    · obtain rfl : u = 8 := by omega
      simp only [be, upd, Nat.add_zero] at *
      simp
      omega
    · obtain rfl : u = 0 := by omega
      simp only [be, upd, Nat.add_zero] at *
      simp
      omega
  · have h1 := hf 1 (by omega)
    have h2 := hf 2 (by omega)
    have h3 := hf 3 (by omega)
    have hc : i = 0 ∨ i = 1 ∨ i = 2 ∨ i = 3 := by omega
    rcases hc with rfl | rfl | rfl | rfl
    · obtain rfl : u = 24 := by omega
      simp only [be, upd, Nat.add_zero] at *
      simp
      omega
    · obtain rfl : u = 16 := by omega
      simp only [be, upd, Nat.add_zero] at *
      simp
      omega
    · obtain rfl : u = 8 := by omega
      simp only [be, upd, Nat.add_zero] at *
      simp
      omega
    · obtain rfl : u = 0 := by omega
      simp only [be, upd, Nat.add_zero] at *
      simp
      omega
end Go.Proofs.YtknhfobcejpmeaaGreatDoor

/- Mach4 -/
/- The walk of a machine's Load. -/
namespace Go.Proofs.YtknhfobcejpmeaaGreatDoor
open Go.RowKit Go.Deep
set_option linter.unusedVariables false
set_option linter.unusedSimpArgs false

theorem wtL_get (l : List Ir.Wt) : ∀ i, (hi : i < l.length) → (wtL l)[i * 3]? = some (.int .u32 l[i].addr) ∧ (wtL l)[i * 3 + 1]? = some (.int .i64 l[i].size) ∧ (wtL l)[i * 3 + 2]? = some (.int .u32 l[i].v) := by
  induction l with
  | nil => intro i h; simp at h
  | cons o r ih =>
    intro i h
    have e : wtL (o :: r) = [.int .u32 o.addr, .int .i64 o.size, .int .u32 o.v] ++ wtL r := rfl
    rw [e]
    cases i with
    | zero => exact ⟨rfl, rfl, rfl⟩
    | succ i =>
      have := ih i (by simpa using h)
      rw [List.getElem?_append_right (by simp; omega), List.getElem?_append_right (by simp; omega), List.getElem?_append_right (by simp; omega)]
      simp only [List.length_cons, List.length_nil, List.getElem_cons_succ]
      rw [show (i + 1) * 3 - (0 + 1 + 1 + 1) = i * 3 by omega, show (i + 1) * 3 + 1 - (0 + 1 + 1 + 1) = i * 3 + 1 by omega, show (i + 1) * 3 + 2 - (0 + 1 + 1 + 1) = i * 3 + 2 by omega]
      exact this
/-- the stores that wait, as they are read -/
def WtsAt (w : World) (A : Option Addr) (n cap : Nat) (l : List Ir.Wt) : Prop := l.length = n ∧ n ≤ cap ∧ cap ≤ 9223372036854775807 ∧ (n = 0 ∨ ∃ g, A = some ⟨g, 0, none⟩ ∧ ∀ i, (hi : i < l.length) → w.cell? ⟨g, i * 3, none⟩ = some (.int .u32 l[i].addr) ∧ w.cell? ⟨g, i * 3 + 1, none⟩ = some (.int .i64 l[i].size) ∧ w.cell? ⟨g, i * 3 + 2, none⟩ = some (.int .u32 l[i].v))
theorem WtsAt.keep {w w' : World} {A : Option Addr} {n cap : Nat} {l : List Ir.Wt} (h : WtsAt w A n cap l) (k : Keeps (fun _ => False) w w') : WtsAt w' A n cap l := by
  obtain ⟨h1, h2, h3, h4 | ⟨g, h5, h6⟩⟩ := h
  · exact ⟨h1, h2, h3, .inl h4⟩
  · refine ⟨h1, h2, h3, .inr ⟨g, h5, fun i hi => ?_⟩⟩
    obtain ⟨a, b, c⟩ := h6 i hi
    exact ⟨k.cell' a (fun h => h), k.cell' b (fun h => h), k.cell' c (fun h => h)⟩
theorem MachAt.wts {w : World} {B mb rp : Nat} {c : Ir.Mc} (h : MachAt w B mb rp c) : ∃ A cap, w.cell? ⟨mb, 65, none⟩ = some (.slice A c.ws.length cap) ∧ WtsAt w A c.ws.length cap c.ws := by
  obtain ⟨⟨v, h1, h2, h3⟩, h4⟩ := h
  have hc := rowIs_cell h1 65 (by omega)
  rw [machF, if_neg (by omega), if_neg (by omega)] at hc
  obtain ⟨A, cap, rfl⟩ := owns_slice h2
  refine ⟨A, cap, hc, rfl, ?_⟩
  obtain ⟨_, ⟨h5, h6⟩ | ⟨g2, cap', cur, h5, h6, h7, h8, h9, h10, h11⟩⟩ := h2
  · injection h5 with e1 e2 e3
    exact ⟨by omega, by omega, .inl h6⟩
  · injection h5 with e1 e2 e3
    subst e1 e3
    refine ⟨h8, by unfold maxLen at h9; omega, .inr ⟨g2, rfl, fun i hi => ?_⟩⟩
    obtain ⟨a, b, d⟩ := wtL_get c.ws i hi
    have key : ∀ j u, j < c.ws.length * 3 → (wtL c.ws)[j]? = some u → w.cell? ⟨g2, j, none⟩ = some u := by
      intro j u hj hu
      rw [← h11, List.getElem?_take_of_lt hj] at hu
      unfold World.cell?
      rw [h7]
      simpa using hu
    exact ⟨key _ _ (by omega) a, key _ _ (by omega) b, key _ _ (by omega) d⟩
/-- bytes of which the first are as stores that wait left them -/
def mixA (m : Nat → Int) (ws : List Ir.Wt) (a i : Nat) (j : Nat) : Int := if j < a + i then Ir.pend m ws j else m j
def mixB (m : Nat → Int) (ws : List Ir.Wt) (a i k : Nat) (j : Nat) : Int := if j < a + i then Ir.pend m ws j else if j = a + i then Ir.pend m (ws.take k) j else m j
theorem be_ext {f g : Nat → Int} {a : Nat} : ∀ {n : Nat}, (∀ j, j < n → f (a + j) = g (a + j)) → be f a n = be g a n
  | 0, _ => rfl
  | n + 1, h => by rw [be, be, be_ext (fun j hj => h j (by omega)), h n (by omega)]
theorem sb_rng (v : Int) (n i : Nat) : 0 ≤ sb v n i ∧ sb v n i < 256 := by unfold sb; omega
theorem pend_rng {m : Nat → Int} (hm : ∀ j, j < 16384 → 0 ≤ m j ∧ m j < 256) : ∀ (ws : List Ir.Wt), ∀ j, j < 16384 → 0 ≤ Ir.pend m ws j ∧ Ir.pend m ws j < 256 := by
  intro ws
  induction ws generalizing m with
  | nil => exact hm
  | cons s r ih =>
    refine ih (m := stTo m s.addr.toNat s.size.toNat s.v s.size.toNat) (fun j hj => ?_)
    unfold stTo
    split
    · exact sb_rng _ _ _
    · exact hm j hj
theorem pend_snoc (m : Nat → Int) (ws : List Ir.Wt) (k : Nat) (hk : k < ws.length) : Ir.pend m (ws.take (k + 1)) = stTo (Ir.pend m (ws.take k)) ws[k].addr.toNat ws[k].size.toNat ws[k].v ws[k].size.toNat := by
  rw [List.take_succ_eq_append_getElem hk]
  unfold Ir.pend
  rw [List.foldl_append]
  rfl
theorem mixB_rng {m : Nat → Int} (hm : ∀ j, j < 16384 → 0 ≤ m j ∧ m j < 256) (ws : List Ir.Wt) (a i k j : Nat) (hj : j < 16384) : 0 ≤ mixB m ws a i k j ∧ mixB m ws a i k j < 256 := by
  unfold mixB
  split
  · exact pend_rng hm _ _ hj
  · split
    · exact pend_rng hm _ _ hj
    · exact hm _ hj
theorem mixB_zero (m : Nat → Int) (ws : List Ir.Wt) (a i : Nat) : mixB m ws a i 0 = mixA m ws a i := by
  funext j
  unfold mixB mixA
  split
  · rfl
  · split
    · rfl
    · rfl
theorem mixB_all (m : Nat → Int) (ws : List Ir.Wt) (a i N : Nat) (h : ws.length = N) : mixB m ws a i N = mixA m ws a (i + 1) := by
  funext j
  unfold mixB mixA
  rw [← h, List.take_length]
  by_cases h1 : j < a + i
  · rw [if_pos h1, if_pos (by omega)]
  · rw [if_neg h1]
    by_cases h2 : j = a + i
    · rw [if_pos h2, if_pos (by omega)]
    · rw [if_neg h2, if_neg (by omega)]
theorem mixB_in {m : Nat → Int} {ws : List Ir.Wt} {a i k : Nat} {sa sz sv : Int} (hk : k < ws.length) (hs : ws[k] = ⟨sa, sz, sv⟩) (h0 : 0 ≤ sa) (h1 : sa ≤ (a : Int) + i) (h2 : (a : Int) + i < sa + sz) (u2 : Nat) (hu2 : (u2 : Int) = 8 * (sz - 1 - ((a : Int) + i - sa))) :
    mixB m ws a i (k + 1) = upd (mixB m ws a i k) (a + i) (sv / 2 ^ u2 % 256) := by
  funext j
  unfold mixB upd
  simp only []
  by_cases h3 : j < a + i
  · rw [if_pos h3, if_neg (by omega), if_pos h3]
  · rw [if_neg h3, if_neg h3]
    by_cases h4 : j = a + i
    · rw [if_pos h4, if_pos h4, pend_snoc m ws k hk, hs]
      unfold stTo
      simp only
      rw [if_pos (by omega)]
      unfold sb
      rw [show 8 * (sz.toNat - 1 - (j - sa.toNat)) = u2 by omega]
    · rw [if_neg h4, if_neg h4, if_neg h4]
theorem mixB_out {m : Nat → Int} {ws : List Ir.Wt} {a i k : Nat} {sa sz sv : Int} (hk : k < ws.length) (hs : ws[k] = ⟨sa, sz, sv⟩) (h0 : 0 ≤ sa) (h : ¬ (sa ≤ (a : Int) + i ∧ (a : Int) + i < sa + sz)) :
    mixB m ws a i (k + 1) = mixB m ws a i k := by
  funext j
  unfold mixB
  by_cases h3 : j < a + i
  · rw [if_pos h3, if_pos h3]
  · rw [if_neg h3, if_neg h3]
    by_cases h4 : j = a + i
    · rw [if_pos h4, if_pos h4, pend_snoc m ws k hk, hs]
      unfold stTo
      simp only
      rw [if_neg (by omega)]
    · rw [if_neg h4, if_neg h4]
set_option maxHeartbeats 4000000 in
set_option maxRecDepth 100000 in
theorem mload_any (B mb r pb pw ph cp : Nat) (c : Ir.Mc) (m : Nat → Int) (W : Int → Bool) (ad b : Int) (n : Nat) (w : World) (ea : Nat → Addr) (E : Errs3 w ea) (M : MachAt w B mb r c) (R : RamAt w r pb pw ph cp m) (ha : 0 ≤ ad ∧ ad < 4294967296)
    (hn : n = 1 ∨ n = 2 ∨ n = 4) (hb : b = n ∨ b = -n) (hB : B ≤ w.heap.size) (hok : Ir.McOk W c) (h : rightC ad n = 0) :
    Calls Tryz.prog 138 #[.pointer (some ⟨mb, 0, none⟩), .int .u32 ad, .int .i64 b] w fun e w' => e = .returned (.tuple #[.int .u32 (Ir.loadV m c.ws ad b), .bool true]) ∧ Keeps (fun _ => False) w w' := by
  have hm := M.ram
  obtain ⟨_, hal, hah⟩ := rightC_ok h
  have hfit : ad + n ≤ 16384 := by rcases hn with rfl | rfl | rfl <;> omega
  have HRG := Lib.hid R.rng
  have HWS := Lib.hid hok.ws
  have HLV := Lib.hid (show Ir.loadV m c.ws ad b = Wd.wide (be (Ir.pend m c.ws) ad.toNat n) (8 * n) (decide (b < 0)) by
    unfold Ir.loadV
    rw [show b.natAbs = n by omega])
  have HL := Lib.hid (load_okI r pb pw ph cp m ad n false w R ha.1 h)
  have hb2 : -4 ≤ b ∧ b ≤ 4 := by omega
  have hmax : max b (-b) = (n : Int) := by omega
  go_enter Tryz.func138, Tryz.ntmps138
  go_wp2_with fail
  refine HL.out.mono ?_
  rintro e w1 ⟨rfl, rfl⟩
  obtain ⟨a0, ha0⟩ := Int.eq_ofNat_of_zero_le ha.1
  subst ha0
  rw [Int.toNat_natCast] at HLV
  obtain ⟨A, cap, hw65, hWT⟩ := M.wts
  have HM := Lib.hid M
  have HWT := Lib.hid hWT
  have h65 := Lib.hid hw65
  obtain ⟨N, hN⟩ : ∃ N, c.ws.length = N := ⟨_, rfl⟩
  rw [hN] at HWT h65
  have HN := Lib.hid hN
  clear hN hWT hw65 M
  have HBR := Lib.hid (fun i k => be_rng (mixB m c.ws a0 i k) a0 n (fun j hj => mixB_rng HRG.out c.ws a0 i k (a0 + j) (by omega)))
  have HBX := Lib.hid (fun i k j (hj : j < n) => mixB_rng HRG.out c.ws a0 i k (a0 + j) (by omega))
  have HP4 := Lib.hid (show (256 : Int) ^ n ≤ 4294967296 by rcases hn with rfl | rfl | rfl <;> decide)
  have HW0 := Lib.hid (show Wd.wide (be m a0 n) (8 * n) false = be (mixA m c.ws a0 0) a0 n by
    rw [wide_be hn (fun j hj => HRG.out _ (by omega))]
    refine be_ext (fun j hj => ?_)
    unfold mixA
    rw [if_neg (by omega)])
  have HWN := Lib.hid (show be (mixA m c.ws a0 n) a0 n = be (Ir.pend m c.ws) a0 n from be_ext (fun j hj => by unfold mixA; rw [if_pos (by omega)]))
  go_wp2_with fail
  go_loopw [33, 9] (fun s33 s9 wr => ∃ i : Nat, i ≤ n ∧ s33 = .int .i64 i ∧ s9 = .int .u32 (be (mixA m c.ws a0 i) a0 n) ∧ Keeps (fun _ => False) w wr) (fun s33 _ _ => n - (intOf s33).toNat)
  case atStart => exact ⟨0, by omega, rfl, by rw [HW0.out], Keeps.refl _ _⟩
  case round =>
    obtain ⟨i, hi, rfl, rfl, hKi⟩ := hrel
    have HKI := Lib.hid hKi
    by_cases hlt : i < n
    · have c65 := hKi.cell' h65.out (fun h => h)
      have hNle := HWT.out.2.1
      clear hKi hm
      go_wp2_with fail
      go_loopw [41, 9] (fun s41 s9 wq => ∃ k : Nat, k ≤ N ∧ s41 = .int .i64 k ∧ s9 = .int .u32 (be (mixB m c.ws a0 i k) a0 n) ∧ Keeps (fun _ => False) wr wq) (fun s41 _ _ => N - (intOf s41).toNat)
      case atStart => exact ⟨0, by omega, rfl, by rw [mixB_zero], Keeps.refl _ _⟩
      case round =>
        obtain ⟨k, hk, rfl, rfl, hKk⟩ := hrel
        have HKK := Lib.hid hKk
        by_cases hlt2 : k < N
        · obtain ⟨_, _, hcap, h0 | ⟨g, rfl, hg⟩⟩ := HWT.out.keep (HKI.out.trans hKk (fun _ _ h => h))
          · omega
          obtain ⟨g0, g1, g2⟩ := hg k (by rw [HN.out]; exact hlt2)
          obtain ⟨st, hst⟩ : ∃ st, c.ws[k]'(by rw [HN.out]; exact hlt2) = st := ⟨_, rfl⟩
          rw [hst] at g0 g1 g2
          obtain ⟨sa, sz, sv⟩ := st
          simp only at g0 g1 g2
          clear hg hKk
          obtain ⟨vv, hvv⟩ : ∃ vv, be (mixB m c.ws a0 i k) a0 n = vv := ⟨_, rfl⟩
          rw [hvv]
          have HVV := Lib.hid hvv
          have HST := Lib.hid hst
          clear hvv hst
          have hso := HWS.out _ (List.getElem_mem (show k < c.ws.length by rw [HN.out]; exact hlt2))
          rw [HST.out] at hso
          obtain ⟨hs1, hs2, hsv, _⟩ := hso
          simp only at hs1 hs2 hsv
          obtain ⟨hsz, _, hs3⟩ := rightC_ok hs1
          have hsa : 0 ≤ sa ∧ sa < 4294967296 := by omega
          have hvr : 0 ≤ vv ∧ vv < 4294967296 := by
            have h1 := HBR.out i k
            have h2 := HP4.out
            rw [HVV.out] at h1
            exact ⟨h1.1, Int.lt_of_lt_of_le h1.2 h2⟩
          clear hs1 hs2 hs3
          by_cases hin : sa ≤ a0 + i ∧ (a0 : Int) + i < sa + sz
          · obtain ⟨hi1, hi2⟩ := hin
            have t1 : decide (sa ≤ (a0 : Int) + i) = true := decide_eq_true hi1
            have t2 : decide ((a0 : Int) + i - sa < sz) = true := decide_eq_true (by omega)
            have hkc : k < c.ws.length := by rw [HN.out]; exact hlt2
            go_upto_region 14 with fail
            obtain ⟨u, hu⟩ : ∃ u : Nat, 8 * ((n : Int) - 1 - i) = u := ⟨(8 * ((n : Int) - 1 - i)).toNat, by omega⟩
            have hw1 : IntKind.i64.wrap (sz - 1) = sz - 1 := by rw [IntKind.wrap_i64]; omega
            have hw2 : IntKind.i64.wrap (sz - 1 - ((a0 : Int) + i - sa)) = sz - 1 - ((a0 : Int) + i - sa) := by rw [IntKind.wrap_i64]; omega
            obtain ⟨u2, hu2⟩ : ∃ u : Nat, 8 * (sz - 1 - ((a0 : Int) + i - sa)) = u := ⟨(8 * (sz - 1 - ((a0 : Int) + i - sa))).toNat, by omega⟩
            have hw3 : IntKind.i64.wrap (8 * (sz - 1 - ((a0 : Int) + i - sa))) = (u2 : Int) := by rw [IntKind.wrap_i64]; omega
            have hu24 : u ≤ 24 := by omega
            have hu224 : u2 ≤ 24 := by omega
            have HNEW := Lib.hid (show bits .or .u32 (bits .andNot .u32 vv (255 * 2 ^ u % 4294967296)) (bits .and .u32 (sv / 2 ^ u2) 255 * 2 ^ u % 4294967296) = be (mixB m c.ws a0 i (k + 1)) a0 n by
              rw [int_patch vv sv u u2 hu24 hvr hsv hu224, mixB_in hkc HST.out hsa.1 hi1 hi2 u2 hu2.symm, be_patch hn hlt hu.symm (fun j hj => HBX.out i k j hj), HVV.out])
            rw [hu]
            clear hu2 hu hi1 hi2
            go_quiet (fail)
            have HKQ := Lib.hid (HKK.out.trans ((((Keeps.refl (fun _ => False) wr).alloc (.cells #[.int .u32 sa, .int .i64 sz, .int .u32 sv] 183))).drewN nq) (fun _ _ h => h))
            go_wp2_with fail
            go_roundw
            case rel => exact ⟨k + 1, by omega, by go_num, by rw [HNEW.out], HKQ.out⟩
            case measure => simp [intOf]; omega
          · have hkc : k < c.ws.length := by rw [HN.out]; exact hlt2
            have HNEW := Lib.hid (show vv = be (mixB m c.ws a0 i (k + 1)) a0 n by rw [mixB_out hkc HST.out hsa.1 hin, HVV.out])
            have HKQ := Lib.hid (HKK.out.trans (((Keeps.refl (fun _ => False) wr).alloc (.cells #[.int .u32 sa, .int .i64 sz, .int .u32 sv] 183))) (fun _ _ h => h))
            by_cases h1 : sa ≤ (a0 : Int) + i
            · have t1 : decide (sa ≤ (a0 : Int) + i) = true := decide_eq_true h1
              have t2 : decide ((a0 : Int) + i - sa < sz) = false := decide_eq_false (by omega)
              clear hin
              go_wp2_with fail
              go_roundw
              case rel => exact ⟨k + 1, by omega, by go_num, by rw [← HNEW.out], HKQ.out⟩
              case measure => simp [intOf]; omega
            · have t1 : decide (sa ≤ (a0 : Int) + i) = false := decide_eq_false h1
              clear hin
              go_wp2_with fail
              go_roundw
              case rel => exact ⟨k + 1, by omega, by go_num, by rw [← HNEW.out], HKQ.out⟩
              case measure => simp [intOf]; omega
        · obtain rfl : k = N := by omega
          have HALL := Lib.hid (mixB_all m c.ws a0 i k HN.out)
          clear hKk
          go_wp2_with fail
          go_roundw
          case rel => exact ⟨i + 1, by omega, by go_num, by rw [HALL.out], HKI.out.trans HKK.out (fun _ _ h => h)⟩
          case measure => simp [intOf]; omega
    · obtain rfl : i = n := by omega
      have HV4 := Lib.hid (show 0 ≤ be (Ir.pend m c.ws) a0 i ∧ be (Ir.pend m c.ws) a0 i < 4294967296 by
        have h1 := be_rng (Ir.pend m c.ws) a0 i (fun j hj => pend_rng HRG.out c.ws (a0 + j) (by omega))
        exact ⟨h1.1, Int.lt_of_lt_of_le h1.2 HP4.out⟩)
      rw [HWN.out]
      generalize be (Ir.pend m c.ws) a0 i = vv at *
      have HWD := Lib.hid (fun w => wide_any vv (8 * i) (decide (b < 0)) w HV4.out)
      clear hKi hm
      go_wp2_with fail
      refine (HWD.out _).mono ?_
      rintro e w' ⟨rfl, rfl⟩
      go_wp2_with fail
      go_ret2
      exact ⟨by rw [HLV.out]; rfl, HKI.out⟩
end Go.Proofs.YtknhfobcejpmeaaGreatDoor
