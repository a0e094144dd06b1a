import Derived.Test.YtlmnmncdoiealaaGreatDoorKaz10
import Derived.Test.YtlmnmncdoiealaaGreatDoorKaz06
import Derived.Laws.MakeOwn
import Derived.Laws.AppendOwn
import Derived.OwnWalk
import Derived.Lib.Slices

/- KeepC -/
/- The walk of keep's copied. -/
namespace Go.Proofs.YtlmnmncdoiealaaGreatDoor
open Go.RowKit Go.Deep
set_option linter.unusedVariables false
set_option linter.unusedSimpArgs false

theorem made_nil (k : Nat) : ∀ j, ((madeCells (Value.slice none 0 0).cells k).toList).getD j (.slice none 0 0) = .slice none 0 0 := by
  intro j
  have hc : (Value.slice none 0 0).cells = #[.slice none 0 0] := rfl
  rw [hc]
  rw [List.getD_eq_getElem?_getD]
  cases h : (madeCells #[Value.slice none 0 0] k).toList[j]? with
  | none => rfl
  | some v =>
    have hm := List.mem_of_getElem? h
    unfold madeCells at hm
    simp at hm
    obtain ⟨_, _, rfl⟩ := hm
    simp [Nat.mod_one]
/-- rows that are made: each is empty -/
theorem made_rows (w : World) (B n : Nat) (hn : n ≤ 100000) (hB : B ≤ w.heap.size) : ∃ w', (Instr.makeSlice 35 (.int .i64 (n : Int)) (.int .i64 (n : Int))).run Tryz.prog w = .ok (.slice (some ⟨w.heap.size, 0, none⟩) n n) w' ∧
    RowsOwn w' B (.slice (some ⟨w.heap.size, 0, none⟩) n n) (List.replicate n []) ∧ Keeps (fun _ => False) w w' := by
  obtain ⟨i0, hinf, hz0, hz1, hz2⟩ := info_parts Tryz.info_rowO
  obtain ⟨w', h1, h2, h3⟩ := run_makeSlice_full (P := Tryz.prog) (w := w) B 35 40 i0 _ 1 Tryz.underlying35 hinf hz0 hz1 .i64 .i64 n (by omega) (by rw [hz2]; omega) (by unfold maxLen; omega) hB
  refine ⟨w', h1, ⟨_, ?_, by rw [List.length_replicate]; exact h2, fun j hj => ?_⟩, (Keeps.refl _ w).grown h3 (fun k hk _ => by cases hk)⟩
  · rw [List.length_replicate]
    have := h2.1
    omega
  · rw [show (List.replicate n ([] : List Ir.Op)).getD j [] = [] by rw [List.getD_eq_getElem?_getD, List.getElem?_replicate]; split <;> rfl, made_nil]
    exact ⟨none, 0, rfl, World.ownsRow_nil _ _ _ _⟩
/-- a row written in its place -/
theorem RowsOwn.setAt {w : World} {B g n cap : Nat} {rows : List (List Ir.Op)} (h : RowsOwn w B (.slice (some ⟨g, 0, none⟩) n cap) rows) (i : Nat) (hi : i < rows.length) (l : List Ir.Op) (u : Value) (hu : OpsOwn w B l u) :
    RowsOwn (w.setCell ⟨g, i, none⟩ u) B (.slice (some ⟨g, 0, none⟩) n cap) (rows.set i l) ∧ Keeps (· = g) w (w.setCell ⟨g, i, none⟩ u) := by
  obtain ⟨vs, h1, h2, h3⟩ := h
  have hk := Keeps.one w g i u
  obtain ⟨A, c, e, _⟩ : ∃ A c, Value.slice (some ⟨g, 0, none⟩) n cap = .slice A rows.length c ∧ True := by
    obtain ⟨A, c, e⟩ := owns_slice h2
    exact ⟨A, c, e, trivial⟩
  injection e with e1 e2 e3
  subst e2
  have hkeep : ∀ l u, OpsOwn w B l u → OpsOwn (w.setCell ⟨g, i, none⟩ (u : Value)) B l u ∨ True := fun _ _ _ => .inr trivial
  have hst := (h2.stored i u).1
  have hkk : ∀ l' u', OpsOwn w B l' u' → OpsOwn (w.setCell ⟨g, i, none⟩ u) B l' u' := fun l' u' h => h.keepS hk (fun q hq e => by
    have e : q = g := e
    obtain ⟨A', c', e', ho⟩ := h
    exact owns_apart ho h2 op_ne_row q hq (by rw [e]; rfl))
  refine ⟨⟨vs.set i u, by rw [List.length_set, List.length_set, h1], by rw [List.length_set]; exact hst, fun j hj => ?_⟩, hk⟩
  rw [List.length_set] at hj
  by_cases hji : j = i
  · subst hji
    rw [List.getD_eq_getElem?_getD, List.getD_eq_getElem?_getD, List.getElem?_set_self (by omega), List.getElem?_set_self (by omega)]
    exact hkk _ _ hu
  · rw [List.getD_eq_getElem?_getD, List.getD_eq_getElem?_getD, List.getElem?_set_ne (Ne.symm hji), List.getElem?_set_ne (Ne.symm hji), ← List.getD_eq_getElem?_getD, ← List.getD_eq_getElem?_getD]
    exact hkk _ _ (h3 j hj)
theorem RowsOwn.rowTyped {w : World} {B g n cap : Nat} {rows : List (List Ir.Op)} (h : RowsOwn w B (.slice (some ⟨g, 0, none⟩) n cap) rows) : ∃ cs, w.heap[g]? = some (.cells cs 40 (0, 0)) := by
  obtain ⟨vs, h1, h2, h3⟩ := h
  exact owns_typed h2 rfl
theorem plan_ne : 40 ≠ 48 ∧ 64 ≠ 48 := by decide
theorem RowsOwn.cellAt {w : World} {B g n cap : Nat} {rows : List (List Ir.Op)} (h : RowsOwn w B (.slice (some ⟨g, 0, none⟩) n cap) rows) (i : Nat) (hi : i < rows.length) : ∃ v, w.cell? ⟨g, i, none⟩ = some v ∧ w.frozen? ⟨g, i, none⟩ = false := by
  obtain ⟨vs, h1, h2, h3⟩ := h
  obtain ⟨A, c, e⟩ := owns_slice h2
  injection e with e1 e2 e3
  subst e2
  exact ⟨_, owns_cell h2 rfl hi (.slice none 0 0), h2.frozenAt i⟩
set_option maxHeartbeats 4000000 in
set_option maxRecDepth 100000 in
theorem copied_any (pc many : Int) (A : Option Addr) (n cap : Nat) (rows : List (List Ir.Op)) (w : World) (V : RowsAt w A n cap rows) (hn : n ≤ 1000) (hr : ∀ i, i < rows.length → (rows.getD i []).length < 1000000) :
    Calls Tryz.prog 31 #[.agg #[.int .u32 pc, .int .i64 many, .slice A n cap]] w fun e w' => ∃ g, e = .returned (.agg #[.int .u32 pc, .int .i64 many, .slice (some ⟨g, 0, none⟩) n n]) ∧ RowsOwn w' w.heap.size (.slice (some ⟨g, 0, none⟩) n n) rows ∧ Keeps (fun _ => False) w w' := by
  have HV := Lib.hid V
  have HL := Lib.hid V.len
  have HR := Lib.hid hr
  have hnc := V.le
  have HN := Lib.hid (show PlanBox ((w.alloc (.cells #[.int .u32 pc, .int .i64 many, .slice A n cap] 48)).alloc (.cells #[.int .u32 0, .int .i64 0, .slice none 0 0] 48)) w.heap.size pc many A n cap ∧ PlanBox ((w.alloc (.cells #[.int .u32 pc, .int .i64 many, .slice A n cap] 48)).alloc (.cells #[.int .u32 0, .int .i64 0, .slice none 0 0] 48)) (w.heap.size + 1) 0 0 none 0 0 from by
    have h1 := PlanBox.new w pc many A n cap
    have h2 := PlanBox.new (w.alloc (.cells #[.int .u32 pc, .int .i64 many, .slice A n cap] 48)) 0 0 none 0 0
    rw [nblk_alloc] at h2
    exact ⟨h1.keep ((Keeps.refl (fun _ => False) _).alloc _) (fun h => h), h2⟩)
  have HA := Lib.hid (((Keeps.refl (fun _ => False) w).alloc (.cells #[.int .u32 pc, .int .i64 many, .slice A n cap] 48)).alloc (.cells #[.int .u32 0, .int .i64 0, .slice none 0 0] 48))
  obtain ⟨B, hB⟩ : ∃ B, w.heap.size = B := ⟨_, rfl⟩
  rw [hB] at HN ⊢
  have HBE := Lib.hid hB
  clear V hr
  go_enter Tryz.func31, Tryz.ntmps31
  go_upto_region 1 with fail
  clear hB
  generalize (w.alloc _).alloc _ = w1 at *
  have HRBL := Lib.hid (show w.heap.size ≤ B + 1 from by have := HBE.out; omega)
  generalize B + 1 = rb at *
  obtain ⟨d0, d1, d2, _⟩ := HN.out.1.cells
  obtain ⟨w2, hmk, hro, hk2⟩ := made_rows w1 B n (by omega) (by rw [← HBE.out]; exact HA.out.size)
  have HRO := Lib.hid hro
  have HK2 := Lib.hid (HA.out.trans hk2 (fun _ _ h => h))
  have HN2 := Lib.hid (And.intro (HN.out.1.keep hk2 (fun h => h)) (HN.out.2.keep hk2 (fun h => h)))
  have HGB := Lib.hid (show B ≤ w1.heap.size from by rw [← HBE.out]; exact HA.out.size)
  clear hro hk2
  go_upto_region 2 with fail
  have HRT := Lib.hid (HRO.out.rowTyped)
  clear hmk d0 d1 d2
  obtain ⟨g, hg⟩ : ∃ g, w1.heap.size = g := ⟨_, rfl⟩
  rw [hg] at HRO HGB HRT ⊢
  clear hg
  obtain ⟨d0, d1, d2, _⟩ := HN2.out.1.cells
  go_wp2_with fail
  clear d0 d1 d2
  go_loopw [4, 5, 13] (fun _ _ s13 wr => ∃ i : Nat, i ≤ n ∧ s13 = .int .i64 i ∧ RowsOwn wr B (.slice (some ⟨g, 0, none⟩) n n) (rows.take i ++ List.replicate (n - i) []) ∧ Keeps (fun b => b = g) w2 wr) (fun _ _ s13 _ => n - (intOf s13).toNat)
  case atStart => exact ⟨0, by omega, rfl, HRO.out, Keeps.refl _ _⟩
  case round =>
    obtain ⟨i, hi, rfl, hO, hK⟩ := hrel
    have HO := Lib.hid hO
    have HK := Lib.hid hK
    clear hO hK
    have HKI := Lib.hid (show Keeps (fun _ => False) w wr from HK2.out.trans HK.out (fun b hb e => by have e : b = g := e; have := HGB.out; have := HBE.out; omega))
    by_cases hlt : i < n
    · obtain ⟨ob, oo, Ai, ci, rfl, e0, e1, e2⟩ := (HV.out.quiet HKI.out).get hlt
      have hil : i < rows.length := by rw [HL.out]; exact hlt
      have hi63 : (i : Int) < n := by omega
      have HSET := Lib.hid (show (rows.take i ++ List.replicate (n - i) []).set i (rows.getD i []) = rows.take (i + 1) ++ List.replicate (n - (i + 1)) [] by
        have hlt' : (rows.take i).length = i := by rw [List.length_take]; omega
        rw [show n - i = (n - (i + 1)) + 1 by omega, List.replicate_succ, List.set_append_right _ _ (by omega), hlt', Nat.sub_self, take_getD rows i hil [], List.append_assoc]
        rfl)
      have HRL := Lib.hid (HR.out i hil)
      have HLT := Lib.hid (show i < (rows.take i ++ List.replicate (n - i) []).length by rw [List.length_append, List.length_take, List.length_replicate]; omega)
      obtain ⟨lr, hlr⟩ : ∃ l, rows.getD i [] = l := ⟨_, rfl⟩
      rw [hlr] at e0 e1 HSET HRL
      clear hlr hil
      have HCL := Lib.hid (clone_any Ai lr.length ci lr wr e1 HRL.out)
      obtain ⟨ll, hll⟩ : ∃ x, lr.length = x := ⟨_, rfl⟩
      rw [hll] at e0 HCL
      clear hll e1 e2
      have HBW := Lib.hid (show B ≤ wr.heap.size by rw [← HBE.out]; exact HKI.out.size)
      go_wp2_with fail
      refine HCL.out.mono ?_
      rintro e w5 ⟨u, rfl, hou, hk5⟩
      obtain ⟨A5, c5, hu5, _⟩ := id hou
      obtain ⟨u5, hu6⟩ : ∃ x, lr.length = x := ⟨_, rfl⟩
      rw [hu6] at hu5
      subst hu5
      clear hu6
      have HO5 := Lib.hid (HO.out.quiet hk5)
      have hst := HO5.out.setAt i HLT.out lr _ (hou.base HBW.out)
      have HST := Lib.hid hst.1
      have HKS := Lib.hid (HK.out.trans ((hk5.mono (T := fun b => b = g) (fun _ _ h => h.elim)).trans hst.2 (fun _ _ h => h)) (fun _ _ h => h))
      have HCG := Lib.hid (HO5.out.cellAt i HLT.out)
      obtain ⟨cv, cg⟩ := HCG.out
      obtain ⟨cg1, cg2⟩ := cg
      clear hst hou hk5 e0
      go_wp2_with fail
      generalize World.setCell w5 _ _ = w6 at *
      go_roundw
      case rel => exact ⟨i + 1, by omega, by go_num, by rw [← HSET.out]; exact HST.out, HKS.out⟩
      case measure => simp [intOf]; omega
    · obtain rfl : i = n := by omega
      have HF := Lib.hid (show RowsOwn wr B (.slice (some ⟨g, 0, none⟩) i i) rows by
        have := HO.out
        rwa [Nat.sub_self, List.replicate_zero, List.append_nil, List.take_of_length_le (by rw [HL.out]; exact Nat.le_refl _)] at this)
      have HBW := Lib.hid (show PlanBox wr B pc many A i cap ∧ PlanBox wr rb 0 0 none 0 0 from by
        have hne : ∀ z pc many A n cap, PlanBox w2 z pc many A n cap → z ≠ g := fun z pc many A n cap h e => by
          obtain ⟨cs, h1⟩ := HRT.out
          rw [← e] at h1
          exact plan_ne.1 (obj_ty h1 h.blk)
        exact ⟨HN2.out.1.keep HK.out (fun e => hne _ _ _ _ _ _ HN2.out.1 e), HN2.out.2.keep HK.out (fun e => hne _ _ _ _ _ _ HN2.out.2 e)⟩)
      have HRB := Lib.hid (show rb ≠ g ∧ w.heap.size ≤ rb from ⟨fun e => by
        obtain ⟨cs, h1⟩ := HRT.out
        rw [← e] at h1
        exact plan_ne.1 (obj_ty h1 HN2.out.2.blk), HRBL.out⟩)
      obtain ⟨d0, d1, d2, _⟩ := HBW.out.1.cells
      obtain ⟨p0, p1, p2, g0, g1, g2⟩ := HBW.out.2.cells
      obtain ⟨hp1, hp2⟩ := HBW.out.2.put (pc' := pc) (many' := many) (A' := some ⟨g, 0, none⟩) (n' := i) (cap' := i)
      have HP := Lib.hid hp1
      have HPK := Lib.hid hp2
      have HF2 := Lib.hid (HF.out.keepP hp2 (fun q c t fz hq ht e => by
        have e : q = rb := e
        rw [e] at hq
        have h := obj_ty hq HBW.out.2.blk
        rcases ht with ht | ht
        · exact plan_ne.1 (ht.symm.trans h)
        · exact plan_ne.2 (ht.symm.trans h)))
      have HKF := Lib.hid (HKI.out.trans hp2 (fun b hb e => by have e : b = rb := e; have := HRB.out.2; omega))
      clear hp1 hp2
      go_wp2_with fail
      refine bodyPost_ret (results_cell_row rfl _ _ rb 48 (codeC pc many (some ⟨g, 0, none⟩) i i) (0, 0) _ rfl HP.out.blk Tryz.underlying48 rfl size_plan) rfl ?_
      exact ⟨g, rfl, HF2.out, HKF.out⟩
end Go.Proofs.YtlmnmncdoiealaaGreatDoor

/- KeepI -/
/- The walk of slices.Clone over numbers. -/
namespace Go.Proofs.YtlmnmncdoiealaaGreatDoor
open Go.RowKit Go.Deep
set_option linter.unusedVariables false
set_option linter.unusedSimpArgs false

def intL (l : List Int) : List Value := l.map fun x => .int .i64 x
theorem Tryz.info_i : (Tryz.prog.info? 3).map (fun i => (i.zero, i.size, i.bytes)) = some (some (.int .i64 0), 1, 8) := by kernel_rfl
theorem intL_one (l : List Int) : ∀ v ∈ intL l, v.oneCell' = true := by
  intro v hv
  obtain ⟨x, _, rfl⟩ := List.mem_map.1 hv
  rfl
theorem Reads.at_int {w : World} {A : Option Addr} {n cap : Nat} {l : List Int} (h : Reads w A n cap (fun i => .int .i64 (l.getD i 0))) (hn : n = l.length) {ad : Addr} (ha : A = some ad) : ∀ j u, (intL l)[j]? = some u → w.cell? (ad.add j) = some u := by
  intro j u hu
  have hj : j < l.length := by
    have := (List.getElem?_eq_some_iff.1 hu).1
    unfold intL at this
    rwa [List.length_map] at this
  unfold intL at hu
  rw [List.getElem?_map, List.getElem?_eq_getElem hj] at hu
  obtain ⟨h1, h2 | ⟨b, o, rfl, hb, hc⟩⟩ := h
  · omega
  · injection ha with ha
    subst ha
    have := hc j (by omega)
    dsimp only at this
    rw [List.getD_eq_getElem?_getD, List.getElem?_eq_getElem hj] at this
    rw [Addr.add_lit, this]
    simpa using hu
set_option maxHeartbeats 2000000 in
set_option maxRecDepth 100000 in
theorem cloneI_any (A : Option Addr) (n cap : Nat) (l : List Int) (w : World) (V : Reads w A n cap (fun i => .int .i64 (l.getD i 0))) (hl : n = l.length) (hn : n < 1000000) (hA : A = none → cap = 0) :
    Calls Tryz.prog 32 #[.slice A n cap] w fun e w' => ∃ v', e = .returned v' ∧ IOwn w' w.heap.size l v' ∧ Keeps (fun _ => False) w w' := by
  obtain ⟨i0, hi, hz0, hz1, hz2⟩ := info_parts Tryz.info_i
  have hnc := V.1
  by_cases h0 : A = none
  · have hcap := hA h0
    subst h0
    obtain rfl : n = 0 := by omega
    subst hcap
    have hln : l = [] := List.eq_nil_of_length_eq_zero hl.symm
    subst hln
    clear V hl hnc hA
    have hq := fun w => Lib.run_eql_slice_nil (P := Tryz.prog) w 36 3 none 0 0 0 0 Tryz.underlying36
    go_enter Tryz.func32, Tryz.ntmps32
    go_wp2_with fail
    go_ret
    exact ⟨_, rfl, ⟨none, 0, rfl, World.ownsRow_nil _ _ _ _⟩, Keeps.refl _ _⟩
  · obtain ⟨ad, rfl⟩ : ∃ ad, A = some ad := by cases A with | none => exact absurd rfl h0 | some a => exact ⟨a, rfl⟩
    clear h0 hA
    have HN := Lib.hid (show ∀ j u, (intL l)[j]? = some u → (w.alloc (.cells #[] 3)).cell? (ad.add j) = some u from fun j u hu => by
      have := V.at_int hl rfl j u hu
      obtain ⟨h1, h2 | ⟨b, o, hb, _⟩⟩ := V
      · have hj := (List.getElem?_eq_some_iff.1 hu).1
        unfold intL at hj
        rw [List.length_map] at hj
        omega
      · injection hb with hb
        subst hb
        rw [Addr.add_lit] at this ⊢
        exact cell_alloc this _)
    clear V
    have hq := fun w => Lib.run_eql_slice_nil (P := Tryz.prog) w 36 3 (some ad) n cap 0 0 Tryz.underlying36
    have hmx : 0 + n ≤ maxLen := by unfold maxLen; omega
    have hlen : (intL l).length = n * 1 := by unfold intL; rw [List.length_map]; omega
    have h1 := intL_one l
    have HL := Lib.hid hl
    clear hl
    go_enter Tryz.func32, Tryz.ntmps32
    go_wp2_with (at_builtin; go_loud (refine wpList_append_own _ rfl _ _ 36 rfl w.heap.size 3 i0 _ 1 8 Tryz.underlying36 hi hz0 hz1 hz2 rfl (by decide) (.slice (some ⟨w.heap.size, 0, none⟩) 0 0) 0 [] rfl ?c0 ad n cap (intL l) rfl hlen HN.out h1 hmx (by omega) ?c5 ?c6))
    case c0 => exact ⟨rfl, .inr ⟨w.heap.size, 0, #[], rfl, Nat.le_refl _, blk_alloc_new _ _, Nat.le_refl _, Nat.zero_le _, rfl, rfl⟩⟩
    case c5 => simp
    case c6 =>
      intro v' w1 hown hgrow hnil
      obtain ⟨A', cap', rfl⟩ := owns_slice hown
      have hK : Keeps (fun _ => False) w w1 := ((Keeps.refl _ w).alloc (.cells #[] 3)).grown hgrow (fun k hk => by simp [Value.ownBlock] at hk; omega)
      have HO := Lib.hid (show IOwn w1 w.heap.size l (.slice A' n cap') from by
        have hl := HL.out
        subst hl
        exact ⟨A', cap', rfl, by simpa [intL] using hown⟩)
      clear hown
      go_wp2
      go_ret
      exact ⟨_, rfl, HO.out, hK⟩
end Go.Proofs.YtlmnmncdoiealaaGreatDoor

/- KeepS -/
/- The walks of keep's find. -/
namespace Go.Proofs.YtlmnmncdoiealaaGreatDoor
open Go.RowKit Go.Deep
set_option linter.unusedVariables false
set_option linter.unusedSimpArgs false

theorem find1_call (k : K4) (gb : Nat) (pc : Int) (W : World) (h : W.heap[gb]? = some (.cells #[.int .u32 pc] 34 (0, 0))) :
    Calls Tryz.prog 52 #[.agg (kC k), .pointer (some ⟨gb, 0, none⟩)] W fun e w' => e = .returned (.bool (k.pc == pc)) ∧ Keeps (fun _ => False) W w' := by
  have HB := Lib.hid h
  have HXB := Lib.hid (blk_alloc_new W (.cells #[.int .u32 k.pc, .int .i64 k.many, .slice k.A k.n k.c, .slice k.P k.pn k.pcap] 77))
  have HXK := Lib.hid ((Keeps.refl (fun _ => False) W).alloc (.cells #[.int .u32 k.pc, .int .i64 k.many, .slice k.A k.n k.c, .slice k.P k.pn k.pcap] 77))
  unfold kC
  clear h
  go_enter Tryz.func52, Tryz.ntmps52
  go_upto_region 1 with fail
  have HB1 := Lib.hid ((HXK.out.block gb (Array.getElem?_eq_some_iff.1 HB.out).1 (fun h => h)).trans HB.out)
  generalize W.alloc _ = w1 at *
  generalize W.heap.size = x at *
  have x0 : w1.cell? ⟨x, 0, none⟩ = some (.int .u32 k.pc) := cell_atK HXB.out 0
  have d0 : w1.cell? ⟨gb, 0, none⟩ = some (.int .u32 pc) := cell_atK HB1.out 0
  go_wp2_with fail
  go_ret
  exact ⟨rfl, HXK.out⟩
theorem find1_pred (l : List K4) (gb : Nat) (pc : Int) : PredK 52 #[.pointer (some ⟨gb, 0, none⟩)] (fun k => k.pc == pc) l (fun _ _ => False) (fun _ W => W.heap[gb]? = some (.cells #[.int .u32 pc] 34 (0, 0))) where
  call := fun done k W _ _ h => (find1_call k gb pc W h).mono fun e w' hh => ⟨hh.1, (hh.2.block gb (Array.getElem?_eq_some_iff.1 h).1 (fun h => h)).trans h, hh.2⟩
  ty := fun _ _ _ _ _ _ _ h => h
  quiet := fun _ W W' k h => (k.block gb (Array.getElem?_eq_some_iff.1 h).1 (fun h => h)).trans h
/-- what find answers -/
def FindIs (l : List K4) (pc : Int) (w : World) (e : Ending) (w' : World) : Prop :=
  ((∃ i, i < l.length ∧ ((l.getD i k40).pc == pc) = true ∧ (∀ j, j < i → ((l.getD j k40).pc == pc) = false) ∧ e = .returned (.int .i64 (i : Int))) ∨ ((∀ j, j < l.length → ((l.getD j k40).pc == pc) = false) ∧ e = .returned (.int .i64 (-1)))) ∧ Keeps (fun _ => False) w w'
set_option maxHeartbeats 4000000 in
set_option maxRecDepth 100000 in
theorem keepFind_any (B kb : Nat) (mx : Int) (l : List K4) (pg : K4 → List Int) (rw : K4 → List (List Ir.Op)) (pc : Int) (w : World) (K : KeepAt w B kb mx l pg rw) (hl : l.length ≤ 100000) :
    Calls Tryz.prog 35 #[.pointer (some ⟨kb, 0, none⟩), .int .u32 pc] w (FindIs l pc w) := by
  have HLT := Lib.hid K.lt
  have HLN := Lib.hid hl
  have HA := Lib.hid ((Keeps.refl (fun _ => False) w).alloc (.cells #[.int .u32 pc] 34))
  have HB0 := Lib.hid (blk_alloc_new w (.cells #[.int .u32 pc] 34))
  obtain ⟨v, hb, hko⟩ := K.box
  obtain ⟨A, cap, hv, _⟩ := id hko
  obtain ⟨n, hn⟩ : ∃ n, l.length = n := ⟨_, rfl⟩
  rw [hn] at hv
  subst hv
  have HBX := Lib.hid hb
  have HKO := Lib.hid hko
  have HLE := Lib.hid hn
  have HANS := Lib.hid (fun (e : Ending) (w' : World) (h : ((∃ i, i < l.length ∧ ((l.getD i k40).pc == pc) = true ∧ (∀ j, j < i → ((l.getD j k40).pc == pc) = false) ∧ e = .returned (.int .i64 (i : Int))) ∨ ((∀ j, j < l.length → ((l.getD j k40).pc == pc) = false) ∧ e = .returned (.int .i64 (-1)))) ∧ Keeps (fun _ => False) w w') => (show FindIs l pc w e w' from h))
  clear K hl hb hko hn
  go_enter Tryz.func35, Tryz.ntmps35
  go_upto_region 1 with fail
  have HKO1 := Lib.hid (HKO.out.quiet HA.out)
  have HBX1 := Lib.hid ((HA.out.block kb HLT.out (fun h => h)).trans HBX.out)
  generalize w.alloc _ = w1 at *
  generalize w.heap.size = gb at *
  have c0 : w1.cell? ⟨kb, 1, none⟩ = some (.slice A n cap) := cell_atK HBX1.out 1
  have HIX := Lib.hid (indexK_any 52 #[.pointer (some ⟨gb, 0, none⟩)] (fun k => k.pc == pc) (fun _ _ => False) (fun _ => False) (fun _ W => W.heap[gb]? = some (.cells #[.int .u32 pc] 34 (0, 0))) (enters_of Tryz.func52 (by kernel_rfl) rfl) B A n cap l w1 HKO1.out HLE.out (by have := HLN.out; have := HLE.out; omega) (find1_pred l gb pc) HB0.out (fun _ _ _ _ h => h.elim))
  go_wp2_with fail
  refine HIX.out.mono ?_
  rintro e w2 (⟨i, hi, h1, h2, rfl, _, _, hk⟩ | ⟨hno, rfl, _, _, hk⟩)
  · have HF := Lib.hid (And.intro hi (And.intro h1 h2))
    have HK2 := Lib.hid (HA.out.trans hk (fun _ _ h => h))
    clear hi h1 h2 hk c0
    go_wp2_with fail
    go_ret
    exact HANS.out _ _ ⟨.inl ⟨i, HF.out.1, HF.out.2.1, HF.out.2.2, rfl⟩, HK2.out⟩
  · have HF := Lib.hid hno
    have HK2 := Lib.hid (HA.out.trans hk (fun _ _ h => h))
    clear hno hk c0
    go_wp2_with fail
    go_ret
    exact HANS.out _ _ ⟨.inr ⟨HF.out, rfl⟩, HK2.out⟩
end Go.Proofs.YtlmnmncdoiealaaGreatDoor

/- RkL -/
/- The reference's keep as it lies: rows of its entries. -/
namespace Go.Proofs.YtlmnmncdoiealaaGreatDoor
open Go.RowKit Go.Deep
set_option linter.unusedVariables false
set_option linter.unusedSimpArgs false

theorem Tryz.info_rkept : (Tryz.prog.info? 51).map (fun i => (i.zero, i.size, i.bytes)) = some (some (.agg #[.int .u32 0, .int .i64 0, .slice none 0 0, .slice none 0 0]), 4, 64) := by kernel_rfl
theorem rk_ne : 51 ≠ 33 ∧ 51 ≠ 77 ∧ 51 ≠ 67 ∧ 33 ≠ 77 ∧ 33 ≠ 67 := by decide
/-- a row of the reference's entries, of the call's own -/
def ROwn (w : World) (B : Nat) (l : List K4) (v : Value) : Prop := ∃ A cap, v = .slice A l.length cap ∧ w.ownsRow B 51 4 v l.length (kL l)
theorem ROwn.keep {S : Nat → Prop} {w w' : World} {B : Nat} {l : List K4} {v : Value} (h : ROwn w B l v) (k : Keeps S w w') (hs : ∀ g, v.ownBlock = some g → ¬ S g) : ROwn w' B l v := by
  obtain ⟨A, cap, rfl, ho⟩ := h
  exact ⟨A, cap, rfl, owns_keep ho k hs⟩
theorem ROwn.quiet {w w' : World} {B : Nat} {l : List K4} {v : Value} (h : ROwn w B l v) (k : Keeps (fun _ => False) w w') : ROwn w' B l v := h.keep k (fun _ _ h => h)
theorem ROwn.nil (w : World) (B : Nat) : ROwn w B [] (.slice none 0 0) := ⟨none, 0, rfl, World.ownsRow_nil _ _ _ _⟩
theorem ROwn.low {w : World} {B : Nat} {l : List K4} {v : Value} (h : ROwn w B l v) : ∀ g, v.ownBlock = some g → B ≤ g ∧ g < w.heap.size := by
  obtain ⟨A, cap, rfl, ho⟩ := h
  exact fun g hg => ho.lt g hg
theorem ROwn.typed {w : World} {B : Nat} {l : List K4} {v : Value} (h : ROwn w B l v) : ∀ g, v.ownBlock = some g → ∃ cs, w.heap[g]? = some (.cells cs 51 (0, 0)) := fun g hg => by
  obtain ⟨A, cap, rfl, ho⟩ := h
  exact owns_typed ho hg
set_option maxRecDepth 100000 in
/-- AN ENTRY APPENDED -/
theorem wpList_append_r {w : World} {ops : Array Oper} {rest : List Oper} {o : Oper} {a : Act} {Q : Exit → Act → World → Prop} (hgd : o.guard = none) (s x : Operand)
    (ho : o.op = .call { callee := .builtin .append, args := #[s, x], argTypes := #[31, 31] }) (B : Nat) (l1 : List K4) (v : Value) (hs : a.eval s = v) (h1 : ROwn w B l1 v)
    (g : Nat) (p : K4) (hx : a.eval x = .slice (some ⟨g, 0, none⟩) 1 1) (V2 : ∀ j u, (kC p).toList[j]? = some u → w.cell? ((⟨g, 0, none⟩ : Addr).add j) = some u) (hb : l1.length ≤ 1000000) (hbase : B ≤ w.heap.size)
    (h : ∀ v' w', ROwn w' B (l1 ++ [p]) v' → Keeps (fun k => v.ownBlock = some k) w w' → wpList Tryz.prog ops Q rest (a.put o.dst v') w') : wpList Tryz.prog ops Q (o :: rest) a w := by
  obtain ⟨i0, hi, hz0, hz1, hz2⟩ := info_parts Tryz.info_rkept
  obtain ⟨A1, c1, rfl, ho1⟩ := h1
  refine wpList_append_mine hgd s x 31 ho B 51 i0 _ 4 64 Tryz.underlying31 hi hz0 hz1 hz2 rfl (by decide) (.slice A1 l1.length c1) l1.length (kL l1) hs ho1 ⟨g, 0, none⟩ 1 1 (kC p).toList hx rfl V2 (kC_one p) (by unfold maxLen; omega) (by omega) hbase ?_
  intro v' w' hown hgrow hmv
  obtain ⟨A', cap', rfl⟩ := owns_slice hown
  refine h _ _ ⟨A', cap', by rw [List.length_append, List.length_singleton], ?_⟩ ((Keeps.refl _ w).grown hgrow (fun k hk _ => hk))
  rw [kL_snoc, List.length_append, List.length_singleton]
  exact hown
/-- the reference's entries, to be read -/
structure KReads (w : World) (A : Option Addr) (n cap : Nat) (l : List K4) : Prop where
  len : l.length = n
  le : n ≤ cap ∧ cap ≤ 9223372036854775807
  lies : n = 0 ∨ ∃ b o, A = some ⟨b, o, none⟩ ∧ (∃ cs fz, w.heap[b]? = some (.cells cs 51 fz)) ∧ ∀ i, i < n → ∀ q u, q < 4 → (kC (l.getD i k40))[q]? = some u → w.cell? ⟨b, o + i * 4 + q, none⟩ = some u
theorem KReads.keep {S : Nat → Prop} {w w' : World} {A : Option Addr} {n cap : Nat} {l : List K4} (h : KReads w A n cap l) (k : Keeps S w w') (hs : ∀ g cs fz, w.heap[g]? = some (.cells cs 51 fz) → ¬ S g) : KReads w' A n cap l := by
  obtain ⟨h1, h2, h3 | ⟨b, o, h4, ⟨cs, fz, h5⟩, h6⟩⟩ := h
  · exact ⟨h1, h2, .inl h3⟩
  · exact ⟨h1, h2, .inr ⟨b, o, h4, ⟨cs, fz, (k.block b (Array.getElem?_eq_some_iff.1 h5).1 (hs b cs fz h5)).trans h5⟩, fun i hi q u hq hu => k.cell' (h6 i hi q u hq hu) (hs b cs fz h5)⟩⟩
theorem KReads.quiet {w w' : World} {A : Option Addr} {n cap : Nat} {l : List K4} (h : KReads w A n cap l) (k : Keeps (fun _ => False) w w') : KReads w' A n cap l := h.keep k (fun _ _ _ _ h => h)
theorem KReads.get {w : World} {A : Option Addr} {n cap : Nat} {l : List K4} (h : KReads w A n cap l) {i : Nat} (hi : i < n) :
    ∃ b o, A = some ⟨b, o, none⟩ ∧ ∀ q u, q < 4 → (kC (l.getD i k40))[q]? = some u → w.cell? ⟨b, o + i * 4 + q, none⟩ = some u := by
  obtain ⟨h1, h2, h3 | ⟨b, o, h4, h5, h6⟩⟩ := h
  · omega
  · exact ⟨b, o, h4, h6 i hi⟩
theorem ROwn.reads {w : World} {B : Nat} {l : List K4} {A : Option Addr} {n cap : Nat} (h : ROwn w B l (.slice A n cap)) : KReads w A n cap l := by
  have hty := h.typed
  obtain ⟨A1, c1, e, ho⟩ := h
  injection e with e1 e2 e3
  subst e1 e2 e3
  have hcap : cap ≤ 9223372036854775807 ∧ l.length ≤ cap := by
    obtain ⟨_, ⟨h2, h3⟩ | ⟨g, cap', cur, h2, h3, h4, h5, h6, h7, h8⟩⟩ := ho
    · injection h2 with e1 e2 e3
      omega
    · injection h2 with e1 e2 e3
      subst e3
      unfold maxLen at h6
      omega
  refine ⟨rfl, ⟨hcap.2, hcap.1⟩, ?_⟩
  obtain ⟨_, ⟨h2, h3⟩ | ⟨g, cap', cur, h2, h3, h4, h5, h6, h7, h8⟩⟩ := ho
  · injection h2 with e1 e2 e3
    exact .inl e2
  · injection h2 with e1 e2 e3
    subst e1 e3
    refine .inr ⟨g, 0, rfl, ⟨_, _, h4⟩, fun i hi q u hq hu => ?_⟩
    rw [Nat.zero_add]
    have e := kL_get l i q hi hq
    rw [hu, ← h8, List.getElem?_take_of_lt (by omega)] at e
    unfold World.cell?
    rw [h4]
    simpa using e
/-- less the first -/
theorem KReads.tail {w : World} {b o n cap : Nat} {l : List K4} (h : KReads w (some ⟨b, o, none⟩) n cap l) (h0 : 0 < n) : KReads w (some ⟨b, o + 4, none⟩) (n - 1) (cap - 1) (l.eraseIdx 0) := by
  obtain ⟨h1, h2, h3 | ⟨b2, o2, h4, h5, h6⟩⟩ := h
  · omega
  · injection h4 with h4
    injection h4 with e1 e2 _
    subst e1 e2
    refine ⟨by rw [List.length_eraseIdx_of_lt (by omega)]; omega, by omega, .inr ⟨b, o + 4, rfl, h5, fun i hi q u hq hu => ?_⟩⟩
    have e : (l.eraseIdx 0).getD i k40 = l.getD (i + 1) k40 := by
      cases l with
      | nil => simp at h1; omega
      | cons a r => simp
    rw [e] at hu
    have := h6 (i + 1) (by omega) q u hq hu
    rwa [show o + (i + 1) * 4 + q = o + 4 + i * 4 + q by omega] at this
/-- the reference's keep -/
structure RefKeep (w : World) (mb : Nat) (mx : Int) (L : List K4) : Prop where
  box : ∃ A n cap, w.heap[mb]? = some (.cells #[.int .i64 mx, .slice A n cap] 33 (0, 0)) ∧ KReads w A n cap L
def RKT (t : TypeId) : Prop := t = 51 ∨ t = 33
theorem RefKeep.keep {S : Nat → Prop} {w w' : World} {mb : Nat} {mx : Int} {L : List K4} (h : RefKeep w mb mx L) (k : Keeps S w w') (hs : ∀ g cs t fz, w.heap[g]? = some (.cells cs t fz) → RKT t → ¬ S g) : RefKeep w' mb mx L := by
  obtain ⟨A, n, cap, h1, h2⟩ := h.box
  exact ⟨A, n, cap, (k.block mb (Array.getElem?_eq_some_iff.1 h1).1 (hs _ _ _ _ h1 (.inr rfl))).trans h1, h2.keep k (fun g cs fz hg => hs g cs _ fz hg (.inl rfl))⟩
theorem RefKeep.quiet {w w' : World} {mb : Nat} {mx : Int} {L : List K4} (h : RefKeep w mb mx L) (k : Keeps (fun _ => False) w w') : RefKeep w' mb mx L := h.keep k (fun _ _ _ _ _ _ h => h)
theorem RefKeep.lt {w : World} {mb : Nat} {mx : Int} {L : List K4} (h : RefKeep w mb mx L) : mb < w.heap.size := by
  obtain ⟨A, n, cap, h1, h2⟩ := h.box
  exact (Array.getElem?_eq_some_iff.1 h1).1
/-- its list written anew -/
theorem RefKeep.put {w : World} {mb n cap : Nat} {mx : Int} {L' : List K4} {A : Option Addr} (hb : ∃ v, w.heap[mb]? = some (.cells #[.int .i64 mx, v] 33 (0, 0))) (hr : KReads w A n cap L') :
    RefKeep (w.setCell ⟨mb, 1, none⟩ (.slice A n cap)) mb mx L' ∧ Keeps (· = mb) w (w.setCell ⟨mb, 1, none⟩ (.slice A n cap)) := by
  obtain ⟨v, hb⟩ := hb
  have hks := Keeps.one w mb 1 (.slice A n cap)
  refine ⟨⟨A, n, cap, ?_, hr.keep hks (fun g cs fz hg e => ?_)⟩, hks⟩
  · have := set_block hb 1 (.slice A n cap)
    simpa using this
  · have e : g = mb := e
    rw [e] at hg
    exact rk_ne.1 (obj_ty hg hb)
end Go.Proofs.YtlmnmncdoiealaaGreatDoor
