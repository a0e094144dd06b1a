import Derived.Test.YtlmnmncdoiealaaDoorKdz14
import Derived.Test.YtlmnmncdoiealaaDoorKdz10
import Derived.Laws.MakeOwn
import Derived.Laws.AppendOwn
import Derived.OwnWalk
import Derived.Lib.Slices

/- KeepN -/
/- The walks of keep's New, PCs. -/
namespace Go.Proofs.YtlmnmncdoiealaaDoor
open Go.RowKit Go.Deep
set_option linter.unusedVariables false
set_option linter.unusedSimpArgs false

theorem keepNew_any (mx : Int) (pg : K4 → List Int) (rw : K4 → List (List Ir.Op)) (w : World) (h1 : 1 ≤ mx) (h2 : mx ≤ 40) :
    Calls Tryd.prog 6 #[.int .i64 mx] w fun e w' => ∃ kb, e = .returned (.tuple #[.pointer (some ⟨kb, 0, none⟩), .nilIface]) ∧ KeepAt w' w.heap.size kb mx [] pg rw ∧ Keeps (fun _ => False) w w' := by
  have ha : decide (mx < 1) = false := decide_eq_false (by omega)
  have hb : decide (40 < mx) = false := decide_eq_false (by omega)
  have HK := Lib.hid ((Keeps.refl (fun _ => False) w).alloc (.cells #[.int .i64 mx, .slice none 0 0] 72))
  have HA := Lib.hid (show KeepAt (w.alloc (.cells #[.int .i64 mx, .slice none 0 0] 72)) w.heap.size w.heap.size mx [] pg rw from ⟨⟨_, blk_alloc_new _ _, KOwn.nil _ _⟩, fun k hk => (by cases hk), Nat.le_refl _⟩)
  go_enter Tryd.func6, Tryd.ntmps6
  go_wp2_with fail
  go_ret2
  exact ⟨_, rfl, HA.out, HK.out⟩
set_option maxHeartbeats 4000000 in
set_option maxRecDepth 100000 in
theorem keepPCs_any (B kb : Nat) (mx : Int) (l : List K4) (pg : K4 → List Int) (rw : K4 → List (List Ir.Op)) (w : World) (K : KeepAt w B kb mx l pg rw) (hl : l.length ≤ 100000) :
    Calls Tryd.prog 8 #[.pointer (some ⟨kb, 0, none⟩)] w fun e w' => ∃ v, e = .returned v ∧ UOwn w' w.heap.size (l.map K4.pc) v ∧ Keeps (fun _ => False) w w' := by
  have HK := Lib.hid K
  obtain ⟨v, hb, hko⟩ := K.box
  obtain ⟨A, cap, hv, _⟩ := id hko
  obtain ⟨n, hn⟩ : ∃ n, l.length = n := ⟨_, rfl⟩
  rw [hn] at hv
  subst hv
  have HBX := Lib.hid hb
  have HKO := Lib.hid hko
  have HLE := Lib.hid hn
  have hnb : n ≤ 100000 := by omega
  have HLN := Lib.hid hnb
  obtain ⟨H, hH⟩ : ∃ H, w.heap.size = H := ⟨_, rfl⟩
  have HHE := Lib.hid hH
  rw [hH]
  clear K hl hb hko hn hH
  go_enter Tryd.func8, Tryd.ntmps8
  have c0 : w.cell? ⟨kb, 1, none⟩ = some (.slice A n cap) := cell_atK HBX.out 1
  go_wp2_with fail
  clear c0
  go_loopw [3, 11] (fun s3 s11 wr => ∃ i : Nat, i ≤ n ∧ s11 = .int .i64 i ∧ UOwn wr H ((l.take i).map K4.pc) s3 ∧ Keeps (fun _ => False) w wr) (fun _ s11 _ => n - (intOf s11).toNat)
  case atStart => exact ⟨0, by omega, rfl, UOwn.nil _ _, Keeps.refl _ _⟩
  case round =>
    obtain ⟨i, hi, rfl, hU, hK⟩ := hrel
    have HU := Lib.hid hU
    have HKK := Lib.hid hK
    clear hU hK
    by_cases hlt : i < n
    · have hil : i < l.length := by rw [HLE.out]; exact hlt
      obtain ⟨g, go, cg, hvg, hgo, hcell⟩ := (HKO.out.quiet HKK.out).get (i := i) hil
      clear hgo
      rw [HLE.out] at hvg
      injection hvg with e1 e2 e3
      subst e1 e3
      have hi63 : (i : Int) < n := by omega
      have HTK := Lib.hid (take_getD l i hil k40)
      obtain ⟨k, hk⟩ : ∃ k, l.getD i k40 = k := ⟨_, rfl⟩
      rw [hk] at hcell HTK
      clear hk hil
      have e0 : wr.cell? ⟨g, go + i * 4, none⟩ = some (.int .u32 k.pc) := hcell 0 _ (by omega) rfl
      have e1 : wr.cell? ⟨g, go + i * 4 + 1, none⟩ = some (.int .i64 k.many) := hcell 1 _ (by omega) rfl
      have e2 : wr.cell? ⟨g, go + i * 4 + 2, none⟩ = some (.slice k.A k.n k.c) := hcell 2 _ (by omega) rfl
      have e3 : wr.cell? ⟨g, go + i * 4 + 3, none⟩ = some (.slice k.P k.pn k.pcap) := hcell 3 _ (by omega) rfl
      have HXB := Lib.hid (blk_alloc_new wr (.cells #[.int .u32 k.pc, .int .i64 k.many, .slice k.A k.n k.c, .slice k.P k.pn k.pcap] 76))
      have HXK := Lib.hid ((Keeps.refl (fun _ => False) wr).alloc (.cells #[.int .u32 k.pc, .int .i64 k.many, .slice k.A k.n k.c, .slice k.P k.pn k.pcap] 76))
      go_upto_region 5 with fail
      have HK1 := Lib.hid (HKK.out.trans HXK.out (fun _ _ h => h))
      have HU1 := Lib.hid (HU.out.keep HXK.out (fun _ _ h => h))
      clear HXK HU HKK e0 e1 e2 e3 hcell
      generalize wr.alloc _ = w1 at *
      generalize wr.heap.size = x at *
      have x0 : w1.cell? ⟨x, 0, none⟩ = some (.int .u32 k.pc) := cell_atK HXB.out 0
      have HMN := Lib.hid (show (l.take (i + 1)).map K4.pc = (l.take i).map K4.pc ++ [k.pc] by rw [HTK.out, List.map_append]; rfl)
      have hll : ((l.take i).map K4.pc).length ≤ 1000000 := by rw [List.length_map, List.length_take]; have := HLN.out; omega
      obtain ⟨ul, hul⟩ : ∃ x, (l.take i).map K4.pc = x := ⟨_, rfl⟩
      rw [hul] at HU1 HMN hll
      have HFL := Lib.hid hll
      clear hul hll
      obtain ⟨A5, c5, hv5, _⟩ := id HU1.out
      obtain ⟨un, hun⟩ : ∃ x, ul.length = x := ⟨_, rfl⟩
      rw [hun] at hv5
      subst hv5
      clear hun
      have HKA := Lib.hid ((Keeps.refl (fun _ => False) w1).alloc (.cells #[.int .u32 k.pc] 29))
      have HCN := Lib.hid (fun j u hj => cells_new w1 [.int .u32 k.pc] 29 j u hj)
      have HUA := Lib.hid (HU1.out.keep HKA.out (fun _ _ h => h))
      have HBS := Lib.hid (show H ≤ (w1.alloc (.cells #[.int .u32 k.pc] 29)).heap.size by rw [nblk_alloc, ← HHE.out]; have := HK1.out.size; omega)
      have HOWN := Lib.hid (show ∀ b, (Value.slice A5 un c5).ownBlock = some b → H ≤ b from fun b hb => by
        obtain ⟨A, c, e, ho⟩ := HU1.out
        rw [e] at hb ho
        exact (ho.lt b hb).1)
      go_wp2_with (at_builtin; go_loud (refine wpList_append_u rfl _ _ rfl H ul (.slice A5 un c5) rfl HUA.out w1.heap.size k.pc rfl HCN.out HFL.out HBS.out ?c0))
      case c0 =>
        intro v' w4 hown hk4
        have HU4 := Lib.hid (show UOwn w4 H ((l.take (i + 1)).map K4.pc) v' by rw [HMN.out]; exact hown)
        have HK4 := Lib.hid (show Keeps (fun _ => False) w w4 from (HK1.out.trans HKA.out (fun _ _ h => h)).trans hk4 (fun b hb h => by
          have := HOWN.out b h
          have := HHE.out
          omega))
        clear hown hk4 x0
        go_wp2_with fail
        go_roundw
        case rel => exact ⟨i + 1, by omega, by go_num, HU4.out, HK4.out⟩
        case measure => simp [intOf]; omega
    · obtain rfl : i = n := by omega
      have HF := Lib.hid (show UOwn wr H (l.map K4.pc) _ from by
        have := HU.out
        rwa [List.take_of_length_le (by rw [HLE.out]; exact Nat.le_refl _)] at this)
      go_wp2_with fail
      go_ret
      exact ⟨_, rfl, HF.out, HKK.out⟩
end Go.Proofs.YtlmnmncdoiealaaDoor

/- KeepC -/
/- The walk of keep's copied. -/
namespace Go.Proofs.YtlmnmncdoiealaaDoor
open Go.RowKit Go.Deep
set_option linter.unusedVariables false
set_option linter.unusedSimpArgs false

theorem made_nil (k : Nat) : ∀ j, ((madeCells (Value.slice none 0 0).cells k).toList).getD j (.slice none 0 0) = .slice none 0 0 := by
  intro j
  have hc : (Value.slice none 0 0).cells = #[.slice none 0 0] := rfl
  rw [hc]
  rw [List.getD_eq_getElem?_getD]
  cases h : (madeCells #[Value.slice none 0 0] k).toList[j]? with
  | none => rfl
  | some v =>
    have hm := List.mem_of_getElem? h
    unfold madeCells at hm
    simp at hm
    obtain ⟨_, _, rfl⟩ := hm
    simp [Nat.mod_one]
/-- rows that are made: each is empty -/
theorem made_rows (w : World) (B n : Nat) (hn : n ≤ 100000) (hB : B ≤ w.heap.size) : ∃ w', (Instr.makeSlice 30 (.int .i64 (n : Int)) (.int .i64 (n : Int))).run Tryd.prog w = .ok (.slice (some ⟨w.heap.size, 0, none⟩) n n) w' ∧
    RowsOwn w' B (.slice (some ⟨w.heap.size, 0, none⟩) n n) (List.replicate n []) ∧ Keeps (fun _ => False) w w' := by
  obtain ⟨i0, hinf, hz0, hz1, hz2⟩ := info_parts Tryd.info_rowO
  obtain ⟨w', h1, h2, h3⟩ := run_makeSlice_full (P := Tryd.prog) (w := w) B 30 36 i0 _ 1 Tryd.underlying30 hinf hz0 hz1 .i64 .i64 n (by omega) (by rw [hz2]; omega) (by unfold maxLen; omega) hB
  refine ⟨w', h1, ⟨_, ?_, by rw [List.length_replicate]; exact h2, fun j hj => ?_⟩, (Keeps.refl _ w).grown h3 (fun k hk _ => by cases hk)⟩
  · rw [List.length_replicate]
    have := h2.1
    omega
  · rw [show (List.replicate n ([] : List Ir.Op)).getD j [] = [] by rw [List.getD_eq_getElem?_getD, List.getElem?_replicate]; split <;> rfl, made_nil]
    exact ⟨none, 0, rfl, World.ownsRow_nil _ _ _ _⟩
/-- a row written in its place -/
theorem RowsOwn.setAt {w : World} {B g n cap : Nat} {rows : List (List Ir.Op)} (h : RowsOwn w B (.slice (some ⟨g, 0, none⟩) n cap) rows) (i : Nat) (hi : i < rows.length) (l : List Ir.Op) (u : Value) (hu : OpsOwn w B l u) :
    RowsOwn (w.setCell ⟨g, i, none⟩ u) B (.slice (some ⟨g, 0, none⟩) n cap) (rows.set i l) ∧ Keeps (· = g) w (w.setCell ⟨g, i, none⟩ u) := by
  obtain ⟨vs, h1, h2, h3⟩ := h
  have hk := Keeps.one w g i u
  obtain ⟨A, c, e, _⟩ : ∃ A c, Value.slice (some ⟨g, 0, none⟩) n cap = .slice A rows.length c ∧ True := by
    obtain ⟨A, c, e⟩ := owns_slice h2
    exact ⟨A, c, e, trivial⟩
  injection e with e1 e2 e3
  subst e2
  have hkeep : ∀ l u, OpsOwn w B l u → OpsOwn (w.setCell ⟨g, i, none⟩ (u : Value)) B l u ∨ True := fun _ _ _ => .inr trivial
  have hst := (h2.stored i u).1
  have hkk : ∀ l' u', OpsOwn w B l' u' → OpsOwn (w.setCell ⟨g, i, none⟩ u) B l' u' := fun l' u' h => h.keepS hk (fun q hq e => by
    have e : q = g := e
    obtain ⟨A', c', e', ho⟩ := h
    exact owns_apart ho h2 op_ne_row q hq (by rw [e]; rfl))
  refine ⟨⟨vs.set i u, by rw [List.length_set, List.length_set, h1], by rw [List.length_set]; exact hst, fun j hj => ?_⟩, hk⟩
  rw [List.length_set] at hj
  by_cases hji : j = i
  · subst hji
    rw [List.getD_eq_getElem?_getD, List.getD_eq_getElem?_getD, List.getElem?_set_self (by omega), List.getElem?_set_self (by omega)]
    exact hkk _ _ hu
  · rw [List.getD_eq_getElem?_getD, List.getD_eq_getElem?_getD, List.getElem?_set_ne (Ne.symm hji), List.getElem?_set_ne (Ne.symm hji), ← List.getD_eq_getElem?_getD, ← List.getD_eq_getElem?_getD]
    exact hkk _ _ (h3 j hj)
theorem RowsOwn.rowTyped {w : World} {B g n cap : Nat} {rows : List (List Ir.Op)} (h : RowsOwn w B (.slice (some ⟨g, 0, none⟩) n cap) rows) : ∃ cs, w.heap[g]? = some (.cells cs 36 (0, 0)) := by
  obtain ⟨vs, h1, h2, h3⟩ := h
  exact owns_typed h2 rfl
theorem plan_ne : 36 ≠ 38 ∧ 35 ≠ 38 := by decide
theorem RowsOwn.cellAt {w : World} {B g n cap : Nat} {rows : List (List Ir.Op)} (h : RowsOwn w B (.slice (some ⟨g, 0, none⟩) n cap) rows) (i : Nat) (hi : i < rows.length) : ∃ v, w.cell? ⟨g, i, none⟩ = some v ∧ w.frozen? ⟨g, i, none⟩ = false := by
  obtain ⟨vs, h1, h2, h3⟩ := h
  obtain ⟨A, c, e⟩ := owns_slice h2
  injection e with e1 e2 e3
  subst e2
  exact ⟨_, owns_cell h2 rfl hi (.slice none 0 0), h2.frozenAt i⟩
set_option maxHeartbeats 4000000 in
set_option maxRecDepth 100000 in
theorem copied_any (pc many : Int) (A : Option Addr) (n cap : Nat) (rows : List (List Ir.Op)) (w : World) (V : RowsAt w A n cap rows) (hn : n ≤ 1000) (hr : ∀ i, i < rows.length → (rows.getD i []).length < 1000000) :
    Calls Tryd.prog 31 #[.agg #[.int .u32 pc, .int .i64 many, .slice A n cap]] w fun e w' => ∃ g, e = .returned (.agg #[.int .u32 pc, .int .i64 many, .slice (some ⟨g, 0, none⟩) n n]) ∧ RowsOwn w' w.heap.size (.slice (some ⟨g, 0, none⟩) n n) rows ∧ Keeps (fun _ => False) w w' := by
  have HV := Lib.hid V
  have HL := Lib.hid V.len
  have HR := Lib.hid hr
  have hnc := V.le
  have HN := Lib.hid (show PlanBox ((w.alloc (.cells #[.int .u32 pc, .int .i64 many, .slice A n cap] 38)).alloc (.cells #[.int .u32 0, .int .i64 0, .slice none 0 0] 38)) w.heap.size pc many A n cap ∧ PlanBox ((w.alloc (.cells #[.int .u32 pc, .int .i64 many, .slice A n cap] 38)).alloc (.cells #[.int .u32 0, .int .i64 0, .slice none 0 0] 38)) (w.heap.size + 1) 0 0 none 0 0 from by
    have h1 := PlanBox.new w pc many A n cap
    have h2 := PlanBox.new (w.alloc (.cells #[.int .u32 pc, .int .i64 many, .slice A n cap] 38)) 0 0 none 0 0
    rw [nblk_alloc] at h2
    exact ⟨h1.keep ((Keeps.refl (fun _ => False) _).alloc _) (fun h => h), h2⟩)
  have HA := Lib.hid (((Keeps.refl (fun _ => False) w).alloc (.cells #[.int .u32 pc, .int .i64 many, .slice A n cap] 38)).alloc (.cells #[.int .u32 0, .int .i64 0, .slice none 0 0] 38))
  obtain ⟨B, hB⟩ : ∃ B, w.heap.size = B := ⟨_, rfl⟩
  rw [hB] at HN ⊢
  have HBE := Lib.hid hB
  clear V hr
  go_enter Tryd.func31, Tryd.ntmps31
  go_upto_region 1 with fail
  clear hB
  generalize (w.alloc _).alloc _ = w1 at *
  have HRBL := Lib.hid (show w.heap.size ≤ B + 1 from by have := HBE.out; omega)
  generalize B + 1 = rb at *
  obtain ⟨d0, d1, d2, _⟩ := HN.out.1.cells
  obtain ⟨w2, hmk, hro, hk2⟩ := made_rows w1 B n (by omega) (by rw [← HBE.out]; exact HA.out.size)
  have HRO := Lib.hid hro
  have HK2 := Lib.hid (HA.out.trans hk2 (fun _ _ h => h))
  have HN2 := Lib.hid (And.intro (HN.out.1.keep hk2 (fun h => h)) (HN.out.2.keep hk2 (fun h => h)))
  have HGB := Lib.hid (show B ≤ w1.heap.size from by rw [← HBE.out]; exact HA.out.size)
  clear hro hk2
  go_upto_region 2 with fail
  have HRT := Lib.hid (HRO.out.rowTyped)
  clear hmk d0 d1 d2
  obtain ⟨g, hg⟩ : ∃ g, w1.heap.size = g := ⟨_, rfl⟩
  rw [hg] at HRO HGB HRT ⊢
  clear hg
  obtain ⟨d0, d1, d2, _⟩ := HN2.out.1.cells
  go_wp2_with fail
  clear d0 d1 d2
  go_loopw [4, 5, 13] (fun _ _ s13 wr => ∃ i : Nat, i ≤ n ∧ s13 = .int .i64 i ∧ RowsOwn wr B (.slice (some ⟨g, 0, none⟩) n n) (rows.take i ++ List.replicate (n - i) []) ∧ Keeps (fun b => b = g) w2 wr) (fun _ _ s13 _ => n - (intOf s13).toNat)
  case atStart => exact ⟨0, by omega, rfl, HRO.out, Keeps.refl _ _⟩
  case round =>
    obtain ⟨i, hi, rfl, hO, hK⟩ := hrel
    have HO := Lib.hid hO
    have HK := Lib.hid hK
    clear hO hK
    have HKI := Lib.hid (show Keeps (fun _ => False) w wr from HK2.out.trans HK.out (fun b hb e => by have e : b = g := e; have := HGB.out; have := HBE.out; omega))
    by_cases hlt : i < n
    · obtain ⟨ob, oo, Ai, ci, rfl, e0, e1, e2⟩ := (HV.out.quiet HKI.out).get hlt
      have hil : i < rows.length := by rw [HL.out]; exact hlt
      have hi63 : (i : Int) < n := by omega
      have HSET := Lib.hid (show (rows.take i ++ List.replicate (n - i) []).set i (rows.getD i []) = rows.take (i + 1) ++ List.replicate (n - (i + 1)) [] by
        have hlt' : (rows.take i).length = i := by rw [List.length_take]; omega
        rw [show n - i = (n - (i + 1)) + 1 by omega, List.replicate_succ, List.set_append_right _ _ (by omega), hlt', Nat.sub_self, take_getD rows i hil [], List.append_assoc]
        rfl)
      have HRL := Lib.hid (HR.out i hil)
      have HLT := Lib.hid (show i < (rows.take i ++ List.replicate (n - i) []).length by rw [List.length_append, List.length_take, List.length_replicate]; omega)
      obtain ⟨lr, hlr⟩ : ∃ l, rows.getD i [] = l := ⟨_, rfl⟩
      rw [hlr] at e0 e1 HSET HRL
      clear hlr hil
      have HCL := Lib.hid (clone_any Ai lr.length ci lr wr e1 HRL.out)
      obtain ⟨ll, hll⟩ : ∃ x, lr.length = x := ⟨_, rfl⟩
      rw [hll] at e0 HCL
      clear hll e1 e2
      have HBW := Lib.hid (show B ≤ wr.heap.size by rw [← HBE.out]; exact HKI.out.size)
      go_wp2_with fail
      refine HCL.out.mono ?_
      rintro e w5 ⟨u, rfl, hou, hk5⟩
      obtain ⟨A5, c5, hu5, _⟩ := id hou
      obtain ⟨u5, hu6⟩ : ∃ x, lr.length = x := ⟨_, rfl⟩
      rw [hu6] at hu5
      subst hu5
      clear hu6
      have HO5 := Lib.hid (HO.out.quiet hk5)
      have hst := HO5.out.setAt i HLT.out lr _ (hou.base HBW.out)
      have HST := Lib.hid hst.1
      have HKS := Lib.hid (HK.out.trans ((hk5.mono (T := fun b => b = g) (fun _ _ h => h.elim)).trans hst.2 (fun _ _ h => h)) (fun _ _ h => h))
      have HCG := Lib.hid (HO5.out.cellAt i HLT.out)
      obtain ⟨cv, cg⟩ := HCG.out
      obtain ⟨cg1, cg2⟩ := cg
      clear hst hou hk5 e0
      go_wp2_with fail
      generalize World.setCell w5 _ _ = w6 at *
      go_roundw
      case rel => exact ⟨i + 1, by omega, by go_num, by rw [← HSET.out]; exact HST.out, HKS.out⟩
      case measure => simp [intOf]; omega
    · obtain rfl : i = n := by omega
      have HF := Lib.hid (show RowsOwn wr B (.slice (some ⟨g, 0, none⟩) i i) rows by
        have := HO.out
        rwa [Nat.sub_self, List.replicate_zero, List.append_nil, List.take_of_length_le (by rw [HL.out]; exact Nat.le_refl _)] at this)
      have HBW := Lib.hid (show PlanBox wr B pc many A i cap ∧ PlanBox wr rb 0 0 none 0 0 from by
        have hne : ∀ z pc many A n cap, PlanBox w2 z pc many A n cap → z ≠ g := fun z pc many A n cap h e => by
          obtain ⟨cs, h1⟩ := HRT.out
          rw [← e] at h1
          exact plan_ne.1 (obj_ty h1 h.blk)
        exact ⟨HN2.out.1.keep HK.out (fun e => hne _ _ _ _ _ _ HN2.out.1 e), HN2.out.2.keep HK.out (fun e => hne _ _ _ _ _ _ HN2.out.2 e)⟩)
      have HRB := Lib.hid (show rb ≠ g ∧ w.heap.size ≤ rb from ⟨fun e => by
        obtain ⟨cs, h1⟩ := HRT.out
        rw [← e] at h1
        exact plan_ne.1 (obj_ty h1 HN2.out.2.blk), HRBL.out⟩)
      obtain ⟨d0, d1, d2, _⟩ := HBW.out.1.cells
      obtain ⟨p0, p1, p2, g0, g1, g2⟩ := HBW.out.2.cells
      obtain ⟨hp1, hp2⟩ := HBW.out.2.put (pc' := pc) (many' := many) (A' := some ⟨g, 0, none⟩) (n' := i) (cap' := i)
      have HP := Lib.hid hp1
      have HPK := Lib.hid hp2
      have HF2 := Lib.hid (HF.out.keepP hp2 (fun q c t fz hq ht e => by
        have e : q = rb := e
        rw [e] at hq
        have h := obj_ty hq HBW.out.2.blk
        rcases ht with ht | ht
        · exact plan_ne.1 (ht.symm.trans h)
        · exact plan_ne.2 (ht.symm.trans h)))
      have HKF := Lib.hid (HKI.out.trans hp2 (fun b hb e => by have e : b = rb := e; have := HRB.out.2; omega))
      clear hp1 hp2
      go_wp2_with fail
      refine bodyPost_ret (results_cell_row rfl _ _ rb 38 (codeC pc many (some ⟨g, 0, none⟩) i i) (0, 0) _ rfl HP.out.blk Tryd.underlying38 rfl size_plan) rfl ?_
      exact ⟨g, rfl, HF2.out, HKF.out⟩
end Go.Proofs.YtlmnmncdoiealaaDoor

/- KeepI -/
/- The walk of slices.Clone over numbers. -/
namespace Go.Proofs.YtlmnmncdoiealaaDoor
open Go.RowKit Go.Deep
set_option linter.unusedVariables false
set_option linter.unusedSimpArgs false

def intL (l : List Int) : List Value := l.map fun x => .int .i64 x
theorem Tryd.info_i : (Tryd.prog.info? 3).map (fun i => (i.zero, i.size, i.bytes)) = some (some (.int .i64 0), 1, 8) := by kernel_rfl
theorem intL_one (l : List Int) : ∀ v ∈ intL l, v.oneCell' = true := by
  intro v hv
  obtain ⟨x, _, rfl⟩ := List.mem_map.1 hv
  rfl
theorem Reads.at_int {w : World} {A : Option Addr} {n cap : Nat} {l : List Int} (h : Reads w A n cap (fun i => .int .i64 (l.getD i 0))) (hn : n = l.length) {ad : Addr} (ha : A = some ad) : ∀ j u, (intL l)[j]? = some u → w.cell? (ad.add j) = some u := by
  intro j u hu
  have hj : j < l.length := by
    have := (List.getElem?_eq_some_iff.1 hu).1
    unfold intL at this
    rwa [List.length_map] at this
  unfold intL at hu
  rw [List.getElem?_map, List.getElem?_eq_getElem hj] at hu
  obtain ⟨h1, h2 | ⟨b, o, rfl, hb, hc⟩⟩ := h
  · omega
  · injection ha with ha
    subst ha
    have := hc j (by omega)
    dsimp only at this
    rw [List.getD_eq_getElem?_getD, List.getElem?_eq_getElem hj] at this
    rw [Addr.add_lit, this]
    simpa using hu
set_option maxHeartbeats 2000000 in
set_option maxRecDepth 100000 in
theorem cloneI_any (A : Option Addr) (n cap : Nat) (l : List Int) (w : World) (V : Reads w A n cap (fun i => .int .i64 (l.getD i 0))) (hl : n = l.length) (hn : n < 1000000) (hA : A = none → cap = 0) :
    Calls Tryd.prog 32 #[.slice A n cap] w fun e w' => ∃ v', e = .returned v' ∧ IOwn w' w.heap.size l v' ∧ Keeps (fun _ => False) w w' := by
  obtain ⟨i0, hi, hz0, hz1, hz2⟩ := info_parts Tryd.info_i
  have hnc := V.1
  by_cases h0 : A = none
  · have hcap := hA h0
    subst h0
    obtain rfl : n = 0 := by omega
    subst hcap
    have hln : l = [] := List.eq_nil_of_length_eq_zero hl.symm
    subst hln
    clear V hl hnc hA
    have hq := fun w => Lib.run_eql_slice_nil (P := Tryd.prog) w 31 3 none 0 0 0 0 Tryd.underlying31
    go_enter Tryd.func32, Tryd.ntmps32
    go_wp2_with fail
    go_ret
    exact ⟨_, rfl, ⟨none, 0, rfl, World.ownsRow_nil _ _ _ _⟩, Keeps.refl _ _⟩
  · obtain ⟨ad, rfl⟩ : ∃ ad, A = some ad := by cases A with | none => exact absurd rfl h0 | some a => exact ⟨a, rfl⟩
    clear h0 hA
    have HN := Lib.hid (show ∀ j u, (intL l)[j]? = some u → (w.alloc (.cells #[] 3)).cell? (ad.add j) = some u from fun j u hu => by
      have := V.at_int hl rfl j u hu
      obtain ⟨h1, h2 | ⟨b, o, hb, _⟩⟩ := V
      · have hj := (List.getElem?_eq_some_iff.1 hu).1
        unfold intL at hj
        rw [List.length_map] at hj
        omega
      · injection hb with hb
        subst hb
        rw [Addr.add_lit] at this ⊢
        exact cell_alloc this _)
    clear V
    have hq := fun w => Lib.run_eql_slice_nil (P := Tryd.prog) w 31 3 (some ad) n cap 0 0 Tryd.underlying31
    have hmx : 0 + n ≤ maxLen := by unfold maxLen; omega
    have hlen : (intL l).length = n * 1 := by unfold intL; rw [List.length_map]; omega
    have h1 := intL_one l
    have HL := Lib.hid hl
    clear hl
    go_enter Tryd.func32, Tryd.ntmps32
    go_wp2_with (at_builtin; go_loud (refine wpList_append_own _ rfl _ _ 31 rfl w.heap.size 3 i0 _ 1 8 Tryd.underlying31 hi hz0 hz1 hz2 rfl (by decide) (.slice (some ⟨w.heap.size, 0, none⟩) 0 0) 0 [] rfl ?c0 ad n cap (intL l) rfl hlen HN.out h1 hmx (by omega) ?c5 ?c6))
    case c0 => exact ⟨rfl, .inr ⟨w.heap.size, 0, #[], rfl, Nat.le_refl _, blk_alloc_new _ _, Nat.le_refl _, Nat.zero_le _, rfl, rfl⟩⟩
    case c5 => simp
    case c6 =>
      intro v' w1 hown hgrow hnil
      obtain ⟨A', cap', rfl⟩ := owns_slice hown
      have hK : Keeps (fun _ => False) w w1 := ((Keeps.refl _ w).alloc (.cells #[] 3)).grown hgrow (fun k hk => by simp [Value.ownBlock] at hk; omega)
      have HO := Lib.hid (show IOwn w1 w.heap.size l (.slice A' n cap') from by
        have hl := HL.out
        subst hl
        exact ⟨A', cap', rfl, by simpa [intL] using hown⟩)
      clear hown
      go_wp2
      go_ret
      exact ⟨_, rfl, HO.out, hK⟩
end Go.Proofs.YtlmnmncdoiealaaDoor
