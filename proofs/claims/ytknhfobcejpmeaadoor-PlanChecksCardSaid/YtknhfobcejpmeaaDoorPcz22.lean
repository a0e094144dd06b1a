import Derived.Test.YtknhfobcejpmeaaDoorPcz20
import Derived.Test.YtknhfobcejpmeaaDoorPcz21
import Derived.Test.YtknhfobcejpmeaaDoorPcz09
import Derived.Test.YtknhfobcejpmeaaDoorPcz10
import Derived.Test.YtknhfobcejpmeaaDoorPcz07

/- Make -/
/- The walk of plan.Make. Printed by gen/make.py. -/
namespace Go.Proofs.YtknhfobcejpmeaaDoor
open Go.RowKit Go.Deep
set_option linter.unusedVariables false
set_option linter.unusedSimpArgs false

theorem size_plan : (Tryd.prog.info? 29).map (·.size) = some 3 := by kernel_rfl
theorem results_plan {fn : Func} {p u : Tmp} (h : fn.results = #[.cell p 29, .tmp u]) (tmps : Array Value) (w : World) (g : Nat) (cs : Array Value) (hp : tmps.getD p undef = .pointer (some ⟨g, 0, none⟩)) (hg : w.heap[g]? = some (.cells cs 29 (0, 0))) (hc : cs.size = 3) :
    (results fn tmps).run Tryd.prog w = .ok (.tuple #[.agg cs, tmps.getD u undef]) w := by
  rw [results_cell_tmp h, hp]
  have := run_loadVar_row (P := Tryd.prog) w g 29 29 cs (0, 0) _ hg Tryd.underlying29 rfl (by rw [hc]; exact size_plan)
  simp [asAddr, this]
/-- a plan in a block of its own -/
structure PlanBox (w : World) (x : Nat) (pc many : Int) (A : Option Addr) (n cap : Nat) : Prop where
  blk : w.heap[x]? = some (.cells (codeC pc many A n cap) 29 (0, 0))
theorem PlanBox.lt {w : World} {x : Nat} {pc many : Int} {A : Option Addr} {n cap : Nat} (h : PlanBox w x pc many A n cap) : x < w.heap.size := (Array.getElem?_eq_some_iff.1 h.blk).1
theorem PlanBox.keep {S : Nat → Prop} {w w' : World} {x : Nat} {pc many : Int} {A : Option Addr} {n cap : Nat} (h : PlanBox w x pc many A n cap) (k : Keeps S w w') (hs : ¬ S x) : PlanBox w' x pc many A n cap := ⟨(k.block x h.lt hs).trans h.blk⟩
theorem PlanBox.cells {w : World} {x : Nat} {pc many : Int} {A : Option Addr} {n cap : Nat} (h : PlanBox w x pc many A n cap) :
    w.cell? ⟨x, 0, none⟩ = some (.int .u32 pc) ∧ w.cell? ⟨x, 1, none⟩ = some (.int .i64 many) ∧ w.cell? ⟨x, 2, none⟩ = some (.slice A n cap) ∧ w.frozen? ⟨x, 0, none⟩ = false ∧ w.frozen? ⟨x, 1, none⟩ = false ∧ w.frozen? ⟨x, 2, none⟩ = false := by
  have hb := h.blk
  unfold codeC at hb
  refine ⟨?_, ?_, ?_, frozen_of_block hb 0, frozen_of_block hb 1, frozen_of_block hb 2⟩ <;> (unfold World.cell?; rw [hb]; rfl)
theorem PlanBox.put {w : World} {x : Nat} {pc many pc' many' : Int} {A A' : Option Addr} {n cap n' cap' : Nat} (h : PlanBox w x pc many A n cap) :
    PlanBox (((w.setCell ⟨x, 0, none⟩ (.int .u32 pc')).setCell ⟨x, 1, none⟩ (.int .i64 many')).setCell ⟨x, 2, none⟩ (.slice A' n' cap')) x pc' many' A' n' cap' ∧
      Keeps (· = x) w (((w.setCell ⟨x, 0, none⟩ (.int .u32 pc')).setCell ⟨x, 1, none⟩ (.int .i64 many')).setCell ⟨x, 2, none⟩ (.slice A' n' cap')) :=
  ⟨⟨(set3c h.blk).1⟩, (set3c h.blk).2⟩
theorem PlanBox.new (w : World) (pc many : Int) (A : Option Addr) (n cap : Nat) : PlanBox (w.alloc (.cells #[.int .u32 pc, .int .i64 many, .slice A n cap] 29)) w.heap.size pc many A n cap := ⟨blk_alloc_new _ _⟩
/-- the two boxes that Make begins with: its argument, its result -/
structure MkBox (w wr : World) (x rb : Nat) (pc many : Int) (A : Option Addr) (n cap : Nat) : Prop where
  code : CodeBox wr x pc many A n cap
  res : PlanBox wr rb 0 0 none 0 0
  k : Keeps (fun _ => False) w wr
  ne : x ≠ rb
  low : w.heap.size ≤ x ∧ w.heap.size ≤ rb
theorem MkBox.new (w : World) (pc many : Int) (A : Option Addr) (n cap : Nat) :
    MkBox w ((w.alloc (.cells #[.int .u32 pc, .int .i64 many, .slice A n cap] 80)).alloc (.cells #[.int .u32 0, .int .i64 0, .slice none 0 0] 29)) w.heap.size (w.heap.size + 1) pc many A n cap := by
  have h1 := CodeBox.new w pc many A n cap
  have h2 := PlanBox.new (w.alloc (.cells #[.int .u32 pc, .int .i64 many, .slice A n cap] 80)) 0 0 none 0 0
  rw [nblk_alloc] at h2
  exact ⟨h1.keep ((Keeps.refl (fun _ => False) _).alloc _) (fun h => h), h2, ((Keeps.refl _ _).alloc _).alloc _, by omega, by omega⟩
theorem MkBox.keep {w wr w' : World} {x rb : Nat} {pc many : Int} {A : Option Addr} {n cap : Nat} (h : MkBox w wr x rb pc many A n cap) (k : Keeps (fun _ => False) wr w') : MkBox w w' x rb pc many A n cap :=
  ⟨h.code.keep k (fun h => h), h.res.keep k (fun h => h), h.k.trans k (fun _ _ h => h), h.ne, h.low⟩
theorem MkBox.above {w wr w' : World} {x rb B : Nat} {pc many : Int} {A : Option Addr} {n cap : Nat} (h : MkBox w wr x rb pc many A n cap) (k : Keeps (fun b => B ≤ b) wr w') (hB : x < B ∧ rb < B ∧ w.heap.size ≤ B) : MkBox w w' x rb pc many A n cap :=
  ⟨h.code.keep k (by omega), h.res.keep k (by omega), h.k.trans k (fun b hb e => by omega), h.ne, h.low⟩
theorem FaultIs.otherP {w w' : World} {ea : Nat → Addr} {f : Nat × Int} {v : Value} {z n cap : Nat} {pc many : Int} {A : Option Addr} (h : FaultIs w ea f v) (C : PlanBox w z pc many A n cap) (k : Keeps (· = z) w w') : FaultIs w' ea f v := by
  rcases h with h | h | ⟨h1, h2, b, h3, h4, h5⟩
  · exact .inl h
  · exact .inr (.inl h)
  · have hne : b ≠ z := by
      rintro rfl
      rw [C.cells.1] at h4
      cases h4
    exact .inr (.inr ⟨h1, h2, b, h3, k.cell' h4 hne, k.cell' h5 hne⟩)
/-- what Make answers -/
def MakeIs (w' : World) (ea : Nat → Addr) (pc many : Int) (l : List Ir.Op) (B : Nat) (cv ev : Value) : Prop :=
  FaultIs w' ea (Ir.fault many l) ev ∧ (((Ir.fault many l).1 ≠ 0 ∧ cv = .agg (codeC 0 0 none 0 0)) ∨
    ((Ir.fault many l).1 = 0 ∧ ∃ A n cap, cv = .agg (codeC pc many A n cap) ∧ n = (Ir.make l).rows.length ∧ RowsOwn w' B (.slice A n cap) (Ir.make l).rows))
theorem MakeIs.quiet {w w' : World} {ea : Nat → Addr} {pc many : Int} {l : List Ir.Op} {B : Nat} {cv ev : Value} (h : MakeIs w ea pc many l B cv ev) (k : Keeps (fun _ => False) w w') : MakeIs w' ea pc many l B cv ev := by
  obtain ⟨h1, h2 | ⟨h2, A, n, cap, h3, h4, h5⟩⟩ := h
  · exact ⟨h1.keep k, .inl h2⟩
  · exact ⟨h1.keep k, .inr ⟨h2, A, n, cap, h3, h4, h5.quiet k⟩⟩
theorem MakerAt.made (w : World) : MakerAt (((w.alloc (.map #[] 0)).alloc (.map #[] 0)).alloc (.cells #[.slice none 0 0, .map (some w.heap.size), .map (some (w.heap.size + 1)), .int .i64 (-1), .int .i64 (-1), .int .i64 0, .int .i64 0] 128)) w.heap.size (w.heap.size + 1 + 1) w.heap.size (w.heap.size + 1) 0 (.slice none 0 0) Ir.mk0 := by
  have h1 := RowMapAt.made w
  have h2 := RowMapAt.made (w.alloc (.map #[] 0))
  rw [nblk_alloc] at h2
  have k2 : Keeps (fun _ => False) (w.alloc (.map #[] 0)) ((w.alloc (.map #[] 0)).alloc (.map #[] 0)) := (Keeps.refl _ _).alloc _
  have k3 : Keeps (fun _ => False) ((w.alloc (.map #[] 0)).alloc (.map #[] 0)) (((w.alloc (.map #[] 0)).alloc (.map #[] 0)).alloc (.cells #[.slice none 0 0, .map (some w.heap.size), .map (some (w.heap.size + 1)), .int .i64 (-1), .int .i64 (-1), .int .i64 0, .int .i64 0] 128)) := (Keeps.refl _ _).alloc _
  refine ⟨?_, by omega, RowsDist.nil _ _, (h1.keep k2 (fun h => h)).keep k3 (fun h => h), h2.keep k3 (fun h => h)⟩
  have := blk_alloc_new ((w.alloc (.map #[] 0)).alloc (.map #[] 0)) (.cells #[.slice none 0 0, .map (some w.heap.size), .map (some (w.heap.size + 1)), .int .i64 (-1), .int .i64 (-1), .int .i64 0, .int .i64 0] 128)
  rw [nblk_alloc, nblk_alloc] at this
  exact this
theorem make_take (l : List Ir.Op) (i : Nat) (h : i < l.length) : (l.take (i + 1)).foldl Ir.lay Ir.mk0 = Ir.lay ((l.take i).foldl Ir.lay Ir.mk0) (l.getD i Ir.nop) := by
  rw [Ir.take_succ_getD l i h, List.foldl_append]
  rfl
set_option maxHeartbeats 8000000 in
set_option maxRecDepth 100000 in
theorem planMake_any (pc many : Int) (A : Option Addr) (n cap : Nat) (l : List Ir.Op) (w : World) (ea : Nat → Addr) (E : ErrsC w ea) (V : OpsAt w A n cap l) (hc : cap ≤ 9223372036854775807) (hok : ∀ o ∈ l, OpOk o) :
    Calls Tryd.prog 36 #[.agg #[.int .u32 pc, .int .i64 many, .slice A n cap]] w fun e w' => (∃ cv ev, e = .returned (.tuple #[cv, ev]) ∧ MakeIs w' ea pc many l w.heap.size cv ev) ∧ Keeps (fun _ => False) w w' := by
  have HE := Lib.hid E
  have HV := Lib.hid V
  have hnc := V.le
  have HL := Lib.hid V.len
  have HN := Lib.hid (MkBox.new w pc many A n cap)
  have HCK := Lib.hid (fun w E V => Check_any pc many A n cap l w ea E V hc)
  have HOK := Lib.hid hok
  have HG := Lib.hid (fun (h : (Ir.fault many l).1 = 0) => Ir.good_of_fault h)
  have hmm := @run_makeMap Tryd.prog
  have HMI : Hid (∀ w' cv ev, MakeIs w' ea pc many l w.heap.size cv ev ↔ (FaultIs w' ea (Ir.fault many l) ev ∧ (((Ir.fault many l).1 ≠ 0 ∧ cv = .agg (codeC 0 0 none 0 0)) ∨ ((Ir.fault many l).1 = 0 ∧ ∃ A n cap, cv = .agg (codeC pc many A n cap) ∧ n = (Ir.make l).rows.length ∧ RowsOwn w' w.heap.size (.slice A n cap) (Ir.make l).rows)))) := Lib.hid (fun _ _ _ => Iff.rfl)
  obtain ⟨f, hf⟩ : ∃ f, Ir.fault many l = f := ⟨_, rfl⟩
  rw [hf] at HCK HG HMI
  clear E V hok hf
  go_enter Tryd.func36, Tryd.ntmps36
  go_upto_region 1 with fail
  have hN := HN.out
  clear HN
  generalize (w.alloc _).alloc _ = w1 at *
  generalize w.heap.size + 1 = rb at *
  obtain ⟨x, hx⟩ : ∃ x, w.heap.size = x := ⟨_, rfl⟩
  have HX := Lib.hid hx
  rw [hx] at hN HMI ⊢
  clear hx
  have HB1 := Lib.hid hN
  obtain ⟨c0, c1, c2, _⟩ := hN.code.cells
  clear hN
  go_wp2_with fail
  refine (HCK.out w1 (HE.out.quiet HB1.out.k) (HV.out.quiet HB1.out.k)).mono ?_
  rintro e w2 ⟨⟨v, rfl, hv⟩, hk2⟩
  have HB2 := Lib.hid (HB1.out.keep hk2)
  have HFV := Lib.hid hv
  have hp := hv.parts
  clear c0 c1 c2 hk2 hv
  rcases hp with ⟨h0, rfl⟩ | ⟨h0, t, u, rfl⟩
  · have HGG := Lib.hid (HG.out h0)
    have hl200 : n ≤ 200 := by
      have := HGG.out.len
      rw [HL.out] at this
      exact this
    have HIN := Lib.hid (show ∀ o ∈ l, Ir.kn o.k ≠ 0 ∧ 0 ≤ Ir.writes o from fun o ho => by
      obtain ⟨i, hi, rfl⟩ := List.getElem_of_mem ho
      have h1 := (Ir.errAt_zero.1 (HGG.out.each i hi)).1
      rw [List.getD_eq_getElem?_getD, List.getElem?_eq_getElem hi] at h1
      refine ⟨fun h => ?_, Ir.writes_nn h1⟩
      unfold Ir.opErr at h1
      rw [Option.getD_some, if_pos h] at h1
      cases h1)
    have HF0 := Lib.hid h0
    clear h0 HCK HG
    obtain ⟨c0, c1, c2, _, _, _⟩ := HB2.out.code.cells
    have HMD := Lib.hid (MakerAt.made w2)
    have HKD := Lib.hid (show Keeps (fun _ => False) w2 (((w2.alloc (.map #[] 0)).alloc (.map #[] 0)).alloc (.cells #[.slice none 0 0, .map (some w2.heap.size), .map (some (w2.heap.size + 1)), .int .i64 (-1), .int .i64 (-1), .int .i64 0, .int .i64 0] 128)) from (((Keeps.refl _ _).alloc _).alloc _).alloc _)
    go_upto_region 5 with fail
    generalize ((w2.alloc _).alloc _).alloc _ = w3 at *
    have HXB := Lib.hid (show x < w2.heap.size ∧ rb < w2.heap.size ∧ w.heap.size ≤ w2.heap.size from ⟨HB2.out.code.lt, HB2.out.res.lt, HB2.out.k.size⟩)
    generalize w2.heap.size + 1 + 1 = xm at *
    generalize w2.heap.size + 1 = br at *
    obtain ⟨B, hBB⟩ : ∃ B, w2.heap.size = B := ⟨_, rfl⟩
    rw [hBB] at HMD HXB ⊢
    have HBE := Lib.hid hBB
    have HB3 := Lib.hid (HB2.out.keep HKD.out)
    have HSZ := Lib.hid (show B ≤ w3.heap.size by rw [← hBB]; exact HKD.out.size)
    clear hBB c0 c1 c2
    obtain ⟨c0, c1, c2, _, _, _⟩ := HB3.out.code.cells
    go_wp2_with fail
    clear c0 c1 c2
    go_loopw [21] (fun s21 wr => ∃ (i : Nat) (v' : Value), i ≤ n ∧ s21 = .int .i64 i ∧ MakerAt wr B xm B br (4 * i) v' ((l.take i).foldl Ir.lay Ir.mk0) ∧ MkBox w wr x rb pc many A n cap ∧ B ≤ wr.heap.size) (fun s21 _ => n - (intOf s21).toNat)
    case atStart => exact ⟨0, _, by omega, rfl, HMD.out, HB3.out, HSZ.out⟩
    case round =>
      obtain ⟨i, v', hi, rfl, hM, hBX, hsz⟩ := hrel
      have HM := Lib.hid hM
      have HBX := Lib.hid hBX
      have HSW := Lib.hid hsz
      clear hM hBX hsz HMD HB3
      by_cases hlt : i < n
      · obtain ⟨ob, oo, rfl, e0, e1, e2, e3, e4, e5⟩ := (HV.out.quiet HBX.out.k).get hlt
        have hil : i < l.length := by rw [HL.out]; exact hlt
        have hi63 : (i : Int) < n := by omega
        have HMT := Lib.hid (make_take l i hil)
        have hinv := Ir.make_inv (l.take i) [] Ir.mk0 Ir.mk0_inv (fun o ho => HIN.out o (List.mem_of_mem_take ho))
        rw [List.nil_append] at hinv
        have HOP := Lib.hid (HOK.out (l.getD i Ir.nop) (by simp [List.getD, hil]))
        have hlen : (l.take i).length < 200 := by rw [List.length_take]; omega
        have HLY := Lib.hid (fun w M hB => lay_any B xm B br (4 * i) v' ((l.take i).foldl Ir.lay Ir.mk0) (l.getD i Ir.nop) (l.take i) w M hinv hlen HOP.out hB (by omega))
        rw [← HMT.out] at HLY
        obtain ⟨op, hop⟩ : ∃ op, l.getD i Ir.nop = op := ⟨_, rfl⟩
        rw [hop] at e0 e1 e2 e3 e4 e5 HLY
        clear hop hinv hlen hil
        obtain ⟨ok, od, oa, ob2, oim, oat⟩ := op
        have HN := Lib.hid (op_new wr ok od oa ob2 oim oat 47)
        simp only at e0 e1 e2 e3 e4 e5
        unfold opC at HLY
        go_upto_region 8 with fail
        obtain ⟨hV, hK⟩ := HN.out
        have HMn := Lib.hid (HM.out.quiet hK)
        have HBn := Lib.hid (HBX.out.keep hK)
        have HSn := Lib.hid (Nat.le_trans HSW.out hK.size)
        generalize wr.alloc _ = w4 at *
        generalize wr.heap.size = y at *
        clear e0 e1 e2 e3 e4 e5 hK HN
        obtain ⟨v0, v1, v2, v3, v4, v5⟩ := hV
        simp only at v0 v1 v2 v3 v4 v5
        go_wp2_with fail
        refine (HLY.out _ HMn.out HSn.out).mono ?_
        rintro e w5 ⟨rfl, ⟨v2', hM5⟩, hk5⟩
        have HM5 := Lib.hid hM5
        have HB5 := Lib.hid (HBn.out.above hk5 HXB.out)
        have HS5 := Lib.hid (Nat.le_trans HSn.out hk5.size)
        clear hM5 hk5 v0 v1 v2 v3 v4 v5
        go_wp2_with fail
        go_roundw
        case rel => exact ⟨i + 1, v2', by omega, by go_num, HM5.out, HB5.out, HS5.out⟩
        case measure => simp [intOf]; omega
      · obtain rfl : i = n := by omega
        have hMF := HM.out
        rw [List.take_of_length_le (by rw [HL.out]; exact Nat.le_refl _)] at hMF
        have HMF := Lib.hid (show MakerAt wr B xm B br (4 * i) v' (Ir.make l) from hMF)
        obtain ⟨A9, c9, rfl, _⟩ := hMF.rows.own.rows
        obtain ⟨rl, hrl⟩ : ∃ n, (l.foldl Ir.lay Ir.mk0).rows.length = n := ⟨_, rfl⟩
        rw [hrl] at HMF
        have HRL := Lib.hid (show rl = (Ir.make l).rows.length from hrl.symm)
        clear hMF HM hrl HOK HIN
        obtain ⟨c0, c1, c2, _, _, _⟩ := HBX.out.code.cells
        obtain ⟨p0, p1, p2, g0, g1, g2⟩ := HBX.out.res.cells
        have m0 := HMF.out.cells.1
        have HXR := Lib.hid HBX.out.ne
        have HMR := Lib.hid (show xm ≠ rb from fun e => by have := HMF.out.low.1; have := HXB.out.2.1; omega)
        obtain ⟨hq1, hq2⟩ := HBX.out.res.put (pc' := pc) (many' := many) (A' := A9) (n' := rl) (cap' := c9)
        have HPB := Lib.hid hq1.blk
        have HPK := Lib.hid hq2
        have HKF := Lib.hid (HBX.out.k.trans hq2 (fun b hb e => by have e : b = rb := e; have := HBX.out.low; omega))
        have HIS := Lib.hid ((HMI.out _ (.agg (codeC pc many A9 rl c9)) .nilIface).2 ⟨.inl ⟨HF0.out, rfl⟩, .inr ⟨HF0.out, A9, rl, c9, rfl, HRL.out, by
          have hr := HMF.out.rows.keep (S := fun b => b = rb) hq2 (fun g c t fz hg ht hb e => by have e : g = rb := e; have := HXB.out.2.1; omega)
          obtain ⟨vs, h1, h2, h3⟩ := hr.own
          have hx : x ≤ B := by have := HXB.out.1; omega
          exact ⟨vs, h1, ownsRow_base h2 hx, fun j hj => (h3 j hj).base hx⟩⟩⟩)
        clear hq1 hq2
        go_upto_region 10 with fail
        refine wp_region_held_drew (S := fun w' => Keeps (fun b => b = rb) wr w') (by kernel_rfl) (Keeps.refl _ wr).drew (fun hH0 => ?_)
        refine wpAnyH_take (i := 0) (v := ?_) rfl (by kernel_rfl) (by kernel_rfl) (by kernel_rfl) (fun _ _ _ h => h) (Or.inl ⟨by go_simp, ?_⟩) hH0 ?_
        rotate_left
        · intro w' hSw
          go_simp
          try with_reducible rfl
        simp only [Act.put, List.setIfInBounds_toArray, List.set_cons_zero, List.set_cons_succ]
        refine wpAnyH_take (i := 1) (v := ?_) rfl (by kernel_rfl) (by kernel_rfl) (by kernel_rfl) (fun _ _ _ h => h) (Or.inl ⟨by go_simp, ?_⟩) hH0 ?_
        rotate_left
        · intro w' hSw
          have g0 := Keeps.cell' hSw c0 HXR.out
          go_simp
          try with_reducible rfl
        simp only [Act.put, List.setIfInBounds_toArray, List.set_cons_zero, List.set_cons_succ]
        refine wpAnyH_take (i := 2) (v := ?_) rfl (by kernel_rfl) (by kernel_rfl) (by kernel_rfl) (fun _ _ _ h => h) (Or.inl ⟨by go_simp, ?_⟩) hH0 ?_
        rotate_left
        · intro w' hSw
          go_simp
          try with_reducible rfl
        simp only [Act.put, List.setIfInBounds_toArray, List.set_cons_zero, List.set_cons_succ]
        refine wpAnyH_take (i := 3) (v := ?_) rfl (by kernel_rfl) (by kernel_rfl) (by kernel_rfl) (fun _ _ _ h => h) (Or.inl ⟨by go_simp, ?_⟩) hH0 ?_
        rotate_left
        · intro w' hSw
          have g0 := Keeps.cell' hSw c1 HXR.out
          go_simp
          try with_reducible rfl
        simp only [Act.put, List.setIfInBounds_toArray, List.set_cons_zero, List.set_cons_succ]
        refine wpAnyH_take (i := 4) (v := ?_) rfl (by kernel_rfl) (by kernel_rfl) (by kernel_rfl) (fun _ _ _ h => h) (Or.inl ⟨by go_simp, ?_⟩) hH0 ?_
        rotate_left
        · intro w' hSw
          go_simp
          try with_reducible rfl
        simp only [Act.put, List.setIfInBounds_toArray, List.set_cons_zero, List.set_cons_succ]
        refine wpAnyH_take (i := 5) (v := ?_) rfl (by kernel_rfl) (by kernel_rfl) (by kernel_rfl) (fun _ _ _ h => h) (Or.inl ⟨by go_simp, ?_⟩) hH0 ?_
        rotate_left
        · intro w' hSw
          go_simp
          try with_reducible rfl
        simp only [Act.put, List.setIfInBounds_toArray, List.set_cons_zero, List.set_cons_succ]
        refine wpAnyH_take (i := 6) (v := ?_) rfl (by kernel_rfl) (by kernel_rfl) (by kernel_rfl) (fun _ _ _ h => h) (Or.inl ⟨by go_simp, ?_⟩) hH0 ?_
        rotate_left
        · intro w' hSw
          go_simp
          try with_reducible rfl
        simp only [Act.put, List.setIfInBounds_toArray, List.set_cons_zero, List.set_cons_succ]
        refine wpAnyH_take (i := 7) (v := ?_) rfl (by kernel_rfl) (by kernel_rfl) (by kernel_rfl) (fun _ _ _ h => h) (Or.inl ⟨by go_simp, ?_⟩) hH0 ?_
        rotate_left
        · intro w' hSw
          have g0 := Keeps.cell' hSw m0 HMR.out
          go_simp
          try with_reducible rfl
        simp only [Act.put, List.setIfInBounds_toArray, List.set_cons_zero, List.set_cons_succ]
        refine wpAnyH_take (i := 8) (v := ?_) rfl (by kernel_rfl) (by kernel_rfl) (by kernel_rfl) (fun _ _ _ h => h) (Or.inl ⟨by go_simp, ?_⟩) hH0 ?_
        rotate_left
        · intro w' hSw
          go_simp
          try with_reducible rfl
        simp only [Act.put, List.setIfInBounds_toArray, List.set_cons_zero, List.set_cons_succ]
        refine wpAnyH_ready (rs := [9]) (by kernel_rfl) (by simp) ?_
        refine AllReadyH.cons rfl (fun K hK => ?_) AllReadyH.nil
        go_simp
        refine hK.out _ _ HPK.out.drew (fun _ => ?_)
        clear hK K
        try simp only [Act.put, List.setIfInBounds_toArray, List.set_cons_zero, List.set_cons_succ]
        refine wpAnyH_ready (rs := [10]) (by kernel_rfl) (by simp) ?_
        refine AllReadyH.cons rfl (fun K hK => ?_) AllReadyH.nil
        go_simp
        refine hK.out _ _ HPK.out.drew (fun _ => ?_)
        clear hK K
        try simp only [Act.put, List.setIfInBounds_toArray, List.set_cons_zero, List.set_cons_succ]
        refine wpAnyH_done (by kernel_rfl) ?_ _
        go_wp2_with fail
        exact bodyPost_ret (results_plan rfl _ _ rb (codeC pc many A9 rl c9) rfl HPB.out rfl) rfl ⟨⟨_, _, rfl, by rw [HX.out]; exact HIS.out.quiet ((Keeps.refl _ _).drew)⟩, HKF.out.drew⟩
  · have HF0 := Lib.hid h0
    obtain ⟨r0, r1, r2, g0, g1, g2⟩ := HB2.out.res.cells
    obtain ⟨hq1, hq2⟩ := HB2.out.res.put (pc' := 0) (many' := 0) (A' := none) (n' := 0) (cap' := 0)
    have HPB := Lib.hid hq1.blk
    have HPK := Lib.hid hq2
    have HIS := Lib.hid ((HMI.out _ (.agg (codeC 0 0 none 0 0)) (.iface t (.pointer (some u)))).2 ⟨HFV.out.otherP HB2.out.res hq2, .inl ⟨h0, rfl⟩⟩)
    clear h0 hq1 hq2
    go_wp2_with fail
    exact bodyPost_ret (results_plan rfl _ _ rb (codeC 0 0 none 0 0) rfl HPB.out rfl) rfl ⟨⟨_, _, rfl, by rw [HX.out]; exact HIS.out⟩, HB2.out.k.trans HPK.out (fun b hb e => by have e : b = rb := e; have := HB2.out.low; omega)⟩
end Go.Proofs.YtknhfobcejpmeaaDoor

/- PlanCheck -/
/- The walk of plan.Check: what it answers is Ir.planFault. -/
namespace Go.Proofs.YtknhfobcejpmeaaDoor
open Go.RowKit Go.Deep
set_option linter.unusedVariables false
set_option linter.unusedSimpArgs false

set_option maxHeartbeats 8000000 in
set_option maxRecDepth 100000 in
theorem planCheck_any (pc many : Int) (A : Option Addr) (n cap : Nat) (rows : List (List Ir.Op)) (w : World) (ea : Nat → Addr) (E : ErrsR w ea) (V : RowsAt w A n cap rows) (hc : cap ≤ 9223372036854775807) :
    Calls Tryd.prog 10 #[.agg #[.int .u32 pc, .int .i64 many, .slice A n cap]] w fun e w' => (∃ v, e = .returned v ∧ FaultIs w' ea (Ir.planFault many rows) v) ∧ Keeps (fun _ => False) w w' := by
  have HE := Lib.hid E
  have HV := Lib.hid V
  have hnc := V.le
  have HL := Lib.hid V.len
  have HN := Lib.hid (code_new w pc many A n cap 29)
  have HF := Lib.hid (show Ir.planFault many rows = ((if many < 1 ∨ 24 < many then (2, -1) else if 200 < n then (8, -1) else if n = 0 then (3, -1)
      else match Ir.rowsErr many rows.length 0 rows with | some (c, i) => (c, (i : Int)) | none => if 8 < Ir.planStores rows then (8, -1) else (0, -1)) : Nat × Int) by rw [← HL.out]; rfl)
  obtain ⟨f, hf⟩ : ∃ f, Ir.planFault many rows = f := ⟨_, rfl⟩
  rw [hf] at HF ⊢
  clear hf V E
  go_enter Tryd.func10, Tryd.ntmps10
  go_upto_region 1 with fail
  obtain ⟨hV, hK⟩ := HN.out
  generalize w.alloc _ = w1 at *
  generalize w.heap.size = x at *
  have HC1 := Lib.hid hV
  have HK1 := Lib.hid hK
  obtain ⟨c0, c1, c2⟩ := hV
  have gb := (HE.out.quiet hK).c.bound
  have gs := (HE.out.quiet hK).c.shape
  have gf := (HE.out.quiet hK).c.full
  clear hK HN
  by_cases h1 : many < 1
  · have HR := Lib.hid (show f = (2, -1) by rw [HF.out, if_pos (.inl h1)])
    have h1' : decide (many < 1) = true := decide_eq_true h1
    clear h1
    go_wp2_with fail
    go_ret
    exact ⟨⟨_, rfl, FaultIs.bare HR.out (by decide)⟩, HK1.out⟩
  by_cases h2 : 24 < many
  · have HR := Lib.hid (show f = (2, -1) by rw [HF.out, if_pos (.inr h2)])
    have h1' : decide (many < 1) = false := decide_eq_false h1
    have h2' : decide (24 < many) = true := decide_eq_true h2
    clear h1 h2
    go_wp2_with fail
    go_ret
    exact ⟨⟨_, rfl, FaultIs.bare HR.out (by decide)⟩, HK1.out⟩
  have h12 : ¬ (many < 1 ∨ 24 < many) := by omega
  have h1' : decide (many < 1) = false := decide_eq_false h1
  have h2' : decide (24 < many) = false := decide_eq_false h2
  clear h1 h2
  by_cases h3 : 200 < n
  · have HR := Lib.hid (show f = (8, -1) by rw [HF.out, if_neg h12, if_pos h3])
    have h3' : decide ((200 : Int) < (n : Int)) = true := decide_eq_true (by omega)
    clear h12 h3
    go_wp2_with fail
    go_ret
    exact ⟨⟨_, rfl, FaultIs.bare HR.out (by decide)⟩, HK1.out⟩
  have h3' : decide ((200 : Int) < (n : Int)) = false := decide_eq_false (by omega)
  by_cases h4 : n = 0
  · have HR := Lib.hid (show f = (3, -1) by rw [HF.out, if_neg h12, if_neg h3, if_pos h4])
    have h4' : ((n : Int) == 0) = true := by simp [h4]
    have H4 := Lib.hid h4
    clear h12 h3 h4
    go_wp2_with fail
    go_ret
    exact ⟨⟨_, rfl, FaultIs.bare HR.out (by decide)⟩, HK1.out⟩
  have h4' : ((n : Int) == 0) = false := by simp [h4]
  have HF2 := Lib.hid (show f = match Ir.rowsErr many rows.length 0 rows with | some (c, i) => (c, (i : Int)) | none => if 8 < Ir.planStores rows then (8, -1) else (0, -1) by rw [HF.out, if_neg h12, if_neg h3, if_neg h4])
  have hn200 : n ≤ 200 := by omega
  obtain ⟨m, hm⟩ : ∃ m, m + 1 = n := ⟨n - 1, by omega⟩
  have hw1 : IntKind.i64.wrap ((n : Int) - 1) = (m : Int) := by rw [IntKind.wrap_i64]; omega
  have hm1 : (0 : Int) ≤ (m : Int) := by omega
  have HM := Lib.hid hm
  clear hm h12 h3 h4 gb gs gf
  go_wp2_with fail
  clear c0 c1 c2
  go_loopw [31] (fun s31 wr => ∃ i : Nat, i ≤ n ∧ s31 = .int .i64 i ∧ (∀ j, j < i → Ir.rowErr many (rows.getD j []) (decide (j + 1 = rows.length)) = 0) ∧ Keeps (fun _ => False) w1 wr) (fun s31 _ => n - (intOf s31).toNat)
  case atStart => exact ⟨0, by omega, rfl, fun j hj => absurd hj (Nat.not_lt_zero _), Keeps.refl _ _⟩
  case round =>
    obtain ⟨i, hi, rfl, hz, hKi⟩ := hrel
    have HZ := Lib.hid hz
    have HKI := Lib.hid hKi
    clear hz hKi
    have HKT := Lib.hid (HK1.out.trans HKI.out (fun _ _ h => h))
    have HCT := Lib.hid (HC1.out.keep HKI.out (fun h => h))
    obtain ⟨c0, c1, c2⟩ := HCT.out
    by_cases hlt : i < n
    · have hil : i < rows.length := by rw [HL.out]; exact hlt
      obtain ⟨ob, oo, Ai, ci, rfl, e0, e1, e2⟩ := (HV.out.quiet HKT.out).get hlt
      have HBAD := Lib.hid (fun (c : Nat) (h : Ir.rowErr many (rows.getD i []) (decide (i + 1 = rows.length)) = c) (h0 : c ≠ 0) => (show f = (c, (i : Int)) by
        rw [HF2.out, Ir.rowsErr_at hil HZ.out (by rw [h]; exact h0), h]))
      obtain ⟨lb, hlb⟩ : ∃ b, decide (i + 1 = rows.length) = b := ⟨_, rfl⟩
      have hbe : ((i : Int) == (m : Int)) = lb := by
        rw [← hlb, HL.out, ← HM.out]
        by_cases e : i = m
        · subst e; simp
        · have : ¬ i + 1 = m + 1 := by omega
          rw [decide_eq_false this]
          exact beq_eq_false_iff_ne.2 (by omega)
      rw [hlb] at HBAD
      have HLB := Lib.hid hlb
      clear hlb
      obtain ⟨l, hl⟩ : ∃ l, rows.getD i [] = l := ⟨_, rfl⟩
      rw [hl] at e0 e1 HBAD
      have HLE := Lib.hid hl
      clear hl hil
      have HE1 := Lib.hid e1
      have HRE := Lib.hid (fun w E V => planRow_any many lb Ai l.length ci l w ea E V e2)
      obtain ⟨c, hcc⟩ : ∃ c, Ir.rowErr many l lb = c := ⟨_, rfl⟩
      rw [hcc] at HRE
      have HCC := Lib.hid hcc
      clear hcc e1 e2
      have hi63 : (i : Int) < n := by omega
      go_wp2_with fail
      refine (HRE.out _ (HE.out.quiet HKT.out) HE1.out).mono ?_
      rintro e w5 ⟨rfl, hk5⟩
      have HK5 := Lib.hid (HKT.out.trans hk5 (fun _ _ h => h))
      have HKI5 := Lib.hid (HKI.out.trans hk5 (fun _ _ h => h))
      clear hk5 e0 c0 c1 c2
      by_cases hc0 : c = 0
      · subst hc0
        rw [show errOf0 ea 0 = .nilIface from rfl]
        have HZ2 := Lib.hid (show ∀ j, j < i + 1 → Ir.rowErr many (rows.getD j []) (decide (j + 1 = rows.length)) = 0 from fun j hj => by
          by_cases e : j = i
          · subst e
            rw [HLE.out, HLB.out, HCC.out]
          · exact HZ.out j (by omega))
        go_wp2_with fail
        go_roundw
        case rel => exact ⟨i + 1, by omega, by go_num, HZ2.out, HKI5.out⟩
        case measure => simp [intOf]; omega
      · have HR := Lib.hid (HBAD.out c HCC.out hc0)
        rw [show errOf0 ea c = .iface 213 (.pointer (some (ea c))) from if_neg hc0]
        have HC0 := Lib.hid hc0
        clear hc0
        go_wp2_with fail
        go_ret
        exact ⟨⟨_, rfl, FaultIs.placed HR.out HC0.out (by omega) w5⟩, HK5.out.alloc _⟩
    · obtain rfl : i = n := by omega
      have HRN := Lib.hid (show f = if 8 < Ir.stores rows.flatten then (8, -1) else (0, -1) by
        rw [HF2.out, Ir.rowsErr_all (fun j hj => HZ.out j (by rw [← HL.out]; exact hj)), ← Ir.stores_flat])
      have HBD := Lib.hid (show ∀ j, j < rows.length → (rows.getD j []).length ≤ 1000 from fun j hj => by
        have := (Ir.rowErr_len (HZ.out j (by rw [← HL.out]; exact hj))).2
        omega)
      clear HZ
      generalize i = n at *
      generalize wr = w3 at *
      have HCN := Lib.hid (fun w V => concat_any A n cap rows w V hc (by omega) HBD.out)
      go_wp2_with fail
      refine (HCN.out _ (HV.out.quiet HKT.out)).mono ?_
      rintro e w5 ⟨v, rfl, hov, hk5⟩
      obtain ⟨A2, c2', rfl, how⟩ := hov
      have HO := Lib.hid (OpsAt.of_owns how rfl)
      have HCP := Lib.hid (owns_cap how)
      have HK5 := Lib.hid (HKT.out.trans hk5 (fun _ _ h => h))
      clear hk5 c0 c1 c2 how
      have HSO := Lib.hid (fun w V => Stores_any A2 rows.flatten.length c2' rows.flatten w V HCP.out)
      obtain ⟨fl, hfl⟩ : ∃ fl, rows.flatten.length = fl := ⟨_, rfl⟩
      obtain ⟨st, hst⟩ : ∃ st, Ir.stores rows.flatten = st := ⟨_, rfl⟩
      rw [hfl] at HSO HO ⊢
      rw [hst] at HSO HRN
      clear hst hfl
      go_wp2_with fail
      refine (HSO.out _ HO.out).mono ?_
      rintro e w6 ⟨rfl, hk6⟩
      have HK6 := Lib.hid (HK5.out.trans hk6 (fun _ _ h => h))
      have gf := (HE.out.quiet HK6.out).c.full
      clear hk6
      by_cases h9 : 8 < st
      · have HR := Lib.hid (show f = (8, -1) by rw [HRN.out, if_pos h9])
        have t9 : decide (8 < st) = true := decide_eq_true h9
        have t9' : decide ((8 : Int) < (st : Int)) = true := decide_eq_true (by omega)
        clear h9
        go_wp2_with fail
        go_ret
        exact ⟨⟨_, rfl, FaultIs.bare HR.out (by decide)⟩, HK6.out⟩
      · have HR := Lib.hid (show f = (0, -1) by rw [HRN.out, if_neg h9])
        have t9 : decide (8 < st) = false := decide_eq_false h9
        have t9' : decide ((8 : Int) < (st : Int)) = false := decide_eq_false (by omega)
        clear h9
        go_wp2_with fail
        go_ret
        exact ⟨⟨_, rfl, .inl ⟨by rw [HR.out], rfl⟩⟩, HK6.out⟩
set_option maxHeartbeats 2000000 in
set_option maxRecDepth 100000 in
theorem planOps_any (pc many : Int) (A : Option Addr) (n cap : Nat) (rows : List (List Ir.Op)) (w : World) (V : RowsAt w A n cap rows) (hc : cap ≤ 9223372036854775807) (hn : n ≤ 1000) (hb : ∀ i, i < rows.length → (rows.getD i []).length ≤ 1000) :
    Calls Tryd.prog 12 #[.agg #[.int .u32 pc, .int .i64 many, .slice A n cap]] w fun e w' => e = .returned (.int .i64 rows.flatten.length) ∧ Keeps (fun _ => False) w w' := by
  have HV := Lib.hid V
  have HN := Lib.hid (code_new w pc many A n cap 29)
  have HCN := Lib.hid (fun w V => concat_any A n cap rows w V hc hn hb)
  obtain ⟨fl, hfl⟩ : ∃ fl, rows.flatten.length = fl := ⟨_, rfl⟩
  rw [hfl]
  have HFL := Lib.hid hfl
  clear V hb hfl
  go_enter Tryd.func12, Tryd.ntmps12
  go_upto_region 1 with fail
  obtain ⟨hV, hK⟩ := HN.out
  generalize w.alloc _ = w1 at *
  generalize w.heap.size = x at *
  have HK1 := Lib.hid hK
  obtain ⟨c0, c1, c2⟩ := hV
  clear hK HN
  go_wp2_with fail
  refine (HCN.out _ (HV.out.quiet HK1.out)).mono ?_
  rintro e w5 ⟨v, rfl, hov, hk5⟩
  obtain ⟨A2, c2', rfl, how⟩ := hov
  have HK5 := Lib.hid (HK1.out.trans hk5 (fun _ _ h => h))
  clear hk5 c0 c1 c2 how
  rw [HFL.out]
  go_wp2_with fail
  go_ret
  exact ⟨rfl, HK5.out⟩
/-- how many the widest row has -/
def Ir.wide (rows : List (List Ir.Op)) : Nat := rows.foldl (fun n l => max n l.length) 0
theorem Ir.wide_step (rows : List (List Ir.Op)) (i : Nat) (h : i < rows.length) : Ir.wide (rows.take (i + 1)) = max (Ir.wide (rows.take i)) (rows.getD i []).length := by
  unfold Ir.wide
  rw [List.take_succ_eq_append_getElem h, List.foldl_append]
  have : rows.getD i [] = rows[i] := by simp [List.getD, h]
  rw [this]
  rfl
set_option maxHeartbeats 4000000 in
set_option maxRecDepth 100000 in
theorem planWide_any (pc many : Int) (A : Option Addr) (n cap : Nat) (rows : List (List Ir.Op)) (w : World) (V : RowsAt w A n cap rows) (hc : cap ≤ 9223372036854775807) :
    Calls Tryd.prog 13 #[.agg #[.int .u32 pc, .int .i64 many, .slice A n cap]] w fun e w' => e = .returned (.int .i64 (Ir.wide rows)) ∧ Keeps (fun _ => False) w w' := by
  have HV := Lib.hid V
  have HL := Lib.hid V.len
  have hnc := V.le
  have HN := Lib.hid (code_new w pc many A n cap 29)
  clear V
  go_enter Tryd.func13, Tryd.ntmps13
  go_upto_region 1 with fail
  obtain ⟨hV, hK⟩ := HN.out
  generalize w.alloc _ = w1 at *
  generalize w.heap.size = x at *
  have HK1 := Lib.hid hK
  have HC1 := Lib.hid hV
  obtain ⟨c0, c1, c2⟩ := hV
  clear hK HN
  go_wp2_with fail
  go_loopw [3, 9] (fun s3 s9 wr => ∃ i st : Nat, i ≤ n ∧ s3 = .int .i64 st ∧ s9 = .int .i64 i ∧ Ir.wide (rows.take i) = st ∧ Keeps (fun _ => False) w wr) (fun _ s9 _ => n - (intOf s9).toNat)
  case atStart => exact ⟨0, 0, by omega, rfl, rfl, rfl, HK1.out⟩
  case round =>
    obtain ⟨i, st, hi, rfl, rfl, hst, hK⟩ := hrel
    have HS := Lib.hid hst
    have HK := Lib.hid hK
    clear hst hK c0 c1 c2
    by_cases hlt : i < n
    · obtain ⟨ob, oo, Ai, ci, rfl, e0, e1, e2⟩ := (HV.out.quiet HK.out).get hlt
      have hil : i < rows.length := by rw [HL.out]; exact hlt
      have HWS := Lib.hid (Ir.wide_step rows i hil)
      obtain ⟨l, hl⟩ : ∃ l, rows.getD i [] = l := ⟨_, rfl⟩
      rw [hl] at e0 HWS
      clear hl hil e1 e2
      obtain ⟨ll, hll⟩ : ∃ ll, l.length = ll := ⟨_, rfl⟩
      rw [hll] at e0 HWS
      clear hll
      have hi63 : (i : Int) < n := by omega
      go_wp2_with fail
      all_goals
        go_roundw
        case rel => exact ⟨i + 1, max st ll, by omega, by first | rfl | (congr 1; omega), by go_num, by rw [HWS.out, HS.out], HK.out⟩
        case measure => simp [intOf]; omega
    · obtain rfl : i = n := by omega
      have HSF := Lib.hid (show Ir.wide rows = st by
        have := HS.out
        rwa [List.take_of_length_le (by rw [HL.out]; exact Nat.le_refl _)] at this)
      go_wp2_with fail
      go_ret
      exact ⟨by rw [HSF.out]; rfl, HK.out⟩
end Go.Proofs.YtknhfobcejpmeaaDoor

/- Bettered -/
/- The walk of the law's bettered: a closed fact. -/
namespace Go.Proofs.YtknhfobcejpmeaaDoor
open Go.RowKit Go.Deep
set_option linter.unusedVariables false
set_option linter.unusedSimpArgs false

theorem OpsAt.lit (w : World) (l : List Ir.Op) (T : TypeId) (n : Nat) (hn : l.length = n) : OpsAt (w.alloc (.cells (opsL l).toArray T)) (some ⟨w.heap.size, 0, none⟩) n n l := by
  refine ⟨hn, Nat.le_refl _, .inr ⟨_, 0, rfl, by simp, fun i hi => OpLies.of_cells fun q hq v hv => ?_⟩⟩
  have e := opsL_get l i q (by omega) hq
  rw [hv] at e
  unfold World.cell?
  rw [blk_alloc_new]
  simp only [Nat.zero_add]
  simpa using e
theorem OptIs.good {w : World} {ea : Nat → Addr} {pc many : Int} {l : List Ir.Op} {level : Int} {cv ev : Value} (h : OptIs w ea pc many l level cv ev) (h0 : (Ir.optFault many l level).1 = 0) :
    ev = .nilIface ∧ ∃ A cap, cv = .agg #[.int .u32 pc, .int .i64 many, .slice A (Ir.opt l level).length cap] ∧ OpsAt w A (Ir.opt l level).length cap (Ir.opt l level) ∧ cap ≤ 9223372036854775807 := by
  obtain ⟨h1, h2⟩ := h
  refine ⟨?_, ?_⟩
  · rcases h1 with h1 | h1 | h1
    · exact h1.2
    · exact absurd h0 h1.1
    · exact absurd h0 h1.1
  · rcases h2 with h2 | h2
    · exact absurd h0 h2.1
    · exact h2.2
/-- the code of the closed fact -/
def betL : List Ir.Op := [⟨⟨#[115, 101, 116]⟩, 40, 0, 0, 7, 0⟩, ⟨⟨#[97, 100, 100]⟩, 6, 40, 40, 0, 0⟩, ⟨⟨#[111, 117, 116]⟩, 0, 0, 0, 40, 0⟩]
theorem bet_fault : Ir.optFault 1 betL 2 = (0, -1) := by decide +kernel
theorem bet_fault1 : Ir.fault 1 betL = (0, -1) := by decide +kernel
theorem bet_known : Ir.known betL = 1 := by decide +kernel
theorem bet_len : (Ir.opt betL 2).length = 2 := by decide +kernel
theorem bet_fault2 : Ir.fault 1 (Ir.opt betL 2) = (0, -1) := by decide +kernel
theorem bet_known2 : Ir.known (Ir.opt betL 2) = 0 := by decide +kernel
theorem bet_dead2 : Ir.deads (Ir.opt betL 2) = 0 := by decide +kernel
theorem bet_ok : ∀ o ∈ betL, OpOk o := by
  intro o ho
  simp only [betL, List.mem_cons, List.not_mem_nil, or_false] at ho
  rcases ho with rfl | rfl | rfl <;> exact ⟨by unfold i64R; decide, by unfold i64R; decide, by unfold i64R; decide, by unfold u32R; decide, by unfold i64R; decide⟩
end Go.Proofs.YtknhfobcejpmeaaDoor
