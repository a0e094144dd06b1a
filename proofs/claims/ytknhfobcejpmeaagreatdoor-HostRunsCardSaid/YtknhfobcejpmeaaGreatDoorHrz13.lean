import Derived.Test.YtknhfobcejpmeaaGreatDoorHrz01
import Derived.Laws.Rows
import Derived.BigQuiet
import Derived.Test.YtknhfobcejpmeaaGreatDoorHrz04
import Derived.Test.YtknhfobcejpmeaaGreatDoorHrz00
import Derived.Maps.OwnOps
import Derived.Maps.OwnSet
import Derived.Test.YtknhfobcejpmeaaGreatDoorStDefs
import Derived.DeepKeys
import Derived.Deep.MidRow
import Derived.Test.YtknhfobcejpmeaaGreatDoorStored
import Derived.Test.YtknhfobcejpmeaaGreatDoorHrz05

/- CodeFault -/
/- The walks of the reference's Bare, Fine, CodeFault. -/
namespace Go.Proofs.YtknhfobcejpmeaaGreatDoor
open Go.RowKit Go.Deep
set_option linter.unusedVariables false
set_option linter.unusedSimpArgs false

theorem size_fault : (Tryz.prog.info? 44).map (·.size) = some 2 := by kernel_rfl
/-- a fault's value -/
def faultV (f : Nat × Int) : Value := .agg #[.int .i64 f.1, .int .i64 f.2]
/-- a fault in a block of its own -/
structure FaultBox (w : World) (x : Nat) (c : Nat) (a : Int) : Prop where
  blk : w.heap[x]? = some (.cells #[.int .i64 c, .int .i64 a] 44 (0, 0))
theorem FaultBox.lt {w : World} {x c : Nat} {a : Int} (h : FaultBox w x c a) : x < w.heap.size := (Array.getElem?_eq_some_iff.1 h.blk).1
theorem FaultBox.keep {S : Nat → Prop} {w w' : World} {x c : Nat} {a : Int} (h : FaultBox w x c a) (k : Keeps S w w') (hs : ¬ S x) : FaultBox w' x c a := ⟨(k.block x h.lt hs).trans h.blk⟩
theorem FaultBox.cells {w : World} {x c : Nat} {a : Int} (h : FaultBox w x c a) :
    w.cell? ⟨x, 0, none⟩ = some (.int .i64 c) ∧ w.cell? ⟨x, 1, none⟩ = some (.int .i64 a) ∧ w.frozen? ⟨x, 0, none⟩ = false ∧ w.frozen? ⟨x, 1, none⟩ = false := by
  refine ⟨?_, ?_, frozen_of_block h.blk 0, frozen_of_block h.blk 1⟩ <;> (unfold World.cell?; rw [h.blk]; rfl)
theorem FaultBox.new (w : World) (c : Nat) (a : Int) : FaultBox (w.alloc (.cells #[.int .i64 c, .int .i64 a] 44)) w.heap.size c a := ⟨blk_alloc_new _ _⟩
theorem FaultBox.put {w : World} {x c c' : Nat} {a a' : Int} (h : FaultBox w x c a) :
    FaultBox ((w.setCell ⟨x, 0, none⟩ (.int .i64 c')).setCell ⟨x, 1, none⟩ (.int .i64 a')) x c' a' ∧ Keeps (· = x) w ((w.setCell ⟨x, 0, none⟩ (.int .i64 c')).setCell ⟨x, 1, none⟩ (.int .i64 a')) := by
  refine ⟨⟨?_⟩, Keeps.trans (Keeps.one _ _ _ _) (Keeps.one _ _ _ _) (fun _ _ h => h)⟩
  have h1 := set_block (set_block h.blk 0 (.int .i64 c')) 1 (.int .i64 a')
  simpa using h1
set_option maxRecDepth 100000 in
theorem faultBare_any (c : Nat) (w : World) :
    Calls Tryz.prog 23 #[.int .i64 c] w fun e w' => e = .returned (faultV (c, -1)) ∧ Keeps (fun _ => False) w w' := by
  have HB := Lib.hid (FaultBox.new w c (-1))
  have HK := Lib.hid ((Keeps.refl (fun _ => False) w).alloc (.cells #[.int .i64 c, .int .i64 (-1)] 44))
  go_enter Tryz.func23, Tryz.ntmps23
  go_wp2_with fail
  exact bodyPost_ret (results_cell_row rfl _ _ w.heap.size 44 #[.int .i64 c, .int .i64 (-1)] (0, 0) _ rfl HB.out.blk Tryz.underlying44 rfl size_fault) rfl ⟨rfl, HK.out⟩
set_option maxRecDepth 100000 in
theorem faultFine_any (w : World) :
    Calls Tryz.prog 50 #[] w fun e w' => e = .returned (faultV (0, -1)) ∧ Keeps (fun _ => False) w w' := by
  have HB := Lib.hid (FaultBox.new w 0 (-1))
  have HK := Lib.hid ((Keeps.refl (fun _ => False) w).alloc (.cells #[.int .i64 0, .int .i64 (-1)] 44))
  go_enter Tryz.func50, Tryz.ntmps50
  go_wp2_with fail
  exact bodyPost_ret (results_cell_row rfl _ _ w.heap.size 44 #[.int .i64 0, .int .i64 (-1)] (0, 0) _ rfl HB.out.blk Tryz.underlying44 rfl size_fault) rfl ⟨rfl, HK.out⟩
theorem errAt_le (many : Int) (l : List Ir.Op) (i : Nat) : Ir.errAt many l i ≤ 10 := by
  have h1 : ∀ o, Ir.opErr o many ≤ 10 := fun o => by unfold Ir.opErr; split <;> (try split) <;> (try split) <;> omega
  unfold Ir.errAt
  split <;> (try split) <;> first | exact h1 _ | omega
set_option maxHeartbeats 8000000 in
set_option maxRecDepth 100000 in
theorem codeFault_any (many : Int) (A : Option Addr) (n cap : Nat) (l : List Ir.Op) (w : World) (V : OpsAt w A n cap l) (hc : cap ≤ 9223372036854775807) :
    Calls Tryz.prog 11 #[.int .i64 many, .slice A n cap] w fun e w' => e = .returned (faultV (Ir.fault many l)) ∧ Keeps (fun _ => False) w w' := by
  have HV := Lib.hid V
  have HL := Lib.hid V.len
  have hnc := V.le
  have HB0 := Lib.hid (FaultBox.new w 0 0)
  have HK0 := Lib.hid ((Keeps.refl (fun _ => False) w).alloc (.cells #[.int .i64 0, .int .i64 0] 44))
  have HF := Lib.hid (show Ir.fault many l = ((if many < 1 ∨ 24 < many then (2, -1) else if 200 < n then (8, -1) else if 8 < Ir.stores l then (8, -1) else if n = 0 then (3, -1)
      else if Ir.isOut (Ir.kn (l.getD (n - 1) Ir.nop).k) = false then (3, -1)
      else match Ir.firstBad many l with | some i => (Ir.errAt many l i, (i : Int)) | none => (0, -1)) : Nat × Int) by rw [← HL.out]; rfl)
  have HSO := Lib.hid (fun w V => storesOf_any A n cap l w V hc)
  obtain ⟨f, hf⟩ : ∃ f, Ir.fault many l = f := ⟨_, rfl⟩
  rw [hf] at HF ⊢
  clear hf V
  generalize Ir.stores l = st at *
  go_enter Tryz.func11, Tryz.ntmps11
  go_upto_region 1 with fail
  obtain ⟨rb, hrb⟩ : ∃ b, w.heap.size = b := ⟨_, rfl⟩
  have HRB := Lib.hid hrb
  rw [hrb] at HB0 ⊢
  clear hrb
  generalize w.alloc _ = w1 at *
  by_cases h1 : many < 1 ∨ 24 < many
  · have HR := Lib.hid (show f = (2, -1) by rw [HF.out, if_pos h1])
    rcases h1 with h1 | h1
    · have t1 : decide (many < 1) = true := decide_eq_true h1
      go_wp2_with fail
      refine (faultBare_any 2 _).mono ?_
      rintro e w9 ⟨rfl, hk9⟩
      have HB9 := Lib.hid (HB0.out.keep hk9 (fun h => h))
      have HK9 := Lib.hid (HK0.out.trans hk9 (fun _ _ h => h))
      clear hk9
      obtain ⟨r0, r1, g0, g1⟩ := HB9.out.cells
      have hp := HB9.out.put (c' := 2) (a' := -1)
      have HP := Lib.hid hp
      clear hp
      unfold faultV
      go_wp2_with fail
      refine bodyPost_ret (results_cell_row rfl _ _ rb 44 #[.int .i64 2, .int .i64 (-1)] (0, 0) _ rfl HP.out.1.blk Tryz.underlying44 rfl size_fault) rfl ⟨by rw [HR.out]; rfl, HK9.out.trans HP.out.2 (fun b hb e => by have e : b = rb := e; have := HRB.out; omega)⟩
    · have t1 : decide (many < 1) = false := decide_eq_false (by omega)
      have t2 : decide (24 < many) = true := decide_eq_true h1
      go_wp2_with fail
      refine (faultBare_any 2 _).mono ?_
      rintro e w9 ⟨rfl, hk9⟩
      have HB9 := Lib.hid (HB0.out.keep hk9 (fun h => h))
      have HK9 := Lib.hid (HK0.out.trans hk9 (fun _ _ h => h))
      clear hk9
      obtain ⟨r0, r1, g0, g1⟩ := HB9.out.cells
      have hp := HB9.out.put (c' := 2) (a' := -1)
      have HP := Lib.hid hp
      clear hp
      unfold faultV
      go_wp2_with fail
      refine bodyPost_ret (results_cell_row rfl _ _ rb 44 #[.int .i64 2, .int .i64 (-1)] (0, 0) _ rfl HP.out.1.blk Tryz.underlying44 rfl size_fault) rfl ⟨by rw [HR.out]; rfl, HK9.out.trans HP.out.2 (fun b hb e => by have e : b = rb := e; have := HRB.out; omega)⟩
  have t1 : decide (many < 1) = false := decide_eq_false (by omega)
  have t2 : decide (24 < many) = false := decide_eq_false (by omega)
  by_cases h2 : 200 < n
  · have HR := Lib.hid (show f = (8, -1) by rw [HF.out, if_neg h1, if_pos h2])
    have t3 : decide (200 < n) = true := decide_eq_true h2
    clear h1
    go_wp2_with fail
    refine (faultBare_any 8 _).mono ?_
    rintro e w9 ⟨rfl, hk9⟩
    have HB9 := Lib.hid (HB0.out.keep hk9 (fun h => h))
    have HK9 := Lib.hid (HK0.out.trans hk9 (fun _ _ h => h))
    clear hk9
    obtain ⟨r0, r1, g0, g1⟩ := HB9.out.cells
    have hp := HB9.out.put (c' := 8) (a' := -1)
    have HP := Lib.hid hp
    clear hp
    unfold faultV
    go_wp2_with fail
    refine bodyPost_ret (results_cell_row rfl _ _ rb 44 #[.int .i64 8, .int .i64 (-1)] (0, 0) _ rfl HP.out.1.blk Tryz.underlying44 rfl size_fault) rfl ⟨by rw [HR.out]; rfl, HK9.out.trans HP.out.2 (fun b hb e => by have e : b = rb := e; have := HRB.out; omega)⟩
  have t3 : decide (200 < n) = false := decide_eq_false h2
  go_wp2_with fail
  refine (HSO.out w1 (HV.out.quiet HK0.out)).mono ?_
  rintro e w2 ⟨rfl, hk2⟩
  have HK2 := Lib.hid (HK0.out.trans hk2 (fun _ _ h => h))
  have HB2 := Lib.hid (HB0.out.keep hk2 (fun h => h))
  clear hk2
  by_cases h3 : 8 < st
  · have HR := Lib.hid (show f = (8, -1) by rw [HF.out, if_neg h1, if_neg h2, if_pos h3])
    have t4 : decide (8 < st) = true := decide_eq_true h3
    clear h1
    go_wp2_with fail
    refine (faultBare_any 8 _).mono ?_
    rintro e w9 ⟨rfl, hk9⟩
    have HB9 := Lib.hid (HB2.out.keep hk9 (fun h => h))
    have HK9 := Lib.hid (HK2.out.trans hk9 (fun _ _ h => h))
    clear hk9
    obtain ⟨r0, r1, g0, g1⟩ := HB9.out.cells
    have hp := HB9.out.put (c' := 8) (a' := -1)
    have HP := Lib.hid hp
    clear hp
    unfold faultV
    go_wp2_with fail
    refine bodyPost_ret (results_cell_row rfl _ _ rb 44 #[.int .i64 8, .int .i64 (-1)] (0, 0) _ rfl HP.out.1.blk Tryz.underlying44 rfl size_fault) rfl ⟨by rw [HR.out]; rfl, HK9.out.trans HP.out.2 (fun b hb e => by have e : b = rb := e; have := HRB.out; omega)⟩
  have t4 : decide (8 < st) = false := decide_eq_false h3
  by_cases h4 : n = 0
  · have HR := Lib.hid (show f = (3, -1) by rw [HF.out, if_neg h1, if_neg h2, if_neg h3, if_pos h4])
    clear h1
    subst h4
    go_wp2_with fail
    refine (faultBare_any 3 _).mono ?_
    rintro e w9 ⟨rfl, hk9⟩
    have HB9 := Lib.hid (HB2.out.keep hk9 (fun h => h))
    have HK9 := Lib.hid (HK2.out.trans hk9 (fun _ _ h => h))
    clear hk9
    obtain ⟨r0, r1, g0, g1⟩ := HB9.out.cells
    have hp := HB9.out.put (c' := 3) (a' := -1)
    have HP := Lib.hid hp
    clear hp
    unfold faultV
    go_wp2_with fail
    refine bodyPost_ret (results_cell_row rfl _ _ rb 44 #[.int .i64 3, .int .i64 (-1)] (0, 0) _ rfl HP.out.1.blk Tryz.underlying44 rfl size_fault) rfl ⟨by rw [HR.out]; rfl, HK9.out.trans HP.out.2 (fun b hb e => by have e : b = rb := e; have := HRB.out; omega)⟩
  have t5 : ((n : Int) == 0) = false := by simpa using h4
  obtain ⟨b, o, rfl, e0, e1, e2, e3, e4, e5⟩ := (HV.out.quiet HK2.out).get (show n - 1 < n by omega)
  have HLX := Lib.hid (show ∃ m, m + 1 = n from ⟨n - 1, by omega⟩)
  obtain ⟨m, hm⟩ := HLX.out
  clear HLX
  have hw1 : IntKind.i64.wrap ((n : Int) - 1) = (m : Int) := by rw [IntKind.wrap_i64]; omega
  have hm1 : (0 : Int) ≤ (m : Int) := by omega
  have hm2 : (m : Int) < (n : Int) := by omega
  have hmm : n - 1 = m := by omega
  rw [hmm] at e0 e1 e2 e3 e4 e5 HF
  have HM := Lib.hid hm
  clear hm hmm
  have HIO := Lib.hid (fun w => isOut_any (l.getD m Ir.nop) w)
  obtain ⟨lo, hlo⟩ : ∃ lo, Ir.isOut (Ir.kn (l.getD m Ir.nop).k) = lo := ⟨_, rfl⟩
  rw [hlo] at HIO HF
  clear hlo
  generalize l.getD m Ir.nop = op0 at *
  go_wp2_with fail
  refine (HIO.out _).mono ?_
  rintro e w3 ⟨rfl, hk3⟩
  have HK3 := Lib.hid (HK2.out.trans hk3 (fun _ _ h => h))
  have HB3 := Lib.hid (HB2.out.keep hk3 (fun h => h))
  clear hk3 e0 e1 e2 e3 e4 e5
  cases lo
  · have HR := Lib.hid (show f = (3, -1) by rw [HF.out, if_neg h1, if_neg h2, if_neg h3, if_neg h4, if_pos rfl])
    clear h1
    go_wp2_with fail
    refine (faultBare_any 3 _).mono ?_
    rintro e w9 ⟨rfl, hk9⟩
    have HB9 := Lib.hid (HB3.out.keep hk9 (fun h => h))
    have HK9 := Lib.hid (HK3.out.trans hk9 (fun _ _ h => h))
    clear hk9
    obtain ⟨r0, r1, g0, g1⟩ := HB9.out.cells
    have hp := HB9.out.put (c' := 3) (a' := -1)
    have HP := Lib.hid hp
    clear hp
    unfold faultV
    go_wp2_with fail
    refine bodyPost_ret (results_cell_row rfl _ _ rb 44 #[.int .i64 3, .int .i64 (-1)] (0, 0) _ rfl HP.out.1.blk Tryz.underlying44 rfl size_fault) rfl ⟨by rw [HR.out]; rfl, HK9.out.trans HP.out.2 (fun b hb e => by have e : b = rb := e; have := HRB.out; omega)⟩
  · have HF2 := Lib.hid (show f = match Ir.firstBad many l with | some i => (Ir.errAt many l i, (i : Int)) | none => (0, -1) by rw [HF.out, if_neg h1, if_neg h2, if_neg h3, if_neg h4, if_neg (by decide)])
    clear h1
    go_wp2_with fail
    go_loopw [6] (fun s6 wr => ∃ i : Nat, i ≤ n ∧ s6 = .int .i64 i ∧ (∀ j, j < i → Ir.errAt many l j = 0) ∧ Keeps (fun _ => False) w3 wr) (fun s6 _ => n - (intOf s6).toNat)
    case atStart => exact ⟨0, by omega, rfl, fun j hj => absurd hj (Nat.not_lt_zero _), Keeps.refl _ _⟩
    case round =>
      obtain ⟨i, hi, rfl, hz, hKi⟩ := hrel
      have HZ := Lib.hid hz
      have HKI := Lib.hid hKi
      clear hz hKi
      by_cases hlt : i < n
      · have HVI := Lib.hid (fun (w' : World) (k : Keeps (fun _ => False) wr w') j (hj : j < n) => (HV.out.quiet ((HK3.out.trans HKI.out (fun _ _ h => h)).trans k (fun _ _ h => h))).get hj)
        have HBAD := Lib.hid (fun (c : Nat) (h : Ir.errAt many l i = c) (h0 : c ≠ 0) => (show f = (c, (i : Int)) by
          rw [HF2.out, Ir.firstBad_at (by rw [HL.out]; exact hlt) (by rw [h]; exact h0) HZ.out]
          show (Ir.errAt many l i, (i : Int)) = _
          rw [h]))
        have HER := Lib.hid (show Ir.errAt many l i = if Ir.opErr (l.getD i Ir.nop) many ≠ 0 then Ir.opErr (l.getD i Ir.nop) many else if (0 < i ∧ (l.getD i Ir.nop).at_ < (l.getD (i - 1) Ir.nop).at_) ∨ (Ir.isOut (Ir.kn (l.getD i Ir.nop).k) = true ∧ i + 1 < n) then 3 else 0 by rw [← HL.out]; rfl)
        obtain ⟨b2, o2, hbb, e0, e1, e2, e3, e4, e5⟩ := HVI.out _ (Keeps.refl _ _) i hlt
        obtain ⟨rfl, rfl⟩ : b = b2 ∧ o = o2 := by injection hbb with h; injection h with h1 h2; exact ⟨h1, h2⟩
        clear hbb
        have HVG := Lib.hid (fun (w' : World) (k : Keeps (fun _ => False) wr w') j (hj : j < n) => (show OpLies w' b (o + j * 6) (l.getD j Ir.nop) by
          obtain ⟨b2, o2, hbb, hx⟩ := HVI.out w' k j hj
          obtain ⟨rfl, rfl⟩ : b = b2 ∧ o = o2 := by injection hbb with h; injection h with h1 h2; exact ⟨h1, h2⟩
          exact hx))
        have HGI := Lib.hid (fun w' k => HVG.out w' k i hlt)
        obtain ⟨op, hop⟩ : ∃ op, l.getD i Ir.nop = op := ⟨_, rfl⟩
        rw [hop] at e0 e1 e2 e3 e4 e5 HER HGI
        clear hop
        have HOE := Lib.hid (fun w => opError_any op many w)
        have HIO := Lib.hid (fun w => isOut_any op w)
        obtain ⟨oe, hoe⟩ : ∃ oe, Ir.opErr op many = oe := ⟨_, rfl⟩
        obtain ⟨io, hio⟩ : ∃ io, Ir.isOut (Ir.kn op.k) = io := ⟨_, rfl⟩
        rw [hoe] at HOE HER
        rw [hio] at HIO HER
        clear hoe hio
        go_wp2_with fail
        refine (HOE.out _).mono ?_
        rintro e w5 ⟨rfl, hk5⟩
        obtain ⟨f0, f1, f2, f3, f4, f5⟩ := HGI.out w5 hk5
        clear e0 e1 e2 e3 e4 e5
        go_wp2_with fail
        refine (HIO.out _).mono ?_
        rintro e w6 ⟨rfl, hk6⟩
        have HK6 := Lib.hid (hk5.trans hk6 (fun _ _ h => h))
        have HKK := Lib.hid (HKI.out.trans HK6.out (fun _ _ h => h))
        have HKT := Lib.hid (HK3.out.trans HKK.out (fun _ _ h => h))
        have HB6 := Lib.hid (HB3.out.keep HKK.out (fun h => h))
        clear f0 f1 f2 f3 f4 f5 hk5 hk6
        obtain ⟨r0, r1, g0, g1⟩ := HB6.out.cells
        by_cases hoe : oe = 0
        · subst hoe
          have HER2 := Lib.hid (show Ir.errAt many l i = if (0 < i ∧ op.at_ < (l.getD (i - 1) Ir.nop).at_) ∨ (io = true ∧ i + 1 < n) then 3 else 0 by rw [HER.out, if_neg (by decide)])
          have HNQ2 := Lib.hid (fun (hq : ¬ (io = true ∧ i + 1 < n)) => (show Ir.errAt many l i = if 0 < i ∧ op.at_ < (l.getD (i - 1) Ir.nop).at_ then 3 else 0 by
            rw [HER2.out]
            by_cases h : 0 < i ∧ op.at_ < (l.getD (i - 1) Ir.nop).at_
            · rw [if_pos (.inl h), if_pos h]
            · rw [if_neg (fun h2 => h2.elim h hq), if_neg h]))
          by_cases hq : io = true ∧ i + 1 < n
          · obtain ⟨rfl, hi1⟩ := hq
            have t6 : decide ((i : Int) + 1 < (n : Int)) = true := decide_eq_true (by omega)
            have HR := Lib.hid (HBAD.out 3 (by rw [HER2.out, if_pos (.inr ⟨rfl, hi1⟩)]) (by decide))
            clear hi1
            have hp := HB6.out.put (c' := 3) (a' := i)
            have HP := Lib.hid hp
            clear hp
            go_wp2_with fail
            refine bodyPost_ret (results_cell_row rfl _ _ rb 44 #[.int .i64 (3 : Nat), .int .i64 i] (0, 0) _ rfl HP.out.1.blk Tryz.underlying44 rfl size_fault) rfl ⟨by rw [HR.out]; rfl, HKT.out.trans HP.out.2 (fun b hb e => by have e : b = rb := e; have := HRB.out; omega)⟩
          · have HER3 := Lib.hid (HNQ2.out hq)
            go_upto_region 17 with fail
            go_cut [66] (fun s66 wx => s66 = .bool false ∧ wx = w6)
            case first =>
              cases io
              · go_wp2_with fail
                go_meet
                exact ⟨rfl, rfl⟩
              · have t6 : decide ((i : Int) + 1 < (n : Int)) = false := decide_eq_false (fun h => hq ⟨rfl, by omega⟩)
                clear hq
                go_wp2_with fail
                go_meet
                exact ⟨rfl, rfl⟩
            case rest =>
              obtain ⟨rfl, rfl⟩ := hcut
              by_cases hi0 : i = 0
              · have t8 : decide (0 < i) = false := decide_eq_false (by omega)
                have HNX := Lib.hid (show Ir.errAt many l i = 0 by rw [HER3.out, if_neg (fun h => by omega)])
                clear hi0 hq
                go_wp2_with fail
                go_roundw
                case rel => exact ⟨i + 1, by omega, by go_num, fun j hj => by
                  by_cases e : j = i
                  · subst e; exact HNX.out
                  · exact HZ.out j (by omega), HKK.out⟩
                case measure => simp [intOf]; omega
              · have t8 : decide (0 < i) = true := decide_eq_true (by omega)
                obtain ⟨p, hp1⟩ : ∃ p, i = p + 1 := ⟨i - 1, by omega⟩
                have HG0 := HGI.out wc HK6.out
                have HG1 := HVG.out wc HK6.out p (by omega)
                have hpp : i - 1 = p := by omega
                rw [hpp] at HER3
                have hw2 : IntKind.i64.wrap ((i : Int) - 1) = (p : Int) := by rw [IntKind.wrap_i64]; omega
                have hp2 : (0 : Int) ≤ (p : Int) := by omega
                have hp3 : (p : Int) < (n : Int) := by omega
                have hl0 : (0 : Int) ≤ (i : Int) := by omega
                have hl1 : (i : Int) < (n : Int) := by omega
                have a5 := HG0.v5
                have b5 := HG1.v5
                generalize l.getD p Ir.nop = op1 at *
                generalize op1.at_ = y1 at *
                generalize op.at_ = y0 at *
                have HPI := Lib.hid hp1
                clear hp1 hpp HG0 HG1 hq
                have hi00 : 0 < i := by omega
                clear hi0
                by_cases hlt2 : y0 < y1
                · have t9 : decide (y0 < y1) = true := decide_eq_true hlt2
                  go_upto_region 20 with fail
                  go_quiet (fail)
                  generalize hwd : wc.drewN _ = wd
                  have hkd : Keeps (fun _ => False) wc wd := by rw [← hwd]; exact Keeps.of_drewN _ _ _
                  clear hwd
                  have HKKd := Lib.hid (HKK.out.trans hkd (fun _ _ h => h))
                  have HKTd := Lib.hid (HKT.out.trans hkd (fun _ _ h => h))
                  have HBd := Lib.hid (HB6.out.keep hkd (fun h => h))
                  clear hkd a5 b5 r0 r1 g0 g1
                  obtain ⟨r0, r1, g0, g1⟩ := HBd.out.cells
                  have HR := Lib.hid (HBAD.out 3 (by rw [HER3.out, if_pos ⟨by omega, hlt2⟩]) (by decide))
                  clear hlt2
                  have hp := HBd.out.put (c' := 3) (a' := i)
                  have HP := Lib.hid hp
                  clear hp
                  go_wp2_with fail
                  refine bodyPost_ret (results_cell_row rfl _ _ rb 44 #[.int .i64 (3 : Nat), .int .i64 i] (0, 0) _ rfl HP.out.1.blk Tryz.underlying44 rfl size_fault) rfl ⟨by rw [HR.out]; rfl, HKTd.out.trans HP.out.2 (fun b hb e => by have e : b = rb := e; have := HRB.out; omega)⟩
                · have t9 : decide (y0 < y1) = false := decide_eq_false hlt2
                  go_upto_region 20 with fail
                  go_quiet (fail)
                  generalize hwd : wc.drewN _ = wd
                  have hkd : Keeps (fun _ => False) wc wd := by rw [← hwd]; exact Keeps.of_drewN _ _ _
                  clear hwd
                  have HKKd := Lib.hid (HKK.out.trans hkd (fun _ _ h => h))
                  have HKTd := Lib.hid (HKT.out.trans hkd (fun _ _ h => h))
                  have HBd := Lib.hid (HB6.out.keep hkd (fun h => h))
                  clear hkd a5 b5 r0 r1 g0 g1
                  have HNX := Lib.hid (show Ir.errAt many l i = 0 by rw [HER3.out, if_neg (fun h => hlt2 h.2)])
                  clear hlt2
                  go_wp2_with fail
                  go_roundw
                  case rel => exact ⟨i + 1, by omega, by go_num, fun j hj => by
                    by_cases e : j = i
                    · subst e; exact HNX.out
                    · exact HZ.out j (by omega), HKKd.out⟩
                  case measure => simp [intOf]; omega
        · have t6 : ((oe : Int) == 0) = false := by simpa using hoe
          have t7 : decide (0 < oe) = true := decide_eq_true (by omega)
          have HR := Lib.hid (HBAD.out oe (by rw [HER.out, if_pos hoe]) hoe)
          clear hoe
          have hp := HB6.out.put (c' := oe) (a' := i)
          have HP := Lib.hid hp
          clear hp
          go_wp2_with fail
          refine bodyPost_ret (results_cell_row rfl _ _ rb 44 #[.int .i64 (oe : Nat), .int .i64 i] (0, 0) _ rfl HP.out.1.blk Tryz.underlying44 rfl size_fault) rfl ⟨by rw [HR.out]; rfl, HKT.out.trans HP.out.2 (fun b hb e => by have e : b = rb := e; have := HRB.out; omega)⟩
      · obtain rfl : i = n := by omega
        have HR := Lib.hid (show f = (0, -1) by rw [HF2.out, Ir.firstBad_none (fun j hj => HZ.out j (by have := HL.out; omega))])
        have HKT := Lib.hid (HK3.out.trans HKI.out (fun _ _ h => h))
        have HB6 := Lib.hid (HB3.out.keep HKI.out (fun h => h))
        go_wp2_with fail
        refine (faultFine_any _).mono ?_
        rintro e w9 ⟨rfl, hk9⟩
        have HB9 := Lib.hid (HB6.out.keep hk9 (fun h => h))
        have HK9 := Lib.hid (HKT.out.trans hk9 (fun _ _ h => h))
        clear hk9
        obtain ⟨r0, r1, g0, g1⟩ := HB9.out.cells
        have hp := HB9.out.put (c' := 0) (a' := -1)
        have HP := Lib.hid hp
        clear hp
        unfold faultV
        go_wp2_with fail
        refine bodyPost_ret (results_cell_row rfl _ _ rb 44 #[.int .i64 0, .int .i64 (-1)] (0, 0) _ rfl HP.out.1.blk Tryz.underlying44 rfl size_fault) rfl ⟨by rw [HR.out]; rfl, HK9.out.trans HP.out.2 (fun b hb e => by have e : b = rb := e; have := HRB.out; omega)⟩
end Go.Proofs.YtknhfobcejpmeaaGreatDoor

/- Place -/
/- The walks of Watch, memory. -/
namespace Go.Proofs.YtknhfobcejpmeaaGreatDoor
open Go.RowKit Go.Deep
set_option linter.unusedVariables false
set_option linter.unusedSimpArgs false

theorem zeroB (w : World) : (zeroValue 4).run Tryz.prog w = .ok (.bool false) w := by kernel_rfl
set_option maxRecDepth 100000 in
theorem watchAt_owns {w : World} {pw n : Nat} {D : DataW Unit} {f : Int → Bool} (h : w.ownsMap Tryz.prog 3 (plainElem Tryz.prog 4) pw n D) (hD : ∀ p : Int, 0 ≤ p → p < 64 → D.atKey (.int .i64 p) (.lit (.bool false)) = .lit (.bool (f p))) : WatchAt w pw f := by
  obtain ⟨es, c, hb, hf, hs, hd⟩ := h
  refine ⟨es, c, hb, fun w' hb' p h0 h1 => ?_⟩
  have hown : w'.ownsMap Tryz.prog 3 (plainElem Tryz.prog 4) pw n D := ⟨es, c, hb', hf, hs, hd⟩
  obtain ⟨v, ps, hrun, hv⟩ := hown.lookup mapK Tryz.underlying139 (zeroB w') (plainElem_bool Tryz.underlying4 false) (Maps.keyOf_int_mk Tryz.underlying3 (wf_i (show i64R p from ⟨by omega, by omega⟩)))
  rw [hD p h0 h1] at hv
  unfold plainElem at hv
  rw [Tryz.underlying4] at hv
  split at hv
  · injection hv with hv
    injection hv with hv _
    injection hv with hv
    injection hv with hv
    rw [hrun, hv]
  · rename_i e2
    cases e2
  · rename_i e2
    cases e2
  · cases hv
/-- nothing is watched -/
theorem watchAt_none {w : World} {pw c : Nat} (hb : w.heap[pw]? = some (.map #[] c)) (hc : c = 0) : WatchAt w pw (fun _ => false) := by
  subst hc
  exact ⟨#[], 0, hb, fun w' hb' p h0 h1 => look_empty w' pw 0 p hb' (wf_i (show i64R p from ⟨by omega, by omega⟩))⟩
/-- what is watched behind Watch of a page -/
def watchF (page : Int) : Int → Bool := fun q => decide (0 ≤ page ∧ page < 64 ∧ q = page)
set_option maxHeartbeats 1000000 in
set_option maxRecDepth 100000 in
theorem watch_any (r pb pw ph cp : Nat) (m : Nat → Int) (page : Int) (w : World) (ea : Nat → Addr) (E : ErrsC w ea) (R : RamAt w r pb pw ph cp m) (hm : w.heap[pw]? = some (.map #[] 0)) :
    Calls Tryz.prog 61 #[.pointer (some ⟨r, 0, none⟩), .int .i64 page, .bool true] w fun e w' => (∃ ev, e = .returned ev) ∧ WatchAt w' pw (watchF page) ∧ Keeps (· = pw) w w' := by
  have hb := E.bound
  by_cases h : 0 ≤ page ∧ page < 64
  · have t1 : decide (page < 0) = false := decide_eq_false (by omega)
    have t2 : decide (64 ≤ page) = false := decide_eq_false (by omega)
    have hbx : w.cell? ⟨r, 1, none⟩ = some (.map (some pw)) := by simp [World.cell?, R.box]
    have hown : w.ownsMap (H := Unit) Tryz.prog 3 (plainElem Tryz.prog 4) pw 0 (.map []) := ⟨#[], 0, hm, ⟨by simp, MapKept.stamped_empty 0, by simp⟩, by simp, rfl⟩
    have hkey := Maps.keyOf_int_mk Tryz.underlying3 (wf_i (show i64R page from ⟨by omega, by omega⟩))
    have HOWN := Lib.hid hown
    have HML := Lib.hid (show 0 < maxLen by decide)
    have HP := Lib.hid h
    clear hown h hm R
    go_enter Tryz.func61, Tryz.ntmps61
    go_wp2_with (at_mapUpdate; refine wpList_mapUpdate_own _ rfl _ _ _ 139 rfl 3 4 mapK Tryz.underlying139 _ pw 0 _ rfl HOWN.out HML.out _ _ _ rfl rfl hkey _ [] (plainElem_bool Tryz.underlying4 true) ?_; intro w4 hown4 hgrow4)
    have HW := Lib.hid (watchAt_owns (f := watchF page) hown4 (fun p h0 h1 => by
      by_cases e : p = page
      · subst e
        rw [Maps.atKey_put_same (by first | exact Maps.isMap_nil | trivial | (unfold Maps.IsMap; simp)) (key_lit _)]
        unfold watchF
        rw [decide_eq_true ⟨h0, h1, rfl⟩]
      · rw [Maps.atKey_put_other (lit_ne e)]
        unfold watchF
        rw [decide_eq_false (fun hh => e hh.2.2)]
        rfl))
    have HK := Lib.hid ((Keeps.refl (fun b => b = pw) w).grown hgrow4 (fun k hk _ => by injection hk with hk; exact hk.symm))
    clear hown4 hgrow4
    go_wp2_with fail
    go_ret
    exact ⟨⟨_, rfl⟩, HW.out, HK.out⟩
  · have HW := Lib.hid (show WatchAt w pw (watchF page) from by
      have e : watchF page = fun _ => false := by
        funext q
        unfold watchF
        exact decide_eq_false (fun hh => h ⟨hh.1, hh.2.1⟩)
      rw [e]
      exact watchAt_none hm rfl)
    clear R hm
    by_cases h1 : page < 0
    · have t1 : decide (page < 0) = true := decide_eq_true h1
      clear h
      go_enter Tryz.func61, Tryz.ntmps61
      go_wp2_with fail
      go_ret
      exact ⟨⟨_, rfl⟩, HW.out, Keeps.refl _ _⟩
    · have t1 : decide (page < 0) = false := decide_eq_false h1
      have t2 : decide (64 ≤ page) = true := decide_eq_true (by omega)
      clear h
      go_enter Tryz.func61, Tryz.ntmps61
      go_wp2_with fail
      go_ret
      exact ⟨⟨_, rfl⟩, HW.out, Keeps.refl _ _⟩
end Go.Proofs.YtknhfobcejpmeaaGreatDoor

/- StEqD -/
/- Two states, or two rows of registers, compared where they are the same. -/
namespace Go.Proofs.YtknhfobcejpmeaaGreatDoor
open Go.RowKit Go.Deep
set_option linter.unusedVariables false

theorem mapM_some {α β : Type} (f : α → Option β) (l : List α) (h : ∀ x ∈ l, ∃ y, f x = some y) : ∃ L, l.mapM f = some L := by
  induction l with
  | nil => exact ⟨[], rfl⟩
  | cons a l ih =>
    obtain ⟨y, hy⟩ := h a (List.mem_cons_self ..)
    obtain ⟨L, hL⟩ := ih fun x hx => h x (List.mem_cons_of_mem _ hx)
    exact ⟨y :: L, by rw [List.mapM_cons, hy, hL]; rfl⟩
theorem lits_int (d : Nat) {t : TypeId} {k : IntKind} (ht : Tryz.prog.underlying t = some (.int k)) (v : Int) (hw : (Lit.int k v).wf = true) : ∃ L, Tryz.prog.keyLits (d + 1) t [.int k v] = some L := by
  refine ⟨[.int k v], ?_⟩
  unfold Program.keyLits
  rw [ht]
  simp only
  rw [if_pos (by simpa using hw)]
theorem wf_W {v : Int} (h : Cp.W v) : (Lit.int .u32 v).wf = true := by
  have e1 : IntKind.u32.min = 0 := by decide
  have e2 : IntKind.u32.max = 4294967295 := by decide
  show (decide (IntKind.u32.min ≤ v) && decide (v ≤ IntKind.u32.max)) = true
  rw [e1, e2]
  unfold Cp.W at h
  simp
  omega
theorem lits_u32 (d : Nat) (v : Int) (h : Cp.W v) : ∃ L, Tryz.prog.keyLits (d + 1) 22 [.int .u32 v] = some L := lits_int d Tryz.underlying22 v (wf_W h)
theorem lits_bool (d : Nat) (b : Bool) : ∃ L, Tryz.prog.keyLits (d + 1) 4 [.bool b] = some L := by
  refine ⟨[.bool b], ?_⟩
  unfold Program.keyLits
  rw [Tryz.underlying4]
theorem cellsOf_u32 : Tryz.prog.cellsOf 22 = 1 := by kernel_rfl
theorem cellsOf_int : Tryz.prog.cellsOf 3 = 1 := by kernel_rfl
theorem cellsOf_bool : Tryz.prog.cellsOf 4 = 1 := by kernel_rfl
theorem cellsOf_regs : Tryz.prog.cellsOf 24 = 32 := by kernel_rfl
theorem cellsOf_st : Tryz.prog.cellsOf 26 = 43 := by kernel_rfl
theorem lits_regs (d : Nat) (R : Nat → Int) (h : ∀ k, k < 32 → Cp.W (R k)) : ∃ L, Tryz.prog.keyLits (d + 2) 24 (regs R) = some L := by
  have hm := mapM_some (fun i => Tryz.prog.keyLits (d + 1) 22 (((regs R).drop (i * Tryz.prog.cellsOf 22)).take (Tryz.prog.cellsOf 22))) (List.range 32) (fun i hi => by
    have hi : i < 32 := List.mem_range.1 hi
    have : ((regs R).drop (i * Tryz.prog.cellsOf 22)).take (Tryz.prog.cellsOf 22) = [.int .u32 (R i)] := by
      rw [cellsOf_u32, Nat.mul_one]
      apply List.ext_getElem?
      intro j
      by_cases hj : j = 0
      · subst hj
        simp [regs, hi]
      · rw [List.getElem?_eq_none (by simp; omega), List.getElem?_eq_none (by simp; omega)]
    simp only [this]
    exact lits_u32 d _ (h i hi))
  obtain ⟨L, hL⟩ := hm
  refine ⟨L.flatten, ?_⟩
  unfold Program.keyLits
  rw [Tryz.underlying24]
  simp only
  rw [if_pos (by rw [regs_len, cellsOf_regs]), hL]
  rfl
theorem fields_st : ∃ fs, Tryz.prog.underlying 26 = some (.struct fs) ∧ fs.all (·.name != "_") = true ∧ fs.toList.map (fun f => (f.type, f.offset)) = [(24, 0), (22, 32), (22, 33), (22, 34), (22, 35), (4, 36), (22, 37), (22, 38), (22, 39), (22, 40), (22, 41), (3, 42)] :=
  ⟨_, Tryz.underlying26, by kernel_rfl, by kernel_rfl⟩
theorem take_rest (s : Cp.St) (i : Nat) (v : Value) (h : (restC s)[i]? = some v) : ((stL s).drop (32 + i)).take 1 = [v] := by
  have hlt := (List.getElem?_eq_some_iff.1 h).1
  have : (stL s)[32 + i]? = some v := by
    unfold stL
    rw [List.getElem?_append_right (by rw [regs_len]; omega), regs_len, show 32 + i - 32 = i by omega]
    exact h
  apply List.ext_getElem?
  intro j
  by_cases hj : j = 0
  · subst hj
    rw [List.getElem?_take_of_lt (by omega), List.getElem?_drop]
    exact this
  · rw [List.getElem?_eq_none (by simp; omega), List.getElem?_eq_none (by simp; omega)]
theorem lits_st (d : Nat) (s : Cp.St) (h : Cp.Rng s) : ∃ L, Tryz.prog.keyLits (d + 3) 26 (stL s) = some L := by
  obtain ⟨fs, hu, hn, hf⟩ := fields_st
  have hm := mapM_some (fun f => Tryz.prog.keyLits (d + 2) f.type (((stL s).drop f.offset).take (Tryz.prog.cellsOf f.type))) fs.toList (fun f hf' => by
    have hmem : (f.type, f.offset) ∈ fs.toList.map (fun f => (f.type, f.offset)) := List.mem_map_of_mem hf'
    rw [hf] at hmem
    have hint : (Lit.int .i64 s.count).wf = true := WalkArith.wf_i64 (by have := h.count; omega)
    simp only [List.mem_cons, Prod.mk.injEq, List.not_mem_nil, or_false] at hmem
    rcases hmem with ⟨e1, e2⟩ | ⟨e1, e2⟩ | ⟨e1, e2⟩ | ⟨e1, e2⟩ | ⟨e1, e2⟩ | ⟨e1, e2⟩ | ⟨e1, e2⟩ | ⟨e1, e2⟩ | ⟨e1, e2⟩ | ⟨e1, e2⟩ | ⟨e1, e2⟩ | ⟨e1, e2⟩
    all_goals rw [e1, e2]
    · rw [cellsOf_regs]
      have : ((stL s).drop 0).take 32 = regs s.R := by
        rw [List.drop_zero]
        unfold stL
        rw [List.take_append_of_le_length (by rw [regs_len]; omega), ← regs_len s.R, List.take_length]
      rw [this]
      exact lits_regs d s.R h.R
    · rw [cellsOf_u32, take_rest s 0 _ rfl]; exact lits_u32 _ _ h.hi
    · rw [cellsOf_u32, take_rest s 1 _ rfl]; exact lits_u32 _ _ h.lo
    · rw [cellsOf_u32, take_rest s 2 _ rfl]; exact lits_u32 _ _ h.pc
    · rw [cellsOf_u32, take_rest s 3 _ rfl]; exact lits_u32 _ _ h.next
    · rw [cellsOf_bool, take_rest s 4 _ rfl]; exact lits_bool _ _
    · rw [cellsOf_u32, take_rest s 5 _ rfl]; exact lits_u32 _ _ h.status
    · rw [cellsOf_u32, take_rest s 6 _ rfl]; exact lits_u32 _ _ h.cause
    · rw [cellsOf_u32, take_rest s 7 _ rfl]; exact lits_u32 _ _ h.epc
    · rw [cellsOf_u32, take_rest s 8 _ rfl]; exact lits_u32 _ _ h.bad
    · rw [cellsOf_u32, take_rest s 9 _ rfl]; exact lits_u32 _ _ h.compare
    · rw [cellsOf_int, take_rest s 10 _ rfl]; exact lits_int _ Tryz.underlying3 _ hint)
  obtain ⟨L, hL⟩ := hm
  refine ⟨L.flatten, ?_⟩
  unfold Program.keyLits
  rw [hu]
  simp only
  rw [if_pos ⟨by rw [cellsOf_st]; simp [stL, regs, restC], hn⟩, hL]
  rfl
theorem equal_same {t : TypeId} {m : Nat} (hm : m ≤ 10000) (hk : Tryz.prog.keyTypeAt m t = true) (w : World) (cs : List Value) (hf : (Value.agg cs.toArray).formed Tryz.prog t = true) (hL : ∃ L, Tryz.prog.keyLits 5 t cs = some L) :
    (Op.equal t (.agg cs.toArray) (.agg cs.toArray)).run Tryz.prog w = .ok true w := by
  obtain ⟨L, hL⟩ := hL
  obtain ⟨r, hr, hi⟩ := run_equalIn_deep (P := Tryz.prog) (10000 - m) m t hk w 5 5 _ _ L L hf hf hL hL
  rw [show 10000 - m + m = 10000 by omega] at hr
  rw [hi.2 rfl] at hr
  exact hr
theorem equal_regs (w : World) (R : Nat → Int) (h : ∀ k, k < 32 → Cp.W (R k)) : (Op.equal 24 (.agg (regs R).toArray) (.agg (regs R).toArray)).run Tryz.prog w = .ok true w :=
  equal_same (m := 3) (by omega) (by kernel_rfl) w _ (by
    unfold Value.formed
    rw [Tryz.underlying24, cellsOf_regs]
    simp [regs]) (lits_regs 3 R h)
theorem equal_st (w : World) (s : Cp.St) (h : Cp.Rng s) : (Op.equal 26 (.agg (stL s).toArray) (.agg (stL s).toArray)).run Tryz.prog w = .ok true w :=
  equal_same (m := 4) (by omega) (by kernel_rfl) w _ (by
    unfold Value.formed
    rw [Tryz.underlying26, cellsOf_st]
    simp [stL, regs, restC]) (lits_st 2 s h)
/-- '!=' and '==' of two values of cells that are the same -/
theorem run_bin_agg {P : Program} (o : BinOp) (ho : o = .neq ∨ o = .eql) (t : TypeId) (x y : Operand) (cs : Array Value) (w : World) (hg : P.eqGuardType P.depth t = false) (he : (Op.equal t (.agg cs) (.agg cs)).run P w = .ok true w) :
    (do eqGuard o t x y (.agg cs) (.agg cs); binOp o t (.agg cs) (.agg cs) : Sem Value).run P w = .ok (.bool (if o = .eql then true else false)) w := by
  rcases ho with rfl | rfl
  · have h1 : (eqGuard .neq t x y (.agg cs) (.agg cs)).run P w = .ok () w := by
      simp [eqGuard, Sem.run_bind, run_program, hg]
    simp [Sem.run_bind, h1, binOp, he]
  · have h1 : (eqGuard .eql t x y (.agg cs) (.agg cs)).run P w = .ok () w := by
      simp [eqGuard, Sem.run_bind, run_program, hg]
    simp [Sem.run_bind, h1, binOp, he]
theorem wp_bin_agg {P : Program} {op : Oper} {a : Act} {w : World} {K : Act → World → Prop} {Q : Exit → Act → World → Prop} (o : BinOp) (hoo : o = .neq ∨ o = .eql) (t t' : TypeId) (x y : Operand) (ho : op.op = .binOp o t x y t') (cs : Array Value)
    (hx : a.eval x = .agg cs) (hy : a.eval y = .agg cs) (hg : P.eqGuardType P.depth t = false) (he : (Op.equal t (.agg cs) (.agg cs)).run P w = .ok true w) (h : K (a.put op.dst (.bool (if o = .eql then true else false))) w) : op.wp P a w K Q := by
  have hr := run_bin_agg o hoo t x y cs w hg he
  unfold Oper.wp execOp
  simp only [ho, hx, hy]
  rw [Sem.run_bind, hr]
  exact h
theorem eqg_regs : Tryz.prog.eqGuardType Tryz.prog.depth 24 = false := by kernel_rfl
theorem eqg_st : Tryz.prog.eqGuardType Tryz.prog.depth 26 = false := by kernel_rfl
end Go.Proofs.YtknhfobcejpmeaaGreatDoor

/- StPutD -/
/- A state of the processor copied: loaded whole, stored whole into a new block. -/
namespace Go.Proofs.YtknhfobcejpmeaaGreatDoor
open Go.RowKit Go.Deep
set_option linter.unusedVariables false

theorem stL_len (s : Cp.St) : (stL s).length = 43 := by simp [stL, regs, restC]
theorem size_st : (Tryz.prog.info? 26).map (·.size) = some 43 := by kernel_rfl
theorem StAt.range {w : World} {sb : Nat} {s : Cp.St} (h : StAt w sb s) : w.rangeAt sb 0 (stL s) := fun j v hv => by
  unfold World.cell?
  rw [h]
  simpa using hv
theorem stL_one (s : Cp.St) : (stL s).toArray.all (·.oneCell') = true := by
  refine all_oneCell_toArray fun v hv => ?_
  unfold stL at hv
  rcases List.mem_append.1 hv with h | h
  · unfold regs at h
    obtain ⟨k, _, rfl⟩ := List.mem_map.1 h
    rfl
  · unfold restC at h
    simp only [List.mem_cons, List.not_mem_nil, or_false] at h
    rcases h with rfl | rfl | rfl | rfl | rfl | rfl | rfl | rfl | rfl | rfl | rfl <;> rfl
/-- THE LOAD of a whole state -/
theorem wpList_load_st {ops : Array Oper} {rest : List Oper} {op : Oper} {a : Act} {w : World} {Q : Exit → Act → World → Prop} (hgd : op.guard = none) (x : Operand) (ho : op.op = .load 26 x) (sb : Nat) (s : Cp.St) (h : StAt w sb s)
    (hx : a.eval x = .pointer (some ⟨sb, 0, none⟩)) (hk : wpList Tryz.prog ops Q rest (a.put op.dst (.agg (stL s).toArray)) w) : wpList Tryz.prog ops Q (op :: rest) a w :=
  wpList_load_mid hgd _ x ho sb 0 hx (stL s) _ h.range Tryz.underlying26 rfl (by rw [stL_len]; exact size_st) hk
theorem size_regs : (Tryz.prog.info? 24).map (·.size) = some 32 := by kernel_rfl
theorem StAt.rangeR {w : World} {sb : Nat} {s : Cp.St} (h : StAt w sb s) : w.rangeAt sb 0 (regs s.R) := fun j v hv => by
  have hj : j < 32 := by have := (List.getElem?_eq_some_iff.1 hv).1; rwa [regs_len] at this
  refine h.range j v ?_
  unfold stL
  rw [List.getElem?_append_left (by rw [regs_len]; exact hj)]
  exact hv
/-- the load of the registers -/
theorem wpList_load_regs {ops : Array Oper} {rest : List Oper} {op : Oper} {a : Act} {w : World} {Q : Exit → Act → World → Prop} (hgd : op.guard = none) (x : Operand) (ho : op.op = .load 24 x) (sb : Nat) (s : Cp.St) (R : Nat → Int) (hR : s.R = R) (h : StAt w sb s)
    (hx : a.eval x = .pointer (some ⟨sb, 0, none⟩)) (hk : wpList Tryz.prog ops Q rest (a.put op.dst (.agg (regs R).toArray)) w) : wpList Tryz.prog ops Q (op :: rest) a w := by
  subst hR
  exact wpList_load_mid hgd _ x ho sb 0 hx (regs s.R) _ h.rangeR Tryz.underlying24 rfl (by rw [regs_len]; exact size_regs) hk
theorem wpList_bin_regs {ops : Array Oper} {rest : List Oper} {op : Oper} {a : Act} {w : World} {Q : Exit → Act → World → Prop} (hgd : op.guard = none) (o : BinOp) (hoo : o = .neq ∨ o = .eql) (t' : TypeId) (x y : Operand) (ho : op.op = .binOp o 24 x y t') (R : Nat → Int) (hR : ∀ k, k < 32 → Cp.W (R k))
    (hx : a.eval x = .agg (regs R).toArray) (hy : a.eval y = .agg (regs R).toArray) (hk : wpList Tryz.prog ops Q rest (a.put op.dst (.bool (if o = .eql then true else false))) w) : wpList Tryz.prog ops Q (op :: rest) a w :=
  wpList_plain hgd fun _ hK => wp_bin_agg o hoo _ t' x y ho _ hx hy eqg_regs (equal_regs w R hR) (hK _ _ hk)
theorem wpList_bin_st {ops : Array Oper} {rest : List Oper} {op : Oper} {a : Act} {w : World} {Q : Exit → Act → World → Prop} (hgd : op.guard = none) (o : BinOp) (hoo : o = .neq ∨ o = .eql) (t' : TypeId) (x y : Operand) (ho : op.op = .binOp o 26 x y t') (s : Cp.St) (hs : Cp.Rng s)
    (hx : a.eval x = .agg (stL s).toArray) (hy : a.eval y = .agg (stL s).toArray) (hk : wpList Tryz.prog ops Q rest (a.put op.dst (.bool (if o = .eql then true else false))) w) : wpList Tryz.prog ops Q (op :: rest) a w :=
  wpList_plain hgd fun _ hK => wp_bin_agg o hoo _ t' x y ho _ hx hy eqg_st (equal_st w s hs) (hK _ _ hk)
theorem wpList_neq_regs {ops : Array Oper} {rest : List Oper} {op : Oper} {a : Act} {w : World} {Q : Exit → Act → World → Prop} (hgd : op.guard = none) (t' : TypeId) (x y : Operand) (ho : op.op = .binOp .neq 24 x y t') (R : Nat → Int) (hR : ∀ k, k < 32 → Cp.W (R k))
    (hx : a.eval x = .agg (regs R).toArray) (hy : a.eval y = .agg (regs R).toArray) (hk : wpList Tryz.prog ops Q rest (a.put op.dst (.bool false)) w) : wpList Tryz.prog ops Q (op :: rest) a w :=
  wpList_bin_regs hgd .neq (.inl rfl) t' x y ho R hR hx hy hk
theorem setCells_block {b : Nat} {T : TypeId} {f : Nat × Nat} : ∀ (vs : List Value) (o : Nat) (w : World) (cs : Array Value), w.heap[b]? = some (.cells cs T f) →
    ∃ cs', (w.setCells b o vs).heap[b]? = some (.cells cs' T f) ∧ cs'.size = cs.size ∧ ∀ j, cs'[j]? = if o ≤ j ∧ j < o + vs.length ∧ j < cs.size then vs[j - o]? else cs[j]?
  | [], o, w, cs, h => ⟨cs, h, rfl, fun j => by rw [if_neg (by simp; omega)]⟩
  | v :: r, o, w, cs, h => by
    obtain ⟨cs', h1, h2, h3⟩ := setCells_block r (o + 1) (w.setCell ⟨b, o, none⟩ v) _ (set_block h o v)
    refine ⟨cs', h1, by rw [h2]; simp, fun j => ?_⟩
    rw [h3 j]
    simp only [Array.size_setIfInBounds, List.length_cons]
    by_cases h4 : o + 1 ≤ j ∧ j < o + 1 + r.length ∧ j < cs.size
    · rw [if_pos h4, if_pos (by omega), show j - o = (j - (o + 1)) + 1 by omega, List.getElem?_cons_succ]
    · rw [if_neg h4]
      by_cases h5 : o = j
      · subst h5
        by_cases h6 : o < cs.size
        · rw [if_pos (by omega)]
          simp [h6]
        · rw [if_neg (by omega), Array.getElem?_eq_none (by simp; omega), Array.getElem?_eq_none (by omega)]
      · rw [if_neg (by omega), Array.getElem?_setIfInBounds_ne h5]
theorem keeps_setCells (b : Nat) : ∀ (vs : List Value) (o : Nat) (w : World), Keeps (· = b) w (w.setCells b o vs)
  | [], _, w => Keeps.refl _ w
  | v :: r, o, w => (Keeps.one w b o v).trans (keeps_setCells b r (o + 1) _) (fun _ _ h => h)
/-- a state stored whole -/
theorem StAt.putAll {w : World} {b : Nat} {cs : Array Value} (h : w.heap[b]? = some (.cells cs 26 (0, 0))) (hc : cs.size = 43) (s : Cp.St) : StAt (w.setCells b 0 (stL s)) b s := by
  obtain ⟨cs', h1, h2, h3⟩ := setCells_block (stL s) 0 w cs h
  have he : cs' = (stL s).toArray := Array.ext_getElem? fun j => by
    rw [h3 j, stL_len, hc]
    by_cases hj : j < 43
    · rw [if_pos (by omega)]
      simp
    · rw [if_neg (by omega), Array.getElem?_eq_none (by omega), List.getElem?_toArray, List.getElem?_eq_none (by rw [stL_len]; omega)]
  subst he
  exact h1
theorem wpList_store_st {ops : Array Oper} {rest : List Oper} {op : Oper} {a : Act} {w : World} {Q : Exit → Act → World → Prop} (hgd : op.guard = none) (x y : Operand) (ho : op.op = .store 26 x y) (b : Nat) (cs : Array Value) (s : Cp.St) (h : w.heap[b]? = some (.cells cs 26 (0, 0))) (hc : cs.size = 43)
    (hx : a.eval x = .pointer (some ⟨b, 0, none⟩)) (hy : a.eval y = .agg (stL s).toArray) (hk : ∀ w', StAt w' b s → Keeps (· = b) w w' → wpList Tryz.prog ops Q rest (a.put op.dst undef) w') : wpList Tryz.prog ops Q (op :: rest) a w :=
  wpList_store_mid hgd _ x y ho b 0 (stL s).toArray hx hy (fun j hj => by
    have hj2 : j < 43 := by simpa [stL_len] using hj
    refine ⟨?_, frozen_of_block h _⟩
    unfold World.cell?
    rw [h]
    simp [hc, hj2]) (by simpa [stL_len] using size_st) (stL_one s) (hk _ (StAt.putAll h hc s) (keeps_setCells b _ 0 w))
end Go.Proofs.YtknhfobcejpmeaaGreatDoor

/- Place2 -/
/- Places as they come in; the walks of longPlace, memory, placed. -/
namespace Go.Proofs.YtknhfobcejpmeaaGreatDoor
open Go.RowKit Go.Deep
set_option linter.unusedVariables false
set_option linter.unusedSimpArgs false

/-- a place's cells -/
def placeL (s : Cp.St) (A : Option Addr) (n cap : Nat) (page : Int) : List Value := stL s ++ [.slice A n cap, .int .i64 page]
/-- a place in a block of its own -/
structure PlaceAt (w : World) (x : Nat) (s : Cp.St) (A : Option Addr) (n cap : Nat) (page : Int) : Prop where
  blk : w.heap[x]? = some (.cells (placeL s A n cap page).toArray 29 (0, 0))
theorem PlaceAt.new (w : World) (s : Cp.St) (A : Option Addr) (n cap : Nat) (page : Int) : PlaceAt (w.alloc (.cells (placeL s A n cap page).toArray 29)) w.heap.size s A n cap page := ⟨blk_alloc_new _ _⟩
theorem PlaceAt.lt {w : World} {x : Nat} {s : Cp.St} {A : Option Addr} {n cap : Nat} {page : Int} (h : PlaceAt w x s A n cap page) : x < w.heap.size := (Array.getElem?_eq_some_iff.1 h.blk).1
theorem PlaceAt.keep {S : Nat → Prop} {w w' : World} {x : Nat} {s : Cp.St} {A : Option Addr} {n cap : Nat} {page : Int} (h : PlaceAt w x s A n cap page) (k : Keeps S w w') (hs : ¬ S x) : PlaceAt w' x s A n cap page := ⟨(k.block x h.lt hs).trans h.blk⟩
theorem PlaceAt.range {w : World} {x : Nat} {s : Cp.St} {A : Option Addr} {n cap : Nat} {page : Int} (h : PlaceAt w x s A n cap page) : w.rangeAt x 0 (placeL s A n cap page) := fun j v hv => by
  unfold World.cell?
  rw [h.blk]
  simpa using hv
theorem placeL_st (s : Cp.St) (A : Option Addr) (n cap : Nat) (page : Int) (j : Nat) (hj : j < 43) : (placeL s A n cap page)[j]? = (stL s)[j]? := by
  unfold placeL
  rw [List.getElem?_append_left (by rw [stL_len]; exact hj)]
theorem PlaceAt.rangeS {w : World} {x : Nat} {s : Cp.St} {A : Option Addr} {n cap : Nat} {page : Int} (h : PlaceAt w x s A n cap page) : w.rangeAt x 0 (stL s) := fun j v hv => by
  have hj : j < 43 := by have := (List.getElem?_eq_some_iff.1 hv).1; rwa [stL_len] at this
  exact h.range j v (by rw [placeL_st s A n cap page j hj]; exact hv)
theorem PlaceAt.count {w : World} {x : Nat} {s : Cp.St} {A : Option Addr} {n cap : Nat} {page : Int} (h : PlaceAt w x s A n cap page) : w.cell? ⟨x, 42, none⟩ = some (.int .i64 s.count) := by
  have := h.range 42 (.int .i64 s.count) (by
    rw [placeL_st s A n cap page 42 (by omega)]
    unfold stL
    rw [List.getElem?_append_right (by rw [regs_len]; omega), regs_len]
    rfl)
  simpa using this
theorem PlaceAt.tail {w : World} {x : Nat} {s : Cp.St} {A : Option Addr} {n cap : Nat} {page : Int} (h : PlaceAt w x s A n cap page) : w.cell? ⟨x, 43, none⟩ = some (.slice A n cap) ∧ w.cell? ⟨x, 44, none⟩ = some (.int .i64 page) := by
  constructor
  · have := h.range 43 (.slice A n cap) (by
      unfold placeL
      rw [List.getElem?_append_right (by rw [stL_len]; omega), stL_len]
      rfl)
    simpa using this
  · have := h.range 44 (.int .i64 page) (by
      unfold placeL
      rw [List.getElem?_append_right (by rw [stL_len]; omega), stL_len]
      rfl)
    simpa using this
/-- what longPlace answers -/
def LongIs (w : World) (n : Nat) (c : Int) (e : Ending) (w' : World) : Prop := ∃ b, e = .returned (.bool b) ∧ (b = false → n ≤ 200 ∧ 0 ≤ c ∧ c ≤ 1099511627776) ∧ Keeps (fun _ => False) w w'
set_option maxHeartbeats 1000000 in
set_option maxRecDepth 100000 in
theorem longPlace_any (s : Cp.St) (A : Option Addr) (n cap : Nat) (page : Int) (w : World) :
    Calls Tryz.prog 8 #[.agg (placeL s A n cap page).toArray] w (LongIs w n s.count) := by
  have HN := Lib.hid (PlaceAt.new w s A n cap page)
  have HK := Lib.hid ((Keeps.refl (fun _ => False) w).alloc (.cells (placeL s A n cap page).toArray 29))
  go_enter Tryz.func8, Tryz.ntmps8
  go_upto_region 1 with fail
  obtain ⟨t43, _⟩ := HN.out.tail
  have t42 := HN.out.count
  have HK1 := Lib.hid HK.out
  clear HN HK
  generalize w.alloc _ = w1 at *
  generalize w.heap.size = x at *
  by_cases h1 : 200 < n
  · have t1 : decide ((200 : Int) < (n : Int)) = true := decide_eq_true (by omega)
    go_wp2_with fail
    go_ret
    exact ⟨true, rfl, (fun h => by cases h), HK1.out⟩
  · have t1 : decide ((200 : Int) < (n : Int)) = false := decide_eq_false (by omega)
    by_cases h2 : s.count < 0
    · have t2 : decide (s.count < 0) = true := decide_eq_true h2
      go_wp2_with fail
      go_ret
      exact ⟨true, rfl, (fun h => by cases h), HK1.out⟩
    · have t2 : decide (s.count < 0) = false := decide_eq_false h2
      by_cases h3 : 1099511627776 < s.count
      · have t3 : decide (1099511627776 < s.count) = true := decide_eq_true h3
        go_wp2_with fail
        go_ret
        exact ⟨true, rfl, (fun h => by cases h), HK1.out⟩
      · have t3 : decide (1099511627776 < s.count) = false := decide_eq_false h3
        have HC := Lib.hid (show n ≤ 200 ∧ 0 ≤ s.count ∧ s.count ≤ 1099511627776 by omega)
        go_wp2_with fail
        go_ret
        exact ⟨false, rfl, (fun _ => HC.out), HK1.out⟩
/-- what memory answers -/
def MemIs (w : World) (n : Nat) (ws : Nat → Int) (page : Int) (e : Ending) (w' : World) : Prop :=
  ∃ r pb pw ph, e = .returned (.pointer (some ⟨r, 0, none⟩)) ∧ RamAt w' r pb pw ph 16384 (ramOf (min n 4096) ws) ∧ WatchAt w' pw (watchF page) ∧ w'.heap[ph]? = some (.map #[] 0) ∧ (w.heap.size ≤ r ∧ w.heap.size ≤ pb ∧ w.heap.size ≤ pw ∧ w.heap.size ≤ ph) ∧ Keeps (fun _ => False) w w'
set_option maxHeartbeats 1000000 in
set_option maxRecDepth 100000 in
theorem memory_any (s : Cp.St) (A : Option Addr) (n cap : Nat) (page : Int) (ws : Nat → Int) (w : World) (ea : Nat → Addr) (E : ErrsC w ea) (hR : Reads w A n cap (fun i => .int .u32 (ws i))) (hc : cap ≤ 9223372036854775807) (hr : ∀ i, i < n → 0 ≤ ws i ∧ ws i < 4294967296) :
    Calls Tryz.prog 25 #[.agg (placeL s A n cap page).toArray] w (MemIs w n ws page) := by
  have HE := Lib.hid E
  have HRD := Lib.hid hR
  have HRR := Lib.hid hr
  have HN := Lib.hid (PlaceAt.new w s A n cap page)
  have HK := Lib.hid ((Keeps.refl (fun _ => False) w).alloc (.cells (placeL s A n cap page).toArray 29))
  clear E hR hr
  go_enter Tryz.func25, Tryz.ntmps25
  go_upto_region 1 with fail
  have HP1 := Lib.hid HN.out
  obtain ⟨t43, t44⟩ := HN.out.tail
  have HK1 := Lib.hid HK.out
  clear HN HK
  generalize w.alloc _ = w1 at *
  obtain ⟨x, hx⟩ : ∃ x, w.heap.size = x := ⟨_, rfl⟩
  rw [hx] at t43 t44 HP1 ⊢
  clear hx
  go_wp2_with fail
  refine (new_any n cap A w1 ws (HRD.out.keep HK1.out (fun _ _ _ h => h)) hc HRR.out).mono ?_
  rintro e w2 ⟨rfl, hN2⟩
  have HN2 := Lib.hid hN2
  have HR2 := Lib.hid hN2.ram
  have HK2 := Lib.hid (HK1.out.trans hN2.keeps (fun _ _ h => h))
  have HW2 := Lib.hid hN2.watch
  have HT2 := Lib.hid hN2.hits
  have HLO := Lib.hid HK1.out.size
  have hP2 := HP1.out.keep hN2.keeps (fun h => h)
  clear hN2 t43 t44
  obtain ⟨t43, t44⟩ := hP2.tail
  have hne : (Value.pointer (some ⟨w1.heap.size + 3, 0, none⟩)) ≠ .pointer none := by intro h; cases h
  have HWA := Lib.hid (watch_any (w1.heap.size + 3) w1.heap.size (w1.heap.size + 1) (w1.heap.size + 2) 16384 _ page w2 ea (HE.out.quiet HK2.out) HR2.out HW2.out)
  clear hP2 hne
  go_wp2_with fail
  refine HWA.out.mono ?_
  rintro e w3 ⟨⟨ev, rfl⟩, hW3, hk3⟩
  have HW3 := Lib.hid hW3
  have HR3 := Lib.hid (HR2.out.keep hk3 (fun e => HR2.out.apart.2.1 e) (fun e => HR2.out.apart.2.2.2.1 e))
  have HT3 := Lib.hid (hk3.map HT2.out (fun e => HR2.out.apart.2.2.2.2.2 (Eq.symm e)))
  have HK3 := Lib.hid (HK2.out.trans hk3 (fun b hb e => by have := HLO.out; omega))
  clear hW3 hk3 t43 t44
  go_wp2_with fail
  go_ret
  exact ⟨_, _, _, _, rfl, HR3.out, HW3.out, HT3.out, by have := HLO.out; omega, HK3.out⟩
def st0L : List Value := stL ⟨fun _ => 0, 0, 0, 0, 0, false, 0, 0, 0, 0, 0, 0⟩
theorem st0_lit : st0L.toArray = #[.int .u32 0, .int .u32 0, .int .u32 0, .int .u32 0, .int .u32 0, .int .u32 0, .int .u32 0, .int .u32 0, .int .u32 0, .int .u32 0, .int .u32 0, .int .u32 0, .int .u32 0, .int .u32 0, .int .u32 0, .int .u32 0, .int .u32 0, .int .u32 0, .int .u32 0, .int .u32 0, .int .u32 0, .int .u32 0, .int .u32 0, .int .u32 0, .int .u32 0, .int .u32 0, .int .u32 0, .int .u32 0, .int .u32 0, .int .u32 0, .int .u32 0, .int .u32 0, .int .u32 0, .int .u32 0, .int .u32 0, .int .u32 0, .bool false, .int .u32 0, .int .u32 0, .int .u32 0, .int .u32 0, .int .u32 0, .int .i64 0] := by kernel_rfl
/-- a place's state, as a code at pc begins -/
def Ir.placed (s : Cp.St) (pc : Int) : Cp.St := { s with R := fun k => if k = 0 then 0 else s.R k, pc := pc, next := (pc + 4) % 4294967296, slot := false }
set_option maxHeartbeats 2000000 in
set_option maxRecDepth 100000 in
theorem placed_any (s : Cp.St) (A : Option Addr) (n cap : Nat) (page pc : Int) (w : World) (hpc : 0 ≤ pc ∧ pc < 4294967296) :
    Calls Tryz.prog 24 #[.agg (placeL s A n cap page).toArray, .int .u32 pc] w fun e w' => e = .returned (.agg (stL (Ir.placed s pc)).toArray) ∧ Keeps (fun _ => False) w w' := by
  have HN := Lib.hid (PlaceAt.new w s A n cap page)
  have HK := Lib.hid ((Keeps.refl (fun _ => False) w).alloc (.cells (placeL s A n cap page).toArray 29))
  obtain ⟨sp, hsp⟩ : ∃ sp, Ir.placed s pc = sp := ⟨_, rfl⟩
  rw [hsp]
  have HSP := Lib.hid hsp
  clear hsp
  go_enter Tryz.func24, Tryz.ntmps24
  go_upto_region 1 with fail
  obtain ⟨rb, hrb⟩ : ∃ b, w.heap.size + 1 = b := ⟨_, rfl⟩
  have hb0 := nblk_alloc w (.cells (placeL s A n cap page).toArray 29)
  have hPA := HN.out
  have hKA := HK.out
  clear HN HK
  generalize w.alloc _ = w1 at *
  have HRB := Lib.hid (show w.heap.size + 1 = rb ∧ w1.heap.size = rb from ⟨hrb, by omega⟩)
  have hR := blk_alloc_new w1 (.cells st0L.toArray 26)
  have hKB := (Keeps.refl (fun _ => False) w1).alloc (.cells st0L.toArray 26)
  rw [HRB.out.2] at hR
  rw [hrb]
  rw [st0_lit] at hR hKB
  obtain ⟨x, hx⟩ : ∃ x, w.heap.size = x := ⟨_, rfl⟩
  rw [hx] at hPA ⊢
  have HX := Lib.hid (show x + 1 = rb from by omega)
  have HWX := Lib.hid hx
  clear hb0 hrb hx
  generalize w1.alloc _ = w2 at *
  rw [← st0_lit] at hR
  have HR2 := Lib.hid hR
  have HP2 := Lib.hid (hPA.keep hKB (fun h => h))
  have HK2 := Lib.hid (hKA.trans hKB (fun _ _ h => h))
  clear hR hPA hKA hKB
  have HSZ := Lib.hid (show (Tryz.prog.info? 26).map (·.size) = some (stL s).length by rw [stL_len]; exact size_st)
  go_wp2_with (first
    | (with_reducible refine wpList_load_mid rfl _ _ rfl x 0 rfl (stL s) _ HP2.out.rangeS Tryz.underlying26 rfl HSZ.out ?_)
    | (with_reducible refine wpList_store_st rfl _ _ rfl _ _ s (blk_alloc_new _ _) (by simp) rfl rfl ?_))
  intro w3 hS3 hk3
  have hk3' := ((Keeps.refl (fun _ => False) w2).alloc _).trans hk3 (fun j hj e => absurd (show j = w2.heap.size from e) (Nat.ne_of_lt hj))
  have HS3 := Lib.hid hS3
  have HK3 := Lib.hid (HK2.out.trans hk3' (fun _ _ h => h))
  have HNE := Lib.hid (show rb < w2.heap.size from (Array.getElem?_eq_some_iff.1 HR2.out).1)
  have HR3 := Lib.hid ((hk3'.block rb HNE.out (fun h => h)).trans HR2.out)
  have HWY := Lib.hid (show w.heap.size ≤ w2.heap.size from HK2.out.size)
  obtain ⟨y, hy⟩ : ∃ y, w2.heap.size = y := ⟨_, rfl⟩
  rw [hy] at HS3 HNE HWY
  have HY := Lib.hid hy
  clear hS3 hk3 hk3'
  rw [hy]
  clear hy
  have q0 := HS3.out.frozen 0
  have q1 := HS3.out.frozen 34
  have q2 := HS3.out.frozen 35
  have q3 := HS3.out.frozen 36
  have c0 := HS3.out.reg 0 (by omega)
  obtain ⟨_, _, c1, c2, c3, _⟩ := HS3.out.cells
  have hS4 : StAt ((((w3.setCell ⟨y, 0, none⟩ (.int .u32 0)).setCell ⟨y, 34, none⟩ (.int .u32 pc)).setCell ⟨y, 35, none⟩ (.int .u32 ((pc + 4) % 4294967296))).setCell ⟨y, 36, none⟩ (.bool false)) y (Ir.placed s pc) :=
    (((HS3.out.setReg 0 (by omega) 0).set (s' := { s with R := fun k => if k = 0 then 0 else s.R k, pc := pc }) 2 (.int .u32 pc) rfl rfl).set (s' := { s with R := fun k => if k = 0 then 0 else s.R k, pc := pc, next := (pc + 4) % 4294967296 }) 3 (.int .u32 ((pc + 4) % 4294967296)) rfl rfl).set (s' := Ir.placed s pc) 4 (.bool false) rfl rfl
  have hk4 : Keeps (· = y) w3 ((((w3.setCell ⟨y, 0, none⟩ (.int .u32 0)).setCell ⟨y, 34, none⟩ (.int .u32 pc)).setCell ⟨y, 35, none⟩ (.int .u32 ((pc + 4) % 4294967296))).setCell ⟨y, 36, none⟩ (.bool false)) :=
    (((Keeps.one w3 y 0 (.int .u32 0)).trans (Keeps.one _ y 34 (.int .u32 pc)) (fun _ _ h => h)).trans (Keeps.one _ y 35 (.int .u32 ((pc + 4) % 4294967296))) (fun _ _ h => h)).trans (Keeps.one _ y 36 (.bool false)) (fun _ _ h => h)
  rw [HSP.out] at hS4
  have HS4 := Lib.hid hS4
  have HK4 := Lib.hid (HK3.out.trans hk4 (fun b hb e => by have e : b = y := e; have := HWY.out; omega))
  have HR4 := Lib.hid ((hk4.block rb (Array.getElem?_eq_some_iff.1 HR3.out).1 (fun e => by have e : rb = y := e; have := HNE.out; omega)).trans HR3.out)
  clear hS4 hk4
  go_upto_region 6 with fail
  clear q0 q1 q2 q3 c0 c1 c2 c3
  generalize World.setCell (World.setCell (World.setCell (World.setCell w3 _ _) _ _) _ _) _ _ = w4 at *
  go_wp2_with (first
    | (with_reducible refine wpList_load_st rfl _ rfl y sp HS4.out rfl ?_)
    | (with_reducible refine wpList_store_st rfl _ _ rfl _ _ sp HR4.out (by simp [st0L, stL, regs, restC]) rfl rfl ?_))
  intro w5 hS5 hk5
  have HS5 := Lib.hid hS5
  have HK5 := Lib.hid (HK4.out.trans hk5 (fun b hb e => by have e : b = rb := e; have := HRB.out.1; omega))
  clear hS5 hk5
  go_wp2_with fail
  exact bodyPost_ret (results_cell_row rfl _ _ rb 26 (stL sp).toArray (0, 0) _ rfl HS5.out Tryz.underlying26 rfl (by rw [List.size_toArray, stL_len]; exact size_st)) rfl ⟨rfl, HK5.out⟩
end Go.Proofs.YtknhfobcejpmeaaGreatDoor
