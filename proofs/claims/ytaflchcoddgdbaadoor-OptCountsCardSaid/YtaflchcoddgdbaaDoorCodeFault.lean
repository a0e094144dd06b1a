/- The walks of the reference's Bare, Fine, CodeFault. -/
import Derived.Test.YtaflchcoddgdbaaDoorIrOp3
import Derived.Test.YtaflchcoddgdbaaDoorIrOps
import Derived.Laws.Rows
import Derived.BigQuiet
namespace Go.Proofs.YtaflchcoddgdbaaDoor
open Go.RowKit Go.Deep
set_option linter.unusedVariables false
set_option linter.unusedSimpArgs false

theorem size_fault : (Tryd.prog.info? 53).map (·.size) = some 2 := by kernel_rfl
/-- a fault's value -/
def faultV (f : Nat × Int) : Value := .agg #[.int .i64 f.1, .int .i64 f.2]
/-- a fault in a block of its own -/
structure FaultBox (w : World) (x : Nat) (c : Nat) (a : Int) : Prop where
  blk : w.heap[x]? = some (.cells #[.int .i64 c, .int .i64 a] 53 (0, 0))
theorem FaultBox.lt {w : World} {x c : Nat} {a : Int} (h : FaultBox w x c a) : x < w.heap.size := (Array.getElem?_eq_some_iff.1 h.blk).1
theorem FaultBox.keep {S : Nat → Prop} {w w' : World} {x c : Nat} {a : Int} (h : FaultBox w x c a) (k : Keeps S w w') (hs : ¬ S x) : FaultBox w' x c a := ⟨(k.block x h.lt hs).trans h.blk⟩
theorem FaultBox.cells {w : World} {x c : Nat} {a : Int} (h : FaultBox w x c a) :
    w.cell? ⟨x, 0, none⟩ = some (.int .i64 c) ∧ w.cell? ⟨x, 1, none⟩ = some (.int .i64 a) ∧ w.frozen? ⟨x, 0, none⟩ = false ∧ w.frozen? ⟨x, 1, none⟩ = false := by
  refine ⟨?_, ?_, frozen_of_block h.blk 0, frozen_of_block h.blk 1⟩ <;> (unfold World.cell?; rw [h.blk]; rfl)
theorem FaultBox.new (w : World) (c : Nat) (a : Int) : FaultBox (w.alloc (.cells #[.int .i64 c, .int .i64 a] 53)) w.heap.size c a := ⟨blk_alloc_new _ _⟩
theorem FaultBox.put {w : World} {x c c' : Nat} {a a' : Int} (h : FaultBox w x c a) :
    FaultBox ((w.setCell ⟨x, 0, none⟩ (.int .i64 c')).setCell ⟨x, 1, none⟩ (.int .i64 a')) x c' a' ∧ Keeps (· = x) w ((w.setCell ⟨x, 0, none⟩ (.int .i64 c')).setCell ⟨x, 1, none⟩ (.int .i64 a')) := by
  refine ⟨⟨?_⟩, Keeps.trans (Keeps.one _ _ _ _) (Keeps.one _ _ _ _) (fun _ _ h => h)⟩
  have h1 := set_block (set_block h.blk 0 (.int .i64 c')) 1 (.int .i64 a')
  simpa using h1
set_option maxRecDepth 100000 in
theorem faultBare_any (c : Nat) (w : World) :
    Calls Tryd.prog 47 #[.int .i64 c] w fun e w' => e = .returned (faultV (c, -1)) ∧ Keeps (fun _ => False) w w' := by
  have HB := Lib.hid (FaultBox.new w c (-1))
  have HK := Lib.hid ((Keeps.refl (fun _ => False) w).alloc (.cells #[.int .i64 c, .int .i64 (-1)] 53))
  go_enter Tryd.func47, Tryd.ntmps47
  go_wp2_with fail
  exact bodyPost_ret (results_cell_row rfl _ _ w.heap.size 53 #[.int .i64 c, .int .i64 (-1)] (0, 0) _ rfl HB.out.blk Tryd.underlying53 rfl size_fault) rfl ⟨rfl, HK.out⟩
set_option maxRecDepth 100000 in
theorem faultFine_any (w : World) :
    Calls Tryd.prog 51 #[] w fun e w' => e = .returned (faultV (0, -1)) ∧ Keeps (fun _ => False) w w' := by
  have HB := Lib.hid (FaultBox.new w 0 (-1))
  have HK := Lib.hid ((Keeps.refl (fun _ => False) w).alloc (.cells #[.int .i64 0, .int .i64 (-1)] 53))
  go_enter Tryd.func51, Tryd.ntmps51
  go_wp2_with fail
  exact bodyPost_ret (results_cell_row rfl _ _ w.heap.size 53 #[.int .i64 0, .int .i64 (-1)] (0, 0) _ rfl HB.out.blk Tryd.underlying53 rfl size_fault) rfl ⟨rfl, HK.out⟩
theorem errAt_le (many : Int) (l : List Ir.Op) (i : Nat) : Ir.errAt many l i ≤ 10 := by
  have h1 : ∀ o, Ir.opErr o many ≤ 10 := fun o => by unfold Ir.opErr; split <;> (try split) <;> (try split) <;> omega
  unfold Ir.errAt
  split <;> (try split) <;> first | exact h1 _ | omega
set_option maxHeartbeats 8000000 in
set_option maxRecDepth 100000 in
theorem codeFault_any (many : Int) (A : Option Addr) (n cap : Nat) (l : List Ir.Op) (w : World) (V : OpsAt w A n cap l) (hc : cap ≤ 9223372036854775807) :
    Calls Tryd.prog 19 #[.int .i64 many, .slice A n cap] w fun e w' => e = .returned (faultV (Ir.fault many l)) ∧ Keeps (fun _ => False) w w' := by
  have HV := Lib.hid V
  have HL := Lib.hid V.len
  have hnc := V.le
  have HB0 := Lib.hid (FaultBox.new w 0 0)
  have HK0 := Lib.hid ((Keeps.refl (fun _ => False) w).alloc (.cells #[.int .i64 0, .int .i64 0] 53))
  have HF := Lib.hid (show Ir.fault many l = ((if many < 1 ∨ 24 < many then (2, -1) else if 200 < n then (8, -1) else if 8 < Ir.stores l then (8, -1) else if n = 0 then (3, -1)
      else if Ir.isOut (Ir.kn (l.getD (n - 1) Ir.nop).k) = false then (3, -1)
      else match Ir.firstBad many l with | some i => (Ir.errAt many l i, (i : Int)) | none => (0, -1)) : Nat × Int) by rw [← HL.out]; rfl)
  have HSO := Lib.hid (fun w V => storesOf_any A n cap l w V hc)
  obtain ⟨f, hf⟩ : ∃ f, Ir.fault many l = f := ⟨_, rfl⟩
  rw [hf] at HF ⊢
  clear hf V
  generalize Ir.stores l = st at *
  go_enter Tryd.func19, Tryd.ntmps19
  go_upto_region 1 with fail
  obtain ⟨rb, hrb⟩ : ∃ b, w.heap.size = b := ⟨_, rfl⟩
  have HRB := Lib.hid hrb
  rw [hrb] at HB0 ⊢
  clear hrb
  generalize w.alloc _ = w1 at *
  by_cases h1 : many < 1 ∨ 24 < many
  · have HR := Lib.hid (show f = (2, -1) by rw [HF.out, if_pos h1])
    rcases h1 with h1 | h1
    · have t1 : decide (many < 1) = true := decide_eq_true h1
      go_wp2_with fail
      refine (faultBare_any 2 _).mono ?_
      rintro e w9 ⟨rfl, hk9⟩
      have HB9 := Lib.hid (HB0.out.keep hk9 (fun h => h))
      have HK9 := Lib.hid (HK0.out.trans hk9 (fun _ _ h => h))
      clear hk9
      obtain ⟨r0, r1, g0, g1⟩ := HB9.out.cells
      have hp := HB9.out.put (c' := 2) (a' := -1)
      have HP := Lib.hid hp
      clear hp
      unfold faultV
      go_wp2_with fail
      refine bodyPost_ret (results_cell_row rfl _ _ rb 53 #[.int .i64 2, .int .i64 (-1)] (0, 0) _ rfl HP.out.1.blk Tryd.underlying53 rfl size_fault) rfl ⟨by rw [HR.out]; rfl, HK9.out.trans HP.out.2 (fun b hb e => by have e : b = rb := e; have := HRB.out; omega)⟩
    · have t1 : decide (many < 1) = false := decide_eq_false (by omega)
      have t2 : decide (24 < many) = true := decide_eq_true h1
      go_wp2_with fail
      refine (faultBare_any 2 _).mono ?_
      rintro e w9 ⟨rfl, hk9⟩
      have HB9 := Lib.hid (HB0.out.keep hk9 (fun h => h))
      have HK9 := Lib.hid (HK0.out.trans hk9 (fun _ _ h => h))
      clear hk9
      obtain ⟨r0, r1, g0, g1⟩ := HB9.out.cells
      have hp := HB9.out.put (c' := 2) (a' := -1)
      have HP := Lib.hid hp
      clear hp
      unfold faultV
      go_wp2_with fail
      refine bodyPost_ret (results_cell_row rfl _ _ rb 53 #[.int .i64 2, .int .i64 (-1)] (0, 0) _ rfl HP.out.1.blk Tryd.underlying53 rfl size_fault) rfl ⟨by rw [HR.out]; rfl, HK9.out.trans HP.out.2 (fun b hb e => by have e : b = rb := e; have := HRB.out; omega)⟩
  have t1 : decide (many < 1) = false := decide_eq_false (by omega)
  have t2 : decide (24 < many) = false := decide_eq_false (by omega)
  by_cases h2 : 200 < n
  · have HR := Lib.hid (show f = (8, -1) by rw [HF.out, if_neg h1, if_pos h2])
    have t3 : decide (200 < n) = true := decide_eq_true h2
    clear h1
    go_wp2_with fail
    refine (faultBare_any 8 _).mono ?_
    rintro e w9 ⟨rfl, hk9⟩
    have HB9 := Lib.hid (HB0.out.keep hk9 (fun h => h))
    have HK9 := Lib.hid (HK0.out.trans hk9 (fun _ _ h => h))
    clear hk9
    obtain ⟨r0, r1, g0, g1⟩ := HB9.out.cells
    have hp := HB9.out.put (c' := 8) (a' := -1)
    have HP := Lib.hid hp
    clear hp
    unfold faultV
    go_wp2_with fail
    refine bodyPost_ret (results_cell_row rfl _ _ rb 53 #[.int .i64 8, .int .i64 (-1)] (0, 0) _ rfl HP.out.1.blk Tryd.underlying53 rfl size_fault) rfl ⟨by rw [HR.out]; rfl, HK9.out.trans HP.out.2 (fun b hb e => by have e : b = rb := e; have := HRB.out; omega)⟩
  have t3 : decide (200 < n) = false := decide_eq_false h2
  go_wp2_with fail
  refine (HSO.out w1 (HV.out.quiet HK0.out)).mono ?_
  rintro e w2 ⟨rfl, hk2⟩
  have HK2 := Lib.hid (HK0.out.trans hk2 (fun _ _ h => h))
  have HB2 := Lib.hid (HB0.out.keep hk2 (fun h => h))
  clear hk2
  by_cases h3 : 8 < st
  · have HR := Lib.hid (show f = (8, -1) by rw [HF.out, if_neg h1, if_neg h2, if_pos h3])
    have t4 : decide (8 < st) = true := decide_eq_true h3
    clear h1
    go_wp2_with fail
    refine (faultBare_any 8 _).mono ?_
    rintro e w9 ⟨rfl, hk9⟩
    have HB9 := Lib.hid (HB2.out.keep hk9 (fun h => h))
    have HK9 := Lib.hid (HK2.out.trans hk9 (fun _ _ h => h))
    clear hk9
    obtain ⟨r0, r1, g0, g1⟩ := HB9.out.cells
    have hp := HB9.out.put (c' := 8) (a' := -1)
    have HP := Lib.hid hp
    clear hp
    unfold faultV
    go_wp2_with fail
    refine bodyPost_ret (results_cell_row rfl _ _ rb 53 #[.int .i64 8, .int .i64 (-1)] (0, 0) _ rfl HP.out.1.blk Tryd.underlying53 rfl size_fault) rfl ⟨by rw [HR.out]; rfl, HK9.out.trans HP.out.2 (fun b hb e => by have e : b = rb := e; have := HRB.out; omega)⟩
  have t4 : decide (8 < st) = false := decide_eq_false h3
  by_cases h4 : n = 0
  · have HR := Lib.hid (show f = (3, -1) by rw [HF.out, if_neg h1, if_neg h2, if_neg h3, if_pos h4])
    clear h1
    subst h4
    go_wp2_with fail
    refine (faultBare_any 3 _).mono ?_
    rintro e w9 ⟨rfl, hk9⟩
    have HB9 := Lib.hid (HB2.out.keep hk9 (fun h => h))
    have HK9 := Lib.hid (HK2.out.trans hk9 (fun _ _ h => h))
    clear hk9
    obtain ⟨r0, r1, g0, g1⟩ := HB9.out.cells
    have hp := HB9.out.put (c' := 3) (a' := -1)
    have HP := Lib.hid hp
    clear hp
    unfold faultV
    go_wp2_with fail
    refine bodyPost_ret (results_cell_row rfl _ _ rb 53 #[.int .i64 3, .int .i64 (-1)] (0, 0) _ rfl HP.out.1.blk Tryd.underlying53 rfl size_fault) rfl ⟨by rw [HR.out]; rfl, HK9.out.trans HP.out.2 (fun b hb e => by have e : b = rb := e; have := HRB.out; omega)⟩
  have t5 : ((n : Int) == 0) = false := by simpa using h4
  obtain ⟨b, o, rfl, e0, e1, e2, e3, e4, e5⟩ := (HV.out.quiet HK2.out).get (show n - 1 < n by omega)
  have HLX := Lib.hid (show ∃ m, m + 1 = n from ⟨n - 1, by omega⟩)
  obtain ⟨m, hm⟩ := HLX.out
  clear HLX
  have hw1 : IntKind.i64.wrap ((n : Int) - 1) = (m : Int) := by rw [IntKind.wrap_i64]; omega
  have hm1 : (0 : Int) ≤ (m : Int) := by omega
  have hm2 : (m : Int) < (n : Int) := by omega
  have hmm : n - 1 = m := by omega
  rw [hmm] at e0 e1 e2 e3 e4 e5 HF
  have HM := Lib.hid hm
  clear hm hmm
  have HIO := Lib.hid (fun w => isOut_any (l.getD m Ir.nop) w)
  obtain ⟨lo, hlo⟩ : ∃ lo, Ir.isOut (Ir.kn (l.getD m Ir.nop).k) = lo := ⟨_, rfl⟩
  rw [hlo] at HIO HF
  clear hlo
  generalize l.getD m Ir.nop = op0 at *
  go_wp2_with fail
  refine (HIO.out _).mono ?_
  rintro e w3 ⟨rfl, hk3⟩
  have HK3 := Lib.hid (HK2.out.trans hk3 (fun _ _ h => h))
  have HB3 := Lib.hid (HB2.out.keep hk3 (fun h => h))
  clear hk3 e0 e1 e2 e3 e4 e5
  cases lo
  · have HR := Lib.hid (show f = (3, -1) by rw [HF.out, if_neg h1, if_neg h2, if_neg h3, if_neg h4, if_pos rfl])
    clear h1
    go_wp2_with fail
    refine (faultBare_any 3 _).mono ?_
    rintro e w9 ⟨rfl, hk9⟩
    have HB9 := Lib.hid (HB3.out.keep hk9 (fun h => h))
    have HK9 := Lib.hid (HK3.out.trans hk9 (fun _ _ h => h))
    clear hk9
    obtain ⟨r0, r1, g0, g1⟩ := HB9.out.cells
    have hp := HB9.out.put (c' := 3) (a' := -1)
    have HP := Lib.hid hp
    clear hp
    unfold faultV
    go_wp2_with fail
    refine bodyPost_ret (results_cell_row rfl _ _ rb 53 #[.int .i64 3, .int .i64 (-1)] (0, 0) _ rfl HP.out.1.blk Tryd.underlying53 rfl size_fault) rfl ⟨by rw [HR.out]; rfl, HK9.out.trans HP.out.2 (fun b hb e => by have e : b = rb := e; have := HRB.out; omega)⟩
  · have HF2 := Lib.hid (show f = match Ir.firstBad many l with | some i => (Ir.errAt many l i, (i : Int)) | none => (0, -1) by rw [HF.out, if_neg h1, if_neg h2, if_neg h3, if_neg h4, if_neg (by decide)])
    clear h1
    go_wp2_with fail
    go_loopw [6] (fun s6 wr => ∃ i : Nat, i ≤ n ∧ s6 = .int .i64 i ∧ (∀ j, j < i → Ir.errAt many l j = 0) ∧ Keeps (fun _ => False) w3 wr) (fun s6 _ => n - (intOf s6).toNat)
    case atStart => exact ⟨0, by omega, rfl, fun j hj => absurd hj (Nat.not_lt_zero _), Keeps.refl _ _⟩
    case round =>
      obtain ⟨i, hi, rfl, hz, hKi⟩ := hrel
      have HZ := Lib.hid hz
      have HKI := Lib.hid hKi
      clear hz hKi
      by_cases hlt : i < n
      · have HVI := Lib.hid (fun (w' : World) (k : Keeps (fun _ => False) wr w') j (hj : j < n) => (HV.out.quiet ((HK3.out.trans HKI.out (fun _ _ h => h)).trans k (fun _ _ h => h))).get hj)
        have HBAD := Lib.hid (fun (c : Nat) (h : Ir.errAt many l i = c) (h0 : c ≠ 0) => (show f = (c, (i : Int)) by
          rw [HF2.out, Ir.firstBad_at (by rw [HL.out]; exact hlt) (by rw [h]; exact h0) HZ.out]
          show (Ir.errAt many l i, (i : Int)) = _
          rw [h]))
        have HER := Lib.hid (show Ir.errAt many l i = if Ir.opErr (l.getD i Ir.nop) many ≠ 0 then Ir.opErr (l.getD i Ir.nop) many else if (0 < i ∧ (l.getD i Ir.nop).at_ < (l.getD (i - 1) Ir.nop).at_) ∨ (Ir.isOut (Ir.kn (l.getD i Ir.nop).k) = true ∧ i + 1 < n) then 3 else 0 by rw [← HL.out]; rfl)
        obtain ⟨b2, o2, hbb, e0, e1, e2, e3, e4, e5⟩ := HVI.out _ (Keeps.refl _ _) i hlt
        obtain ⟨rfl, rfl⟩ : b = b2 ∧ o = o2 := by injection hbb with h; injection h with h1 h2; exact ⟨h1, h2⟩
        clear hbb
        have HVG := Lib.hid (fun (w' : World) (k : Keeps (fun _ => False) wr w') j (hj : j < n) => (show OpLies w' b (o + j * 6) (l.getD j Ir.nop) by
          obtain ⟨b2, o2, hbb, hx⟩ := HVI.out w' k j hj
          obtain ⟨rfl, rfl⟩ : b = b2 ∧ o = o2 := by injection hbb with h; injection h with h1 h2; exact ⟨h1, h2⟩
          exact hx))
        have HGI := Lib.hid (fun w' k => HVG.out w' k i hlt)
        obtain ⟨op, hop⟩ : ∃ op, l.getD i Ir.nop = op := ⟨_, rfl⟩
        rw [hop] at e0 e1 e2 e3 e4 e5 HER HGI
        clear hop
        have HOE := Lib.hid (fun w => opError_any op many w)
        have HIO := Lib.hid (fun w => isOut_any op w)
        obtain ⟨oe, hoe⟩ : ∃ oe, Ir.opErr op many = oe := ⟨_, rfl⟩
        obtain ⟨io, hio⟩ : ∃ io, Ir.isOut (Ir.kn op.k) = io := ⟨_, rfl⟩
        rw [hoe] at HOE HER
        rw [hio] at HIO HER
        clear hoe hio
        go_wp2_with fail
        refine (HOE.out _).mono ?_
        rintro e w5 ⟨rfl, hk5⟩
        obtain ⟨f0, f1, f2, f3, f4, f5⟩ := HGI.out w5 hk5
        clear e0 e1 e2 e3 e4 e5
        go_wp2_with fail
        refine (HIO.out _).mono ?_
        rintro e w6 ⟨rfl, hk6⟩
        have HK6 := Lib.hid (hk5.trans hk6 (fun _ _ h => h))
        have HKK := Lib.hid (HKI.out.trans HK6.out (fun _ _ h => h))
        have HKT := Lib.hid (HK3.out.trans HKK.out (fun _ _ h => h))
        have HB6 := Lib.hid (HB3.out.keep HKK.out (fun h => h))
        clear f0 f1 f2 f3 f4 f5 hk5 hk6
        obtain ⟨r0, r1, g0, g1⟩ := HB6.out.cells
        by_cases hoe : oe = 0
        · subst hoe
          have HER2 := Lib.hid (show Ir.errAt many l i = if (0 < i ∧ op.at_ < (l.getD (i - 1) Ir.nop).at_) ∨ (io = true ∧ i + 1 < n) then 3 else 0 by rw [HER.out, if_neg (by decide)])
          have HNQ2 := Lib.hid (fun (hq : ¬ (io = true ∧ i + 1 < n)) => (show Ir.errAt many l i = if 0 < i ∧ op.at_ < (l.getD (i - 1) Ir.nop).at_ then 3 else 0 by
            rw [HER2.out]
            by_cases h : 0 < i ∧ op.at_ < (l.getD (i - 1) Ir.nop).at_
            · rw [if_pos (.inl h), if_pos h]
            · rw [if_neg (fun h2 => h2.elim h hq), if_neg h]))
          by_cases hq : io = true ∧ i + 1 < n
          · obtain ⟨rfl, hi1⟩ := hq
            have t6 : decide ((i : Int) + 1 < (n : Int)) = true := decide_eq_true (by omega)
            have HR := Lib.hid (HBAD.out 3 (by rw [HER2.out, if_pos (.inr ⟨rfl, hi1⟩)]) (by decide))
            clear hi1
            have hp := HB6.out.put (c' := 3) (a' := i)
            have HP := Lib.hid hp
            clear hp
            go_wp2_with fail
            refine bodyPost_ret (results_cell_row rfl _ _ rb 53 #[.int .i64 (3 : Nat), .int .i64 i] (0, 0) _ rfl HP.out.1.blk Tryd.underlying53 rfl size_fault) rfl ⟨by rw [HR.out]; rfl, HKT.out.trans HP.out.2 (fun b hb e => by have e : b = rb := e; have := HRB.out; omega)⟩
          · have HER3 := Lib.hid (HNQ2.out hq)
            go_upto_region 17 with fail
            go_cut [66] (fun s66 wx => s66 = .bool false ∧ wx = w6)
            case first =>
              cases io
              · go_wp2_with fail
                go_meet
                exact ⟨rfl, rfl⟩
              · have t6 : decide ((i : Int) + 1 < (n : Int)) = false := decide_eq_false (fun h => hq ⟨rfl, by omega⟩)
                clear hq
                go_wp2_with fail
                go_meet
                exact ⟨rfl, rfl⟩
            case rest =>
              obtain ⟨rfl, rfl⟩ := hcut
              by_cases hi0 : i = 0
              · have t8 : decide (0 < i) = false := decide_eq_false (by omega)
                have HNX := Lib.hid (show Ir.errAt many l i = 0 by rw [HER3.out, if_neg (fun h => by omega)])
                clear hi0 hq
                go_wp2_with fail
                go_roundw
                case rel => exact ⟨i + 1, by omega, by go_num, fun j hj => by
                  by_cases e : j = i
                  · subst e; exact HNX.out
                  · exact HZ.out j (by omega), HKK.out⟩
                case measure => simp [intOf]; omega
              · have t8 : decide (0 < i) = true := decide_eq_true (by omega)
                obtain ⟨p, hp1⟩ : ∃ p, i = p + 1 := ⟨i - 1, by omega⟩
                have HG0 := HGI.out wc HK6.out
                have HG1 := HVG.out wc HK6.out p (by omega)
                have hpp : i - 1 = p := by omega
                rw [hpp] at HER3
                have hw2 : IntKind.i64.wrap ((i : Int) - 1) = (p : Int) := by rw [IntKind.wrap_i64]; omega
                have hp2 : (0 : Int) ≤ (p : Int) := by omega
                have hp3 : (p : Int) < (n : Int) := by omega
                have hl0 : (0 : Int) ≤ (i : Int) := by omega
                have hl1 : (i : Int) < (n : Int) := by omega
                have a5 := HG0.v5
                have b5 := HG1.v5
                generalize l.getD p Ir.nop = op1 at *
                generalize op1.at_ = y1 at *
                generalize op.at_ = y0 at *
                have HPI := Lib.hid hp1
                clear hp1 hpp HG0 HG1 hq
                have hi00 : 0 < i := by omega
                clear hi0
                by_cases hlt2 : y0 < y1
                · have t9 : decide (y0 < y1) = true := decide_eq_true hlt2
                  go_upto_region 20 with fail
                  go_quiet (fail)
                  generalize hwd : wc.drewN _ = wd
                  have hkd : Keeps (fun _ => False) wc wd := by rw [← hwd]; exact Keeps.of_drewN _ _ _
                  clear hwd
                  have HKKd := Lib.hid (HKK.out.trans hkd (fun _ _ h => h))
                  have HKTd := Lib.hid (HKT.out.trans hkd (fun _ _ h => h))
                  have HBd := Lib.hid (HB6.out.keep hkd (fun h => h))
                  clear hkd a5 b5 r0 r1 g0 g1
                  obtain ⟨r0, r1, g0, g1⟩ := HBd.out.cells
                  have HR := Lib.hid (HBAD.out 3 (by rw [HER3.out, if_pos ⟨by omega, hlt2⟩]) (by decide))
                  clear hlt2
                  have hp := HBd.out.put (c' := 3) (a' := i)
                  have HP := Lib.hid hp
                  clear hp
                  go_wp2_with fail
                  refine bodyPost_ret (results_cell_row rfl _ _ rb 53 #[.int .i64 (3 : Nat), .int .i64 i] (0, 0) _ rfl HP.out.1.blk Tryd.underlying53 rfl size_fault) rfl ⟨by rw [HR.out]; rfl, HKTd.out.trans HP.out.2 (fun b hb e => by have e : b = rb := e; have := HRB.out; omega)⟩
                · have t9 : decide (y0 < y1) = false := decide_eq_false hlt2
                  go_upto_region 20 with fail
                  go_quiet (fail)
                  generalize hwd : wc.drewN _ = wd
                  have hkd : Keeps (fun _ => False) wc wd := by rw [← hwd]; exact Keeps.of_drewN _ _ _
                  clear hwd
                  have HKKd := Lib.hid (HKK.out.trans hkd (fun _ _ h => h))
                  have HKTd := Lib.hid (HKT.out.trans hkd (fun _ _ h => h))
                  have HBd := Lib.hid (HB6.out.keep hkd (fun h => h))
                  clear hkd a5 b5 r0 r1 g0 g1
                  have HNX := Lib.hid (show Ir.errAt many l i = 0 by rw [HER3.out, if_neg (fun h => hlt2 h.2)])
                  clear hlt2
                  go_wp2_with fail
                  go_roundw
                  case rel => exact ⟨i + 1, by omega, by go_num, fun j hj => by
                    by_cases e : j = i
                    · subst e; exact HNX.out
                    · exact HZ.out j (by omega), HKKd.out⟩
                  case measure => simp [intOf]; omega
        · have t6 : ((oe : Int) == 0) = false := by simpa using hoe
          have t7 : decide (0 < oe) = true := decide_eq_true (by omega)
          have HR := Lib.hid (HBAD.out oe (by rw [HER.out, if_pos hoe]) hoe)
          clear hoe
          have hp := HB6.out.put (c' := oe) (a' := i)
          have HP := Lib.hid hp
          clear hp
          go_wp2_with fail
          refine bodyPost_ret (results_cell_row rfl _ _ rb 53 #[.int .i64 (oe : Nat), .int .i64 i] (0, 0) _ rfl HP.out.1.blk Tryd.underlying53 rfl size_fault) rfl ⟨by rw [HR.out]; rfl, HKT.out.trans HP.out.2 (fun b hb e => by have e : b = rb := e; have := HRB.out; omega)⟩
      · obtain rfl : i = n := by omega
        have HR := Lib.hid (show f = (0, -1) by rw [HF2.out, Ir.firstBad_none (fun j hj => HZ.out j (by have := HL.out; omega))])
        have HKT := Lib.hid (HK3.out.trans HKI.out (fun _ _ h => h))
        have HB6 := Lib.hid (HB3.out.keep HKI.out (fun h => h))
        go_wp2_with fail
        refine (faultFine_any _).mono ?_
        rintro e w9 ⟨rfl, hk9⟩
        have HB9 := Lib.hid (HB6.out.keep hk9 (fun h => h))
        have HK9 := Lib.hid (HKT.out.trans hk9 (fun _ _ h => h))
        clear hk9
        obtain ⟨r0, r1, g0, g1⟩ := HB9.out.cells
        have hp := HB9.out.put (c' := 0) (a' := -1)
        have HP := Lib.hid hp
        clear hp
        unfold faultV
        go_wp2_with fail
        refine bodyPost_ret (results_cell_row rfl _ _ rb 53 #[.int .i64 0, .int .i64 (-1)] (0, 0) _ rfl HP.out.1.blk Tryd.underlying53 rfl size_fault) rfl ⟨by rw [HR.out]; rfl, HK9.out.trans HP.out.2 (fun b hb e => by have e : b = rb := e; have := HRB.out; omega)⟩
end Go.Proofs.YtaflchcoddgdbaaDoor
