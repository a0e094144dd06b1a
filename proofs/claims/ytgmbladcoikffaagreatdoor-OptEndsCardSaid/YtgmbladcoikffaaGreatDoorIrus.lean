import Derived.Test.YtgmbladcoikffaaGreatDoorMach6
import Derived.Test.YtgmbladcoikffaaGreatDoorIru8
import Derived.Test.YtgmbladcoikffaaGreatDoorIrCheck
import Derived.Test.YtgmbladcoikffaaGreatDoorKnown
import Derived.Laws.Rows
import Derived.Laws.ResultCell

/- Eval -/
/- The walk of ir.Eval. -/
namespace Go.Proofs.YtgmbladcoikffaaGreatDoor
open Go.RowKit Go.Deep
set_option linter.unusedVariables false
set_option linter.unusedSimpArgs false

theorem do_any (B mb r pb pw ph cp : Nat) (c : Ir.Mc) (m : Nat → Int) (W : Int → Bool) (o : Ir.Op) (w : World) (ea : Nat → Addr) (E : Errs3 w ea) (M : MachAt w B mb r c) (R : RamAt w r pb pw ph cp m) (hW : WatchAt w pw W)
    (hok : Ir.McOk W c) (hi : Ir.OpIn o) (hnl : Ir.leaves (Ir.kn o.k) = false) (S : Nat → Prop) (hS : S mb ∧ ∀ v, w.cell? ⟨mb, 65, none⟩ = some v → ∀ g, v.ownBlock = some g → S g) (hB : B ≤ w.heap.size) (hl : c.ws.length < 1000000) :
    Calls Tryz.prog 54 #[.pointer (some ⟨mb, 0, none⟩), .agg (opC o)] w (DoIs B mb r S w (Ir.doOp m W c o)) := by
  obtain ⟨k, d, a, b, im, t⟩ := o
  have hle := Ir.kn_le k
  have hk := hi.k
  unfold Ir.leaves at hnl
  have hnl := of_decide_eq_false hnl
  simp only at hk hnl
  have hc : Ir.kn k = 1 ∨ Ir.kn k = 2 ∨ Ir.kn k = 3 ∨ Ir.kn k = 4 ∨ Ir.kn k = 5 ∨ Ir.kn k = 6 ∨ 10 ≤ Ir.kn k := by omega
  rcases hc with h | h | h | h | h | h | h
  · exact do_set B mb r pb pw ph cp c m W k d a b im t w ea E M R hW hok hi h S hS hB hl
  · exact do_copy B mb r pb pw ph cp c m W k d a b im t w ea E M R hW hok hi h S hS hB hl
  · exact do_overp B mb r pb pw ph cp c m W k d a b im t w ea E M R hW hok hi h S hS hB hl
  · exact do_overm B mb r pb pw ph cp c m W k d a b im t w ea E M R hW hok hi h S hS hB hl
  · exact do_load B mb r pb pw ph cp c m W k d a b im t w ea E M R hW hok hi h S hS hB hl
  · exact do_store B mb r pb pw ph cp c m W k d a b im t w ea E M R hW hok hi h S hS hB hl
  · exact do_sum B mb r pb pw ph cp c m W k d a b im t w ea E M R hW hok hi h S hS hB hl
theorem MachAt.below {w : World} {B mb rp : Nat} {c : Ir.Mc} (h : MachAt w B mb rp c) : (B ≤ mb ∧ mb < w.heap.size) ∧ ∀ v, w.cell? ⟨mb, 65, none⟩ = some v → ∀ g, v.ownBlock = some g → B ≤ g ∧ g < w.heap.size := by
  obtain ⟨⟨v, h1, h2, h3⟩, h4⟩ := h
  refine ⟨⟨h4, rowIs_lt h1⟩, fun v' hv g hg => ?_⟩
  have hc := rowIs_cell h1 65 (by omega)
  rw [machF, if_neg (by omega), if_neg (by omega)] at hc
  rw [hc] at hv
  injection hv with hv
  subst hv
  obtain ⟨_, ⟨h5, h6⟩ | ⟨g2, cap', cur, h5, h6, h7, _⟩⟩ := h2
  · rw [h5] at hg; cases hg
  · rw [h5] at hg
    injection hg with hg
    subst hg
    exact ⟨h6, (Array.getElem?_eq_some_iff.1 h7).1⟩
theorem size_end : (Tryz.prog.info? 45).map (·.size) = some 2 := by kernel_rfl
/-- an end's value -/
def endC (t : Bool) (a : Int) : Array Value := #[.bool t, .int .i64 a]
structure EndBox (w : World) (x : Nat) (t : Bool) (a : Int) : Prop where
  blk : w.heap[x]? = some (.cells (endC t a) 45 (0, 0))
theorem EndBox.lt {w : World} {x : Nat} {t : Bool} {a : Int} (h : EndBox w x t a) : x < w.heap.size := (Array.getElem?_eq_some_iff.1 h.blk).1
theorem EndBox.keep {S : Nat → Prop} {w w' : World} {x : Nat} {t : Bool} {a : Int} (h : EndBox w x t a) (k : Keeps S w w') (hs : ¬ S x) : EndBox w' x t a := ⟨(k.block x h.lt hs).trans h.blk⟩
theorem EndBox.cells {w : World} {x : Nat} {t : Bool} {a : Int} (h : EndBox w x t a) : w.cell? ⟨x, 0, none⟩ = some (.bool t) ∧ w.cell? ⟨x, 1, none⟩ = some (.int .i64 a) ∧ w.frozen? ⟨x, 0, none⟩ = false ∧ w.frozen? ⟨x, 1, none⟩ = false := by
  have hb := h.blk
  unfold endC at hb
  refine ⟨?_, ?_, frozen_of_block hb 0, frozen_of_block hb 1⟩ <;> (unfold World.cell?; rw [hb]; rfl)
theorem EndBox.new (w : World) (t : Bool) (a : Int) : EndBox (w.alloc (.cells #[.bool t, .int .i64 a] 45)) w.heap.size t a := ⟨blk_alloc_new _ _⟩
theorem EndBox.put {w : World} {x : Nat} {t t' : Bool} {a a' : Int} (h : EndBox w x t a) :
    EndBox ((w.setCell ⟨x, 0, none⟩ (.bool t')).setCell ⟨x, 1, none⟩ (.int .i64 a')) x t' a' ∧ Keeps (· = x) w ((w.setCell ⟨x, 0, none⟩ (.bool t')).setCell ⟨x, 1, none⟩ (.int .i64 a')) := by
  refine ⟨⟨?_⟩, Keeps.trans (Keeps.one _ _ _ _) (Keeps.one _ _ _ _) (fun _ _ h => h)⟩
  have h1 := set_block (set_block h.blk 0 (.bool t')) 1 (.int .i64 a')
  simpa [endC] using h1
theorem results_end {fn : Func} {p u : Tmp} (h : fn.results = #[.cell p 45, .tmp u]) (tmps : Array Value) (w : World) (g : Nat) (t : Bool) (a : Int) (hp : tmps.getD p undef = .pointer (some ⟨g, 0, none⟩)) (hg : EndBox w g t a) :
    (results fn tmps).run Tryz.prog w = .ok (.tuple #[.agg (endC t a), tmps.getD u undef]) w := by
  rw [results_cell_tmp h, hp]
  have := run_loadVar_row (P := Tryz.prog) w g 45 45 (endC t a) (0, 0) _ hg.blk Tryz.underlying45 rfl size_end
  simp [asAddr, this]
/-- the two boxes that Eval begins with -/
structure EvalBox (w wr : World) (x rb : Nat) (pc many : Int) (A : Option Addr) (n cap : Nat) : Prop where
  code : CodeBox wr x pc many A n cap
  res : EndBox wr rb false 0
  k : Keeps (fun _ => False) w wr
  low : w.heap.size ≤ x ∧ w.heap.size ≤ rb
theorem EvalBox.new (w : World) (pc many : Int) (A : Option Addr) (n cap : Nat) :
    EvalBox w ((w.alloc (.cells #[.int .u32 pc, .int .i64 many, .slice A n cap] 35)).alloc (.cells #[.bool false, .int .i64 0] 45)) w.heap.size (w.heap.size + 1) pc many A n cap := by
  have h1 := CodeBox.new w pc many A n cap
  have h2 := EndBox.new (w.alloc (.cells #[.int .u32 pc, .int .i64 many, .slice A n cap] 35)) false 0
  rw [nblk_alloc] at h2
  exact ⟨h1.keep ((Keeps.refl (fun _ => False) _).alloc _) (fun h => h), h2, ((Keeps.refl _ _).alloc _).alloc _, by omega⟩
theorem EvalBox.keep {w wr w' : World} {x rb : Nat} {pc many : Int} {A : Option Addr} {n cap : Nat} (h : EvalBox w wr x rb pc many A n cap) (k : Keeps (fun _ => False) wr w') : EvalBox w w' x rb pc many A n cap :=
  ⟨h.code.keep k (fun h => h), h.res.keep k (fun h => h), h.k.trans k (fun _ _ h => h), h.low⟩
theorem FaultIs.otherE {w w' : World} {ea : Nat → Addr} {f : Nat × Int} {v : Value} {z : Nat} {t : Bool} {a : Int} (h : FaultIs w ea f v) (C : EndBox w z t a) (k : Keeps (· = z) w w') : FaultIs w' ea f v := by
  rcases h with h | h | ⟨h1, h2, b, h3, h4, h5⟩
  · exact .inl h
  · exact .inr (.inl h)
  · have hne : b ≠ z := by
      rintro rfl
      rw [C.cells.1] at h4
      cases h4
    exact .inr (.inr ⟨h1, h2, b, h3, k.cell' h4 hne, k.cell' h5 hne⟩)
set_option maxHeartbeats 4000000 in
set_option maxRecDepth 100000 in
theorem eval_bad (pc many : Int) (A : Option Addr) (n cap : Nat) (l : List Ir.Op) (sa ra : Addr) (w : World) (ea : Nat → Addr) (E : ErrsC w ea) (V : OpsAt w A n cap l) (hc : cap ≤ 9223372036854775807) (hf : (Ir.fault many l).1 ≠ 0) :
    Calls Tryz.prog 15 #[.agg #[.int .u32 pc, .int .i64 many, .slice A n cap], .pointer (some sa), .pointer (some ra)] w fun e w' => (∃ ev, e = .returned (.tuple #[.agg (endC false 0), ev]) ∧ FaultIs w' ea (Ir.fault many l) ev) ∧ Keeps (fun _ => False) w w' := by
  have HE := Lib.hid E
  have HV := Lib.hid V
  have HN := Lib.hid (EvalBox.new w pc many A n cap)
  have HCK := Lib.hid (fun w E V => Check_any pc many A n cap l w ea E V hc)
  have HF := Lib.hid hf
  clear E V hf
  go_enter Tryz.func15, Tryz.ntmps15
  go_upto_region 1 with fail
  have hN := HN.out
  clear HN
  generalize (w.alloc _).alloc _ = w1 at *
  generalize w.heap.size + 1 = rb at *
  obtain ⟨x, hx⟩ : ∃ x, w.heap.size = x := ⟨_, rfl⟩
  rw [hx] at hN ⊢
  clear hx
  have HB1 := Lib.hid hN
  obtain ⟨c0, c1, c2, _⟩ := hN.code.cells
  clear hN
  go_wp2_with fail
  refine (HCK.out w1 (HE.out.quiet HB1.out.k) (HV.out.quiet HB1.out.k)).mono ?_
  rintro e w2 ⟨⟨v, rfl, hv⟩, hk2⟩
  have HB2 := Lib.hid (HB1.out.keep hk2)
  have HFV := Lib.hid hv
  have hp := hv.parts
  clear c0 c1 c2 hk2 hv
  rcases hp with ⟨h0, rfl⟩ | ⟨h0, t, u, rfl⟩
  · exact absurd h0 HF.out
  · obtain ⟨r0, r1, g0, g1⟩ := HB2.out.res.cells
    obtain ⟨hq1, hq2⟩ := HB2.out.res.put (t' := false) (a' := 0)
    have HP := Lib.hid hq1
    have HPK := Lib.hid hq2
    clear h0 hq1 hq2
    go_wp2_with fail
    refine bodyPost_ret (results_end rfl _ _ rb false 0 rfl HP.out) rfl ⟨⟨_, rfl, ?_⟩, ?_⟩
    · exact HFV.out.otherE HB2.out.res HPK.out
    · exact HB2.out.k.trans HPK.out (fun b hb e => by have e : b = rb := e; have := HB2.out.low; omega)
set_option maxHeartbeats 4000000 in
set_option maxRecDepth 100000 in
theorem eval_unready (pc many : Int) (A : Option Addr) (n cap : Nat) (l : List Ir.Op) (sb : Nat) (ra : Addr) (s : Cp.St) (w : World) (ea : Nat → Addr) (E : ErrsC w ea) (E3 : Errs3 w ea) (V : OpsAt w A n cap l) (hc : cap ≤ 9223372036854775807) (hf : (Ir.fault many l).1 = 0) (hS : StAt w sb s) (hpc : 0 ≤ pc ∧ pc < 4294967296) (hr : Ir.ready s pc = false) :
    Calls Tryz.prog 15 #[.agg #[.int .u32 pc, .int .i64 many, .slice A n cap], .pointer (some ⟨sb, 0, none⟩), .pointer (some ra)] w fun e w' => e = .returned (.tuple #[.agg (endC false 0), errV ea 9]) ∧ Keeps (fun _ => False) w w' := by
  have HE := Lib.hid E
  have HE3 := Lib.hid E3
  have HV := Lib.hid V
  have HS := Lib.hid hS
  have HN := Lib.hid (EvalBox.new w pc many A n cap)
  have HCK := Lib.hid (fun w E V => Check_any pc many A n cap l w ea E V hc)
  have HG := Lib.hid (Ir.good_of_fault hf)
  have HF := Lib.hid hf
  clear E V hf E3 hS
  go_enter Tryz.func15, Tryz.ntmps15
  go_upto_region 1 with fail
  have hN := HN.out
  clear HN
  generalize (w.alloc _).alloc _ = w1 at *
  generalize w.heap.size + 1 = rb at *
  obtain ⟨x, hx⟩ : ∃ x, w.heap.size = x := ⟨_, rfl⟩
  rw [hx] at hN ⊢
  clear hx
  have HB1 := Lib.hid hN
  obtain ⟨c0, c1, c2, _⟩ := hN.code.cells
  clear hN
  go_wp2_with fail
  refine (HCK.out w1 (HE.out.quiet HB1.out.k) (HV.out.quiet HB1.out.k)).mono ?_
  rintro e w2 ⟨⟨v, rfl, hv⟩, hk2⟩
  have HB2 := Lib.hid (HB1.out.keep hk2)
  obtain rfl : v = .nilIface := by
    rcases hv.parts with h | h
    · exact h.2
    · exact absurd HF.out h.1
  clear c0 c1 c2 hk2 hv
  obtain ⟨c0, c1, c2, _⟩ := HB2.out.code.cells
  have HRY := Lib.hid (ready_any sb s pc w2 (HS.out.keep HB2.out.k (fun h => h)) hpc)
  rw [hr] at HRY
  go_wp2_with fail
  refine HRY.out.mono ?_
  rintro e w3 ⟨rfl, rfl⟩
  obtain ⟨r0, r1, g0, g1⟩ := HB2.out.res.cells
  have he := HE3.out.keep HB2.out.k ⟨fun h => h, fun h => h, fun h => h⟩
  have he2 := he.align
  have hne : 3 ≠ rb := by
    rintro rfl
    rw [r0] at he2
    cases he2
  clear he c0 c1 c2
  go_upto_region 7 with fail
  go_region_held3 (fun w' => Keeps (· = rb) w2 w' ∧ w'.cell? ⟨3, 0, none⟩ = some (.iface 236 (.pointer (some (ea 9)))))
    (first | (refine ⟨?_, ?_⟩ <;> first | ((repeat (first | (with_reducible assumption) | (with_reducible (exact Keeps.refl _ _)) | (with_reducible (apply Keeps.drew)) | (refine Keeps.setCell (S := fun x => x = rb) (a := ⟨rb, _, none⟩) ?_ (fun _ => rfl) _))); done) | (refine Keeps.cell' (S := (· = rb)) (w := w2) ?_ (by assumption) hne; (repeat (first | (with_reducible assumption) | (with_reducible (exact Keeps.refl _ _)) | (with_reducible (apply Keeps.drew)) | (refine Keeps.setCell (S := fun x => x = rb) (a := ⟨rb, _, none⟩) ?_ (fun _ => rfl) _))); done)) | (trace_state; fail))
    (fail)
  rename_i hh
  have HKH := Lib.hid hh.1
  clear hh r0 r1 g0 g1 he2 hne
  obtain ⟨hq1, hq2⟩ := HB2.out.res.put (t' := false) (a' := 0)
  have HP := Lib.hid (hq1.keep ((Keeps.refl (fun _ => False) _).drew) (fun h => h))
  clear hq1 hq2
  go_wp2_with fail
  refine bodyPost_ret (results_end rfl _ _ rb false 0 rfl HP.out) rfl ⟨rfl, ?_⟩
  exact HB2.out.k.trans HKH.out (fun b hb e => by have e : b = rb := e; have := HB2.out.low; omega)
theorem Ir.mc0_ok (W : Int → Bool) {s : Cp.St} (h : Cp.Rng s) : Ir.McOk W (Ir.mc0 s) := by
  refine ⟨fun k hk => ?_, fun s hs => by cases hs⟩
  show 0 ≤ (if k < 32 then s.R k else if k = 32 then s.hi else if k = 33 then s.lo else 0) ∧ (if k < 32 then s.R k else if k = 32 then s.hi else if k = 33 then s.lo else 0) < 4294967296
  split
  · exact h.R k (by assumption)
  · split
    · exact h.hi
    · split
      · exact h.lo
      · omega
/-- what a run of a right code answers -/
def EvalIs (w : World) (sb r pb pw ph cp : Nat) (s : Cp.St) (m : Nat → Int) (many : Int) (res : Ir.Res) (e : Ending) (w' : World) : Prop :=
  match res with
  | .trap a => e = .returned (.tuple #[.agg (endC true a), .nilIface]) ∧ Keeps (fun _ => False) w w'
  | .leave pc c => e = .returned (.tuple #[.agg (endC false 0), .nilIface]) ∧ StAt w' sb (Ir.leaveSt s c pc many) ∧ RamAt w' r pb pw ph cp (Ir.pend m c.ws) ∧ Keeps (fun b => b = sb ∨ b = pb) w w'
  | .fell _ => e = .returned (.tuple #[.agg (endC false 0), .nilIface]) ∧ Keeps (fun _ => False) w w'
set_option maxHeartbeats 8000000 in
set_option maxRecDepth 100000 in
theorem eval_run (pc many : Int) (A : Option Addr) (n cap : Nat) (l : List Ir.Op) (sb r pb pw ph cp : Nat) (s : Cp.St) (m : Nat → Int) (W : Int → Bool) (w : World) (ea : Nat → Addr) (E : ErrsC w ea) (E3 : Errs3 w ea) (V : OpsAt w A n cap l) (hc : cap ≤ 9223372036854775807) (hf : (Ir.fault many l).1 = 0) (hok : ∀ o ∈ l, OpOk o)
    (hS : StAt w sb s) (hRng : Cp.Rng s) (R : RamAt w r pb pw ph cp m) (hW : WatchAt w pw W) (hpc : 0 ≤ pc ∧ pc < 4294967296) (hr : Ir.ready s pc = true) (hsep : sb ≠ r ∧ sb ≠ pb ∧ sb ≠ pw) :
    Calls Tryz.prog 15 #[.agg #[.int .u32 pc, .int .i64 many, .slice A n cap], .pointer (some ⟨sb, 0, none⟩), .pointer (some ⟨r, 0, none⟩)] w (EvalIs w sb r pb pw ph cp s m many (Ir.evGo m W (Ir.mc0 s) l)) := by
  have V0 := V.len
  have hncap := V.le
  have HE := Lib.hid E
  have HE3 := Lib.hid E3
  have HV := Lib.hid V
  have HS := Lib.hid hS
  have HN := Lib.hid (EvalBox.new w pc many A n cap)
  have HCK := Lib.hid (fun w E V => Check_any pc many A n cap l w ea E V hc)
  have HG := Lib.hid (Ir.good_of_fault hf)
  have HF := Lib.hid hf
  clear E V hf E3 hS
  have HOK := Lib.hid hok
  have HR := Lib.hid R
  have HW := Lib.hid hW
  have HSEP := Lib.hid hsep
  have HL := Lib.hid V0
  have HRNG := Lib.hid hRng
  clear hok R hW hsep V0 hRng
  go_enter Tryz.func15, Tryz.ntmps15
  go_upto_region 1 with fail
  have hN := HN.out
  clear HN
  generalize (w.alloc _).alloc _ = w1 at *
  generalize w.heap.size + 1 = rb at *
  obtain ⟨x, hx⟩ : ∃ x, w.heap.size = x := ⟨_, rfl⟩
  rw [hx] at hN ⊢
  clear hx
  have HB1 := Lib.hid hN
  obtain ⟨c0, c1, c2, _⟩ := hN.code.cells
  clear hN
  go_wp2_with fail
  refine (HCK.out w1 (HE.out.quiet HB1.out.k) (HV.out.quiet HB1.out.k)).mono ?_
  rintro e w2 ⟨⟨v, rfl, hv⟩, hk2⟩
  have HB2 := Lib.hid (HB1.out.keep hk2)
  obtain rfl : v = .nilIface := by
    rcases hv.parts with h | h
    · exact h.2
    · exact absurd HF.out h.1
  clear c0 c1 c2 hk2 hv
  obtain ⟨c0, c1, c2, _⟩ := HB2.out.code.cells
  have HRY := Lib.hid (ready_any sb s pc w2 (HS.out.keep HB2.out.k (fun h => h)) hpc)
  rw [hr] at HRY
  go_wp2_with fail
  refine HRY.out.mono ?_
  rintro e w3 ⟨rfl, rfl⟩
  have HNM := Lib.hid (newMachine_any sb r s w2 (HS.out.keep HB2.out.k (fun h => h)))
  clear c0 c1 c2
  go_wp2_with fail
  refine HNM.out.mono ?_
  rintro e w4 ⟨mb, rfl, hM4, hk4⟩
  obtain ⟨B, hB⟩ : ∃ B, w2.heap.size = B := ⟨_, rfl⟩
  rw [hB] at hM4
  have HM4 := Lib.hid hM4
  have HB4 := Lib.hid (HB2.out.keep hk4)
  have HBW := Lib.hid (show B ≤ w4.heap.size by rw [← hB]; exact hk4.size)
  have HLT := Lib.hid (show sb < B ∧ pb < B ∧ r < B ∧ pw < B ∧ rb < B ∧ x < B by
    have h1 := HS.out.keep HB2.out.k (fun h => h)
    have h2 := HR.out.keep HB2.out.k (fun h => h) (fun h => h)
    have h3 := HW.out.keep HB2.out.k (fun h => h)
    rw [← hB]
    exact ⟨h1.lt, h2.bytes.lt, (Array.getElem?_eq_some_iff.1 h2.box).1, h3.lt, HB2.out.res.lt, HB2.out.code.lt⟩)
  have HWB := Lib.hid (show w.heap.size ≤ B by rw [← hB]; exact HB2.out.k.size)
  clear hM4 hk4 hB
  obtain ⟨c0, c1, c2, _⟩ := HB4.out.code.cells
  go_wp2_with fail
  go_loopw [41] (fun s41 wr => ∃ i : Nat, i ≤ n ∧ s41 = .int .i64 i ∧ ∃ c : Ir.Mc, MachAt wr B mb r c ∧ Ir.McOk W c ∧ c.ws.length ≤ i ∧ Ir.evGo m W (Ir.mc0 s) l = Ir.evGo m W c (l.drop i) ∧ Keeps (fun b => B ≤ b) w4 wr) (fun s41 _ => n - (intOf s41).toNat)
  case atStart => exact ⟨0, by omega, rfl, Ir.mc0 s, HM4.out, Ir.mc0_ok W HRNG.out, by simp [Ir.mc0], rfl, Keeps.refl _ _⟩
  case round =>
    obtain ⟨i, hi, rfl, c, hM, hOk, hlen, hres, hK⟩ := hrel
    have HM := Lib.hid hM
    have HMK := Lib.hid hOk
    have HRES := Lib.hid hres
    have HK := Lib.hid hK
    have HLEN := Lib.hid hlen
    clear hM hOk hres hK hlen c0 c1 c2
    have hsepB : ∀ b, b < B → ¬ B ≤ b := fun b h => Nat.not_le.2 h
    have HNB := Lib.hid hsepB
    clear hsepB
    have HCB := Lib.hid (HB4.out.code.keep HK.out (HNB.out x HLT.out.2.2.2.2.2))
    have HEB := Lib.hid (HB4.out.res.keep HK.out (HNB.out rb HLT.out.2.2.2.2.1))
    have HKI := Lib.hid (show Keeps (fun _ => False) w wr from HB4.out.k.trans HK.out (fun b hb h => by have := HWB.out; omega))
    by_cases hlt : i < n
    · obtain ⟨bb, oo, rfl, e0, e1, e2, e3, e4, e5⟩ := (HV.out.quiet HKI.out).get hlt
      have hil : i < l.length := by rw [HL.out]; exact hlt
      have HDR := Lib.hid (show l.drop i = l.getD i Ir.nop :: l.drop (i + 1) by
        rw [List.drop_eq_getElem_cons hil, List.getD_eq_getElem?_getD, List.getElem?_eq_getElem hil]
        rfl)
      have hoo := HOK.out _ (getD_mem hil)
      have HIN := Lib.hid (Ir.opIn_of (Ir.errAt_zero.1 (HG.out.each i hil)).1 (show 0 ≤ (l.getD i Ir.nop).imm ∧ (l.getD i Ir.nop).imm < 4294967296 from ⟨hoo.imm.1, Int.lt_of_le_sub_one hoo.imm.2⟩))
      obtain ⟨op, hop⟩ : ∃ op, l.getD i Ir.nop = op := ⟨_, rfl⟩
      rw [hop] at e0 e1 e2 e3 e4 e5 HDR HIN
      clear hop hoo
      obtain ⟨ok, od, oa, ob, oim, oat⟩ := op
      have hia := HIN.out.a
      simp only at e0 e1 e2 e3 e4 e5 hia
      obtain ⟨ka, rfl⟩ := Int.eq_ofNat_of_zero_le hia.1
      have hka64 : ka < 64 := by omega
      have hzka : (ka : Int) < 64 := by omega
      clear hia
      have HRES2 := Lib.hid (show Ir.evGo m W (Ir.mc0 s) l = Ir.evGo m W c ((⟨ok, od, (ka : Int), ob, oim, oat⟩ : Ir.Op) :: l.drop (i + 1)) by rw [HRES.out, HDR.out])
      have HALR := Lib.hid ((Keeps.refl (fun _ => False) wr).alloc (.cells (opC (⟨ok, od, (ka : Int), ob, oim, oat⟩ : Ir.Op)) 85))
      have HOAR := Lib.hid (OpAt.new wr (⟨ok, od, (ka : Int), ob, oim, oat⟩ : Ir.Op) 85)
      have HLV := Lib.hid (fun w => leaves_any ok w)
      obtain ⟨lv, hlv⟩ : ∃ lv, Ir.leaves (Ir.kn ok) = lv := ⟨_, rfl⟩
      rw [hlv] at HLV
      have HLVE := Lib.hid hlv
      clear hlv
      have HXA := Lib.hid (show Ir.rg c.X (ka : Int) = c.X ka from rfl)
      have HXR := Lib.hid (HMK.out.X ka hka64)
      have HBEL := Lib.hid (HM.out.below)
      obtain ⟨H, hH⟩ : ∃ H, wr.heap.size = H := ⟨_, rfl⟩
      have HHH := Lib.hid hH
      rw [hH] at HBEL HOAR
      clear hH
      go_upto_region 12 with fail
      have hal := HALR.out
      have hoa := HOAR.out
      simp only [opC] at hal hoa
      clear HALR HOAR
      rw [show wr.heap.size = H from HHH.out]
      have HSX := Lib.hid (show (B ≤ mb ∧ mb < H) ∧ ∀ v, (wr.alloc (.cells #[.string ok, .int .i64 od, .int .i64 (ka : Int), .int .i64 ob, .int .u32 oim, .int .i64 oat] 85)).cell? ⟨mb, 65, none⟩ = some v → ∀ g, v.ownBlock = some g → B ≤ g ∧ g < H from by
        obtain ⟨A5, cap5, h65, _⟩ := HM.out.wts
        refine ⟨HBEL.out.1, fun v hv g hg => HBEL.out.2 _ h65 g ?_⟩
        rw [hal.cell' h65 (fun h => h)] at hv
        injection hv with hv
        rw [hv]
        exact hg)
      clear HBEL
      generalize wr.alloc _ = wx at *
      obtain ⟨z, hz⟩ : ∃ z, z = H := ⟨_, rfl⟩
      rw [← hz] at hoa ⊢
      have HZH := Lib.hid hz
      clear hz
      have HAL := Lib.hid hal
      have HZX := Lib.hid hoa
      obtain ⟨x0, x1, x2, x3, x4, x5⟩ := hoa
      have HKX := Lib.hid (HKI.out.trans hal (fun _ _ h => h))
      have HKBX := Lib.hid (HK.out.trans (hal.mono (T := fun b => B ≤ b) (fun _ _ h => h.elim)) (fun _ _ h => h))
      have HMX := Lib.hid (HM.out.keep hal (fun _ _ h => h))
      clear hal e0 e1 e2 e3 e4 e5
      go_wp2_with fail
      refine (HLV.out _).mono ?_
      rintro e w6 ⟨rfl, rfl⟩
      cases lv
      · have HB6 := Lib.hid (Nat.le_trans HBW.out HKBX.out.size)
        have HDO := Lib.hid (do_any B mb r pb pw ph cp c m W (⟨ok, od, (ka : Int), ob, oim, oat⟩ : Ir.Op) w6 ea (HE3.out.keep HKX.out ⟨fun h => h, fun h => h, fun h => h⟩) HMX.out (HR.out.keep HKX.out (fun h => h) (fun h => h)) (HW.out.keep HKX.out (fun h => h)) HMK.out HIN.out HLVE.out (fun b => B ≤ b ∧ b < H) HSX.out HB6.out (by have := HLEN.out; have := HG.out.len; have := HL.out; omega))
        have HRES3 := Lib.hid (show Ir.evGo m W (Ir.mc0 s) l = match Ir.doOp m W c (⟨ok, od, (ka : Int), ob, oim, oat⟩ : Ir.Op) with | none => .trap oat | some c' => Ir.evGo m W c' (l.drop (i + 1)) by
          rw [HRES2.out]
          show (if Ir.leaves (Ir.kn ok) = true then _ else _) = _
          rw [HLVE.out]
          rfl)
        have HOK2 := Lib.hid (fun c' (h : Ir.doOp m W c (⟨ok, od, (ka : Int), ob, oim, oat⟩ : Ir.Op) = some c') => doOp_ok HR.out.rng HMK.out HIN.out HLVE.out h)
        cases hd : Ir.doOp m W c (⟨ok, od, (ka : Int), ob, oim, oat⟩ : Ir.Op) with
        | none =>
          rw [hd] at HDO HRES3
          have HD := Lib.hid (show Ir.evGo m W (Ir.mc0 s) l = .trap oat from HRES3.out)
          clear hd HOK2 HRES3
          go_wp2_with fail
          refine HDO.out.mono ?_
          rintro e w7 ⟨hk7, rfl⟩
          have HK7 := Lib.hid (HKBX.out.trans (hk7.mono (T := fun b => B ≤ b) (fun _ _ h => h.1)) (fun _ _ h => h))
          have HK7F := Lib.hid (show Keeps (fun _ => False) w w7 from HB4.out.k.trans HK7.out (fun b hb h => by have := HWB.out; omega))
          have HZ7 := Lib.hid (HZX.out.keep hk7 (fun h => by have := HZH.out; omega))
          have HE7 := Lib.hid (HB4.out.res.keep HK7.out (HNB.out rb HLT.out.2.2.2.2.1))
          clear x0 x1 x2 x3 x4 x5 hk7
          obtain ⟨y0, y1, y2, y3, y4, y5⟩ := HZ7.out
          obtain ⟨r0, r1, g0, g1⟩ := HE7.out.cells
          obtain ⟨hq1, hq2⟩ := HE7.out.put (t' := true) (a' := oat)
          have HP := Lib.hid hq1
          have HPK := Lib.hid hq2
          clear hq1 hq2
          go_wp2_with fail
          refine bodyPost_ret (results_end rfl _ _ rb true oat rfl HP.out) rfl ?_
          rw [HD.out]
          exact ⟨rfl, HK7F.out.trans HPK.out (fun b hb e => by have e : b = rb := e; have := HB4.out.low; omega)⟩
        | some c' =>
          obtain ⟨hok2, hlen2⟩ := HOK2.out c' hd
          have HOKC := Lib.hid hok2
          have HLENC := Lib.hid hlen2
          rw [hd] at HDO HRES3
          have HD := Lib.hid (show Ir.evGo m W (Ir.mc0 s) l = Ir.evGo m W c' (l.drop (i + 1)) from HRES3.out)
          clear hd HOK2 HRES3 hok2 hlen2
          go_wp2_with fail
          refine HDO.out.mono ?_
          rintro e w7 ⟨hk7, rfl, hM7⟩
          have HK7 := Lib.hid (HKBX.out.trans (hk7.mono (T := fun b => B ≤ b) (fun _ _ h => h.1)) (fun _ _ h => h))
          have HM7 := Lib.hid hM7
          clear x0 x1 x2 x3 x4 x5 hk7 hM7
          go_wp2_with fail
          go_roundw
          case rel => exact ⟨i + 1, by omega, by go_num, c', HM7.out, HOKC.out, by have := HLEN.out; have := HLENC.out; omega, HD.out, HK7.out⟩
          case measure => simp [intOf]; omega
      · have HWH := Lib.hid (fun w => where_any (⟨ok, od, (ka : Int), ob, oim, oat⟩ : Ir.Op) (c.X ka) w)
        have HGO := Lib.hid (Ir.goes_wh (⟨ok, od, (ka : Int), ob, oim, oat⟩ : Ir.Op) (c.X ka) HLVE.out)
        have HRES3 := Lib.hid (show Ir.evGo m W (Ir.mc0 s) l = match Ir.goesTo (⟨ok, od, (ka : Int), ob, oim, oat⟩ : Ir.Op) (c.X ka) with | some pc => .leave pc c | none => Ir.evGo m W c (l.drop (i + 1)) by
          rw [HRES2.out, ← HXA.out]
          show (if Ir.leaves (Ir.kn ok) = true then _ else _) = _
          rw [HLVE.out]
          rfl)
        have HWR := Lib.hid (show 0 ≤ (Ir.whV (⟨ok, od, (ka : Int), ob, oim, oat⟩ : Ir.Op) (c.X ka)).1 ∧ (Ir.whV (⟨ok, od, (ka : Int), ob, oim, oat⟩ : Ir.Op) (c.X ka)).1 < 4294967296 by
          unfold Ir.whV
          split
          · exact HIN.out.imm
          · split
            · exact HXR.out
            · exact HIN.out.imm)
        rw [HGO.out] at HRES3
        obtain ⟨⟨wpc, wis⟩, hwv⟩ : ∃ v, Ir.whV (⟨ok, od, (ka : Int), ob, oim, oat⟩ : Ir.Op) (c.X ka) = v := ⟨_, rfl⟩
        rw [hwv] at HWH HRES3 HWR
        clear hwv HGO
        simp only at HWH HRES3 HWR
        obtain ⟨m0, _⟩ := HMX.out.reg ka hka64
        have hzk0 : (0 : Int) ≤ (ka : Int) := by omega
        go_upto_region 13 with fail
        go_region_held3 (fun w' => Keeps (fun _ => False) w6 w' ∧ w'.cell? ⟨z, 0, none⟩ = some (.string ok) ∧ w'.cell? ⟨z, 1, none⟩ = some (.int .i64 od) ∧ w'.cell? ⟨z, 2, none⟩ = some (.int .i64 (ka : Int)) ∧ w'.cell? ⟨z, 3, none⟩ = some (.int .i64 ob) ∧ w'.cell? ⟨z, 4, none⟩ = some (.int .u32 oim) ∧ w'.cell? ⟨z, 5, none⟩ = some (.int .i64 oat) ∧ w'.cell? ⟨mb, ka, none⟩ = some (.int .u32 (c.X ka)))
          (first | (refine ⟨?_, ?_, ?_, ?_, ?_, ?_, ?_, ?_⟩ <;> first | ((repeat (first | exact Keeps.refl _ _ | assumption | apply Keeps.drew | apply Keeps.drewN | apply Keeps.alloc | (refine Keeps.trans ?_ (by assumption) (fun _ _ h => h)))); done) | (refine Keeps.cell' (S := fun _ => False) (w := w6) ?_ (by assumption) (fun f => f); (repeat (first | exact Keeps.refl _ _ | assumption | apply Keeps.drew | apply Keeps.drewN | apply Keeps.alloc | (refine Keeps.trans ?_ (by assumption) (fun _ _ h => h)))); done)) | (trace_state; fail))
          (first | (go_at_call 52; refine (HWH.out _).mono ?_; rintro e w7 ⟨rfl, hk7⟩))
        rename_i hh
        have hkb := hh.1
        clear hh x0 x1 x2 x3 x4 x5 m0 hk7
        have HKF7 := Lib.hid (HKX.out.trans hkb (fun _ _ h => h))
        have HK7 := Lib.hid (HKBX.out.trans (hkb.mono (T := fun b => B ≤ b) (fun _ _ h => h.elim)) (fun _ _ h => h))
        have HM7 := Lib.hid (HMX.out.keep hkb (fun _ _ h => h))
        clear hkb
        cases wis
        · have HD := Lib.hid (show Ir.evGo m W (Ir.mc0 s) l = Ir.evGo m W c (l.drop (i + 1)) from HRES3.out)
          clear HRES3
          go_wp2_with fail
          go_roundw
          case rel => exact ⟨i + 1, by omega, by go_num, c, HM7.out, HMK.out, by have := HLEN.out; omega, HD.out, HK7.out⟩
          case measure => simp [intOf]; omega
        · have HD := Lib.hid (show Ir.evGo m W (Ir.mc0 s) l = .leave wpc c from HRES3.out)
          clear HRES3
          have HC7 := Lib.hid (HB4.out.code.keep HK7.out (HNB.out x HLT.out.2.2.2.2.2))
          have HLE := Lib.hid (leave_any B mb r sb pb pw ph cp c m W s wpc many w7 HM7.out (HR.out.keep HKF7.out (fun h => h) (fun h => h)) (HW.out.keep HKF7.out (fun h => h)) (HS.out.keep HKF7.out (fun h => h)) HMK.out HWR.out HRNG.out.count (by have := HG.out.range; omega)
            ⟨by have := HLT.out.1; have := HM7.out.low; omega, HSEP.out.1, HSEP.out.2.1, HSEP.out.2.2⟩ HLT.out.1 HLT.out.2.1 HLT.out.2.2.1 (Nat.le_trans HBW.out HK7.out.size))
          obtain ⟨_, d1, _, _⟩ := HC7.out.cells
          go_wp2_with fail
          refine HLE.out.mono ?_
          rintro e w8 ⟨rfl, hS8, hR8, hk8⟩
          have HS8 := Lib.hid hS8
          have HR8 := Lib.hid hR8
          have HK8 := Lib.hid hk8
          have HNR := Lib.hid (show sb ≠ rb ∧ pb ≠ rb ∧ r ≠ rb from by
            have h1 := HS.out.lt
            have h2 := HR.out.bytes.lt
            have h3 := (Array.getElem?_eq_some_iff.1 HR.out.box).1
            have h4 := HB4.out.low.2
            omega)
          have HE8 := Lib.hid ((HB4.out.res.keep HK7.out (HNB.out rb HLT.out.2.2.2.2.1)).keep hk8 (fun h => by have := HNR.out; omega))
          clear d1 hS8 hR8 hk8
          obtain ⟨r0, r1, g0, g1⟩ := HE8.out.cells
          obtain ⟨hq1, hq2⟩ := HE8.out.put (t' := false) (a' := 0)
          have HP := Lib.hid hq1
          have HPK := Lib.hid hq2
          clear hq1 hq2
          go_wp2_with fail
          refine bodyPost_ret (results_end rfl _ _ rb false 0 rfl HP.out) rfl ?_
          rw [HD.out]
          refine ⟨rfl, HS8.out.keep HPK.out HNR.out.1, HR8.out.keep HPK.out HNR.out.2.2 HNR.out.2.1, ?_⟩
          exact ((HKF7.out.mono (T := fun b => b = sb ∨ b = pb) (fun _ _ h => h.elim)).trans HK8.out (fun _ _ h => h)).trans HPK.out (fun b hb e => by have e : b = rb := e; have := HB4.out.low; omega)
    · obtain rfl : i = n := by omega
      have HFE := Lib.hid (show Ir.evGo m W (Ir.mc0 s) l = .fell c by
        rw [HRES.out, List.drop_eq_nil_of_le (by rw [HL.out]; exact Nat.le_refl _)]
        rfl)
      have HEF := Lib.hid (HEB.out)
      obtain ⟨r0, r1, g0, g1⟩ := HEF.out.cells
      obtain ⟨hq1, hq2⟩ := HEF.out.put (t' := false) (a' := 0)
      have HP := Lib.hid hq1
      have HPK := Lib.hid hq2
      clear hq1 hq2
      go_wp2_with fail
      refine bodyPost_ret (results_end rfl _ _ rb false 0 rfl HP.out) rfl ?_
      rw [HFE.out]
      exact ⟨rfl, HKI.out.trans HPK.out (fun b hb e => by have e : b = rb := e; have := HB4.out.low; omega)⟩
end Go.Proofs.YtgmbladcoikffaaGreatDoor
