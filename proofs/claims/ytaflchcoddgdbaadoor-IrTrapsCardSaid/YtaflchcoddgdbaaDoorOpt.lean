/- The walk of opt.Opt. -/
import Derived.Test.YtaflchcoddgdbaaDoorOptL
import Derived.Test.YtaflchcoddgdbaaDoorFold
import Derived.Test.YtaflchcoddgdbaaDoorSweep
import Derived.Test.YtaflchcoddgdbaaDoorIrCheck
import Derived.Test.YtaflchcoddgdbaaDoorKnown
import Derived.Deep.RegionHeld3
import Derived.Laws.Rows
import Derived.Laws.ResultCell
namespace Go.Proofs.YtaflchcoddgdbaaDoor
open Go.RowKit Go.Deep
set_option linter.unusedVariables false
set_option linter.unusedSimpArgs false

theorem size_code : (Tryd.prog.info? 35).map (·.size) = some 3 := by kernel_rfl
theorem results_code {fn : Func} {p u : Tmp} (h : fn.results = #[.cell p 35, .tmp u]) (tmps : Array Value) (w : World) (g : Nat) (cs : Array Value) (hp : tmps.getD p undef = .pointer (some ⟨g, 0, none⟩)) (hg : w.heap[g]? = some (.cells cs 35 (0, 0))) (hc : cs.size = 3) :
    (results fn tmps).run Tryd.prog w = .ok (.tuple #[.agg cs, tmps.getD u undef]) w := by
  rw [results_cell_tmp h, hp]
  have := run_loadVar_row (P := Tryd.prog) w g 35 35 cs (0, 0) _ hg Tryd.underlying35 rfl (by rw [hc]; exact size_code)
  simp [asAddr, this]
theorem set3c {w : World} {x : Nat} {T : TypeId} {a b c a' b' c' : Value} (h : w.heap[x]? = some (.cells #[a, b, c] T (0, 0))) :
    (((w.setCell ⟨x, 0, none⟩ a').setCell ⟨x, 1, none⟩ b').setCell ⟨x, 2, none⟩ c').heap[x]? = some (.cells #[a', b', c'] T (0, 0)) ∧
      Keeps (· = x) w (((w.setCell ⟨x, 0, none⟩ a').setCell ⟨x, 1, none⟩ b').setCell ⟨x, 2, none⟩ c') := by
  refine ⟨?_, Keeps.trans (Keeps.trans (Keeps.one _ _ _ _) (Keeps.one _ _ _ _) (fun _ _ h => h)) (Keeps.one _ _ _ _) (fun _ _ h => h)⟩
  have h1 := set_block (set_block (set_block h 0 a') 1 b') 2 c'
  simpa using h1
/-- a code's cells -/
def codeC (pc many : Int) (A : Option Addr) (n cap : Nat) : Array Value := #[.int .u32 pc, .int .i64 many, .slice A n cap]
/-- a code in a block of its own -/
structure CodeBox (w : World) (x : Nat) (pc many : Int) (A : Option Addr) (n cap : Nat) : Prop where
  blk : w.heap[x]? = some (.cells (codeC pc many A n cap) 35 (0, 0))
theorem CodeBox.lt {w : World} {x : Nat} {pc many : Int} {A : Option Addr} {n cap : Nat} (h : CodeBox w x pc many A n cap) : x < w.heap.size := (Array.getElem?_eq_some_iff.1 h.blk).1
theorem CodeBox.keep {S : Nat → Prop} {w w' : World} {x : Nat} {pc many : Int} {A : Option Addr} {n cap : Nat} (h : CodeBox w x pc many A n cap) (k : Keeps S w w') (hs : ¬ S x) : CodeBox w' x pc many A n cap := ⟨(k.block x h.lt hs).trans h.blk⟩
theorem CodeBox.cells {w : World} {x : Nat} {pc many : Int} {A : Option Addr} {n cap : Nat} (h : CodeBox w x pc many A n cap) :
    w.cell? ⟨x, 0, none⟩ = some (.int .u32 pc) ∧ w.cell? ⟨x, 1, none⟩ = some (.int .i64 many) ∧ w.cell? ⟨x, 2, none⟩ = some (.slice A n cap) ∧ w.frozen? ⟨x, 0, none⟩ = false ∧ w.frozen? ⟨x, 1, none⟩ = false ∧ w.frozen? ⟨x, 2, none⟩ = false := by
  have hb := h.blk
  unfold codeC at hb
  refine ⟨?_, ?_, ?_, frozen_of_block hb 0, frozen_of_block hb 1, frozen_of_block hb 2⟩ <;> (unfold World.cell?; rw [hb]; rfl)
theorem CodeBox.code {w : World} {x : Nat} {pc many : Int} {A : Option Addr} {n cap : Nat} (h : CodeBox w x pc many A n cap) : CodeAt w x pc many A n cap := ⟨h.cells.1, h.cells.2.1, h.cells.2.2.1⟩
theorem CodeBox.put {w : World} {x : Nat} {pc many pc' many' : Int} {A A' : Option Addr} {n cap n' cap' : Nat} (h : CodeBox w x pc many A n cap) :
    CodeBox (((w.setCell ⟨x, 0, none⟩ (.int .u32 pc')).setCell ⟨x, 1, none⟩ (.int .i64 many')).setCell ⟨x, 2, none⟩ (.slice A' n' cap')) x pc' many' A' n' cap' ∧
      Keeps (· = x) w (((w.setCell ⟨x, 0, none⟩ (.int .u32 pc')).setCell ⟨x, 1, none⟩ (.int .i64 many')).setCell ⟨x, 2, none⟩ (.slice A' n' cap')) :=
  ⟨⟨(set3c h.blk).1⟩, (set3c h.blk).2⟩
theorem CodeBox.put2 {w : World} {x : Nat} {pc many : Int} {A A' : Option Addr} {n cap n' cap' : Nat} (h : CodeBox w x pc many A n cap) :
    CodeBox (w.setCell ⟨x, 2, none⟩ (.slice A' n' cap')) x pc many A' n' cap' ∧ Keeps (· = x) w (w.setCell ⟨x, 2, none⟩ (.slice A' n' cap')) := by
  refine ⟨⟨?_⟩, Keeps.one _ _ _ _⟩
  have h1 := set_block h.blk 2 (.slice A' n' cap')
  simpa [codeC] using h1
theorem CodeBox.new (w : World) (pc many : Int) (A : Option Addr) (n cap : Nat) : CodeBox (w.alloc (.cells #[.int .u32 pc, .int .i64 many, .slice A n cap] 35)) w.heap.size pc many A n cap := ⟨blk_alloc_new _ _⟩
/-- the two boxes that Opt begins with: its argument, its result -/
structure OptBox (w wr : World) (x rb : Nat) (pc many : Int) (A : Option Addr) (n cap : Nat) : Prop where
  code : CodeBox wr x pc many A n cap
  res : CodeBox wr rb 0 0 none 0 0
  k : Keeps (fun _ => False) w wr
  ne : x ≠ rb
  low : w.heap.size ≤ x ∧ w.heap.size ≤ rb
theorem OptBox.new (w : World) (pc many : Int) (A : Option Addr) (n cap : Nat) :
    OptBox w ((w.alloc (.cells #[.int .u32 pc, .int .i64 many, .slice A n cap] 35)).alloc (.cells #[.int .u32 0, .int .i64 0, .slice none 0 0] 35)) w.heap.size (w.heap.size + 1) pc many A n cap := by
  have h1 := CodeBox.new w pc many A n cap
  have h2 := CodeBox.new (w.alloc (.cells #[.int .u32 pc, .int .i64 many, .slice A n cap] 35)) 0 0 none 0 0
  rw [nblk_alloc] at h2
  exact ⟨h1.keep ((Keeps.refl (fun _ => False) _).alloc _) (fun h => h), h2, ((Keeps.refl _ _).alloc _).alloc _, by omega, by omega⟩
theorem OptBox.keep {w wr w' : World} {x rb : Nat} {pc many : Int} {A : Option Addr} {n cap : Nat} (h : OptBox w wr x rb pc many A n cap) (k : Keeps (fun _ => False) wr w') : OptBox w w' x rb pc many A n cap :=
  ⟨h.code.keep k (fun h => h), h.res.keep k (fun h => h), h.k.trans k (fun _ _ h => h), h.ne, h.low⟩

theorem OpsAt.other {w w' : World} {A A' : Option Addr} {n cap n' cap' z : Nat} {l : List Ir.Op} {pc many : Int} (V : OpsAt w A n cap l) (C : CodeBox w z pc many A' n' cap') (k : Keeps (· = z) w w') : OpsAt w' A n cap l := by
  obtain ⟨h1, h2, h3 | ⟨b, o, rfl, hb, hc⟩⟩ := V
  · exact ⟨h1, h2, .inl h3⟩
  · refine ⟨h1, h2, .inr ⟨b, o, rfl, Nat.lt_of_lt_of_le hb k.size, fun i hi => (hc i hi).keep k (fun e => ?_)⟩⟩
    have e : b = z := e
    subst e
    have h4 := (hc i hi).v0
    have h5 := C.blk
    unfold World.cell? at h4
    rw [h5] at h4
    generalize o + i * 6 = j at h4
    match j with
    | 0 => simp [codeC] at h4
    | 1 => simp [codeC] at h4
    | 2 => simp [codeC] at h4
    | j + 3 => simp [codeC] at h4
theorem FaultIs.other {w w' : World} {ea : Nat → Addr} {f : Nat × Int} {v : Value} {z n cap : Nat} {pc many : Int} {A : Option Addr} (h : FaultIs w ea f v) (C : CodeBox w z pc many A n cap) (k : Keeps (· = z) w w') : FaultIs w' ea f v := by
  rcases h with h | h | ⟨h1, h2, b, h3, h4, h5⟩
  · exact .inl h
  · exact .inr (.inl h)
  · have hne : b ≠ z := by
      rintro rfl
      rw [C.cells.1] at h4
      cases h4
    exact .inr (.inr ⟨h1, h2, b, h3, k.cell' h4 hne, k.cell' h5 hne⟩)
/-- the code that Opt works on -/
structure OptRun (w wr : World) (z rb : Nat) (pc many : Int) (l : List Ir.Op) (A : Option Addr) (n cap : Nat) : Prop where
  code : CodeBox wr z pc many A n cap
  ops : OpsAt wr A n cap l
  hc : cap ≤ 9223372036854775807
  res : CodeBox wr rb 0 0 none 0 0
  k : Keeps (fun _ => False) w wr
  ne : z ≠ rb
  low : w.heap.size ≤ z ∧ w.heap.size ≤ rb
theorem OptRun.keep {w wr w' : World} {z rb : Nat} {pc many : Int} {l : List Ir.Op} {A : Option Addr} {n cap : Nat} (h : OptRun w wr z rb pc many l A n cap) (k : Keeps (fun _ => False) wr w') : OptRun w w' z rb pc many l A n cap :=
  ⟨h.code.keep k (fun h => h), h.ops.quiet k, h.hc, h.res.keep k (fun h => h), h.k.trans k (fun _ _ h => h), h.ne, h.low⟩
theorem OptRun.put {w wr : World} {z rb : Nat} {pc many : Int} {l l' : List Ir.Op} {A A' : Option Addr} {n cap n' cap' : Nat} (h : OptRun w wr z rb pc many l A n cap) (V : OpsAt wr A' n' cap' l') (hc : cap' ≤ 9223372036854775807) :
    OptRun w (wr.setCell ⟨z, 2, none⟩ (.slice A' n' cap')) z rb pc many l' A' n' cap' := by
  obtain ⟨h1, h2⟩ := h.code.put2 (A' := A') (n' := n') (cap' := cap')
  exact ⟨h1, V.other h.code h2, hc, h.res.keep h2 (fun e => h.ne e.symm), h.k.trans h2 (fun b hb e => by have e : b = z := e; have := h.low; omega), h.ne, h.low⟩
theorem OptRun.done {w wr : World} {z rb : Nat} {pc many : Int} {l : List Ir.Op} {A : Option Addr} {n cap : Nat} (h : OptRun w wr z rb pc many l A n cap) :
    (((wr.setCell ⟨rb, 0, none⟩ (.int .u32 pc)).setCell ⟨rb, 1, none⟩ (.int .i64 many)).setCell ⟨rb, 2, none⟩ (.slice A n cap)).heap[rb]? = some (.cells (codeC pc many A n cap) 35 (0, 0)) ∧
    OpsAt (((wr.setCell ⟨rb, 0, none⟩ (.int .u32 pc)).setCell ⟨rb, 1, none⟩ (.int .i64 many)).setCell ⟨rb, 2, none⟩ (.slice A n cap)) A n cap l ∧
    Keeps (fun _ => False) w (((wr.setCell ⟨rb, 0, none⟩ (.int .u32 pc)).setCell ⟨rb, 1, none⟩ (.int .i64 many)).setCell ⟨rb, 2, none⟩ (.slice A n cap)) := by
  obtain ⟨h1, h2⟩ := h.res.put (pc' := pc) (many' := many) (A' := A) (n' := n) (cap' := cap)
  exact ⟨h1.blk, h.ops.other h.res h2, h.k.trans h2 (fun b hb e => by have e : b = rb := e; have := h.low; omega)⟩
theorem owns_cap {w : World} {base e size n cap : Nat} {A : Option Addr} {xs : List Value} (h : w.ownsRow base e size (.slice A n cap) n xs) : cap ≤ 9223372036854775807 := by
  obtain ⟨_, ⟨h2, h3⟩ | ⟨g, cap', cur, h2, h3, h4, h5, h6, h7, h8⟩⟩ := h
  · injection h2 with e1 e2 e3
    omega
  · injection h2 with e1 e2 e3
    subst e3
    unfold maxLen at h6
    omega
theorem OptRun.first {w w2 w3 w4 : World} {x rb : Nat} {pc many : Int} {l : List Ir.Op} {A A4 : Option Addr} {n cap cap4 base : Nat} (h : OptBox w w2 x rb pc many A n cap) (hw : w3 = w2.drew) (k : Keeps (fun _ => False) w3 w4) (ho : w4.ownsRow base 60 6 (.slice A4 l.length cap4) l.length (opsL l)) :
    OptRun w (w4.alloc (.cells #[.int .u32 pc, .int .i64 many, .slice A4 l.length cap4] 35)) w4.heap.size rb pc many l A4 l.length cap4 := by
  subst hw
  have hk := ((Keeps.refl (fun _ => False) w2).drew).trans k (fun _ _ h => h)
  have ha := (Keeps.refl (fun _ => False) w4).alloc (.cells #[.int .u32 pc, .int .i64 many, .slice A4 l.length cap4] 35)
  have h1 := h.res.lt
  have h2 := hk.size
  have h3 := h.k.size
  exact ⟨CodeBox.new _ _ _ _ _ _, (OpsAt.of_owns ho rfl).quiet ha, owns_cap ho, (h.res.keep hk (fun h => h)).keep ha (fun h => h), (h.k.trans hk (fun _ _ h => h)).trans ha (fun _ _ h => h), by omega, by omega, h.low.2⟩
theorem OptRun.second {w w2 w3 w4 : World} {x rb : Nat} {pc many : Int} {l : List Ir.Op} {A A4 : Option Addr} {n cap cap4 base : Nat} (h : OptBox w w2 x rb pc many A n cap) (hw : w3 = (w2.alloc (.cells #[.int .u32 0, .int .i64 0, .slice none 0 0] 35)).drew) (k : Keeps (fun _ => False) w3 w4) (ho : w4.ownsRow base 60 6 (.slice A4 l.length cap4) l.length (opsL l)) (hz : CodeBox w4 w2.heap.size 0 0 none 0 0) :
    OptRun w (((w4.setCell ⟨w2.heap.size, 0, none⟩ (.int .u32 pc)).setCell ⟨w2.heap.size, 1, none⟩ (.int .i64 many)).setCell ⟨w2.heap.size, 2, none⟩ (.slice A4 l.length cap4)) w2.heap.size rb pc many l A4 l.length cap4 := by
  subst hw
  have hk := ((((Keeps.refl (fun _ => False) w2).alloc (.cells #[.int .u32 0, .int .i64 0, .slice none 0 0] 35)).drew)).trans k (fun _ _ h => h)
  obtain ⟨h5, h6⟩ := hz.put (pc' := pc) (many' := many) (A' := A4) (n' := l.length) (cap' := cap4)
  have h1 := h.res.lt
  have h3 := h.k.size
  exact ⟨h5, (OpsAt.of_owns ho rfl).other hz h6, owns_cap ho, (h.res.keep hk (fun h => h)).keep h6 (fun e => by have e : rb = w2.heap.size := e; omega), (h.k.trans hk (fun _ _ h => h)).trans h6 (fun b hb e => by have e : b = w2.heap.size := e; omega), by omega, by omega, h.low.2⟩
theorem OptIs.fails {w : World} {ea : Nat → Addr} {pc many : Int} {l : List Ir.Op} {level : Int} {ev : Value} (h : FaultIs w ea (Ir.optFault many l level) ev) (h0 : (Ir.optFault many l level).1 ≠ 0) : OptIs w ea pc many l level (.agg (codeC 0 0 none 0 0)) ev :=
  ⟨h, .inl ⟨h0, rfl⟩⟩
theorem OptIs.makes {w : World} {ea : Nat → Addr} {pc many : Int} {l l' : List Ir.Op} {level : Int} {A : Option Addr} {n cap : Nat} (h : Ir.optFault many l level = (0, -1)) (hl : Ir.opt l level = l') (V : OpsAt w A n cap l') (hc : cap ≤ 9223372036854775807) : OptIs w ea pc many l level (.agg (codeC pc many A n cap)) .nilIface := by
  refine ⟨.inl ⟨by rw [h], rfl⟩, .inr ⟨by rw [h], A, cap, ?_, ?_, hc⟩⟩
  · rw [hl, V.len]; rfl
  · rw [hl, V.len]; exact V

set_option maxHeartbeats 4000000 in
set_option maxRecDepth 100000 in
theorem Opt_any (pc many level : Int) (A : Option Addr) (n cap : Nat) (l : List Ir.Op) (w : World) (ea : Nat → Addr) (E : ErrsC w ea) (V : OpsAt w A n cap l) (hc : cap ≤ 9223372036854775807) (hok : ∀ o ∈ l, OpOk o) :
    Calls Tryd.prog 29 #[.agg #[.int .u32 pc, .int .i64 many, .slice A n cap], .int .i64 level] w fun e w' => (∃ cv ev, e = .returned (.tuple #[cv, ev]) ∧ OptIs w' ea pc many l level cv ev) ∧ Keeps (fun _ => False) w w' := by
  have HE := Lib.hid E
  have HV := Lib.hid V
  have hn := V.le
  have HL := Lib.hid V.len
  have HN := Lib.hid (OptBox.new w pc many A n cap)
  have HCK := Lib.hid (fun w E V => Check_any pc many A n cap l w ea E V hc)
  have HOK := Lib.hid hok
  have HF := Lib.hid (show Ir.optFault many l level = if (Ir.fault many l).1 ≠ 0 then Ir.fault many l else if level < 0 ∨ 2 < level then (2, -1) else (0, -1) from rfl)
  have HG := Lib.hid (fun (h : (Ir.fault many l).1 = 0) => Ir.good_of_fault h)
  generalize hof : Ir.optFault many l level = of at HF
  have HOF := Lib.hid hof
  clear hof
  generalize Ir.fault many l = f at HF HCK HG
  clear E V hok
  go_enter Tryd.func29, Tryd.ntmps29
  go_upto_region 1 with fail
  have hN := HN.out
  clear HN
  generalize (w.alloc _).alloc _ = w1 at *
  generalize w.heap.size + 1 = rb at *
  obtain ⟨x, hx⟩ : ∃ x, w.heap.size = x := ⟨_, rfl⟩
  rw [hx] at hN ⊢
  clear hx
  have HB1 := Lib.hid hN
  obtain ⟨c0, c1, c2, _⟩ := hN.code.cells
  clear hN
  go_wp2_with fail
  refine (HCK.out w1 (HE.out.quiet HB1.out.k) (HV.out.quiet HB1.out.k)).mono ?_
  rintro e w2 ⟨⟨v, rfl, hv⟩, hk2⟩
  have HB2 := Lib.hid (HB1.out.keep hk2)
  have HFV := Lib.hid hv
  have hp := hv.parts
  clear c0 c1 c2 hk2 hv
  rcases hp with ⟨h0, rfl⟩ | ⟨h0, t, u, rfl⟩
  · have HGG := Lib.hid (HG.out h0)
    have hF2 := HF.out
    rw [if_neg (by rw [h0]; decide)] at hF2
    have HF2 := Lib.hid hF2
    clear h0 hF2
    by_cases hlv : level < 0 ∨ 2 < level
    · have HR := Lib.hid (show of = (2, -1) by rw [HF2.out, if_pos hlv])
      obtain ⟨r0, r1, r2, g0, g1, g2⟩ := HB2.out.res.cells
      have he := (HE.out.quiet HB2.out.k).bound
      have hrb2 : rb ≠ 2 := by
        rintro rfl
        rw [r0] at he
        cases he
      have hrb3 : 2 ≠ rb := fun e => hrb2 e.symm
      rcases hlv with hlv | hlv
      · have t1 : decide (level < 0) = true := decide_eq_true hlv
        go_upto_region 5 with fail
        go_region_held3 (fun w' => Keeps (· = rb) w2 w' ∧ w'.cell? ⟨2, 0, none⟩ = some (.iface 216 (.pointer (some (ea 2)))))
          (first | (refine ⟨?_, ?_⟩ <;> first | ((repeat (first | (with_reducible assumption) | (with_reducible (exact Keeps.refl _ _)) | (with_reducible (apply Keeps.drew)) | (refine Keeps.setCell (S := fun x => x = rb) (a := ⟨rb, _, none⟩) ?_ (fun _ => rfl) _))); done) | (refine Keeps.cell' (S := (· = rb)) (w := w2) ?_ (by assumption) hrb3; (repeat (first | (with_reducible assumption) | (with_reducible (exact Keeps.refl _ _)) | (with_reducible (apply Keeps.drew)) | (refine Keeps.setCell (S := fun x => x = rb) (a := ⟨rb, _, none⟩) ?_ (fun _ => rfl) _))); done)) | (trace_state; fail))
          (fail)
        rename_i hh
        have HKH := Lib.hid hh.1
        clear hh r0 r1 r2 g0 g1 g2 he hrb2 hrb3 t1
        obtain ⟨hq1, hq2⟩ := HB2.out.res.put (pc' := 0) (many' := 0) (A' := none) (n' := 0) (cap' := 0)
        have HP := Lib.hid hq1.blk
        clear hq1 hq2
        go_wp2_with fail
        refine bodyPost_ret (results_code rfl _ _ rb (codeC 0 0 none 0 0) rfl HP.out rfl) rfl ⟨⟨_, _, rfl, ?_⟩, ?_⟩
        · refine OptIs.fails ?_ (by rw [HOF.out, HR.out]; decide)
          rw [HOF.out, HR.out]
          exact FaultIs.bare rfl (by decide)
        · exact HB2.out.k.trans HKH.out (fun b hb e => by have e : b = rb := e; have := HB2.out.low; omega)
      · have t1 : decide (level < 0) = false := decide_eq_false (by omega)
        have t2 : decide (2 < level) = true := decide_eq_true hlv
        go_upto_region 5 with fail
        go_region_held3 (fun w' => Keeps (· = rb) w2 w' ∧ w'.cell? ⟨2, 0, none⟩ = some (.iface 216 (.pointer (some (ea 2)))))
          (first | (refine ⟨?_, ?_⟩ <;> first | ((repeat (first | (with_reducible assumption) | (with_reducible (exact Keeps.refl _ _)) | (with_reducible (apply Keeps.drew)) | (refine Keeps.setCell (S := fun x => x = rb) (a := ⟨rb, _, none⟩) ?_ (fun _ => rfl) _))); done) | (refine Keeps.cell' (S := (· = rb)) (w := w2) ?_ (by assumption) hrb3; (repeat (first | (with_reducible assumption) | (with_reducible (exact Keeps.refl _ _)) | (with_reducible (apply Keeps.drew)) | (refine Keeps.setCell (S := fun x => x = rb) (a := ⟨rb, _, none⟩) ?_ (fun _ => rfl) _))); done)) | (trace_state; fail))
          (fail)
        rename_i hh
        have HKH := Lib.hid hh.1
        clear hh r0 r1 r2 g0 g1 g2 he hrb2 hrb3 t1
        obtain ⟨hq1, hq2⟩ := HB2.out.res.put (pc' := 0) (many' := 0) (A' := none) (n' := 0) (cap' := 0)
        have HP := Lib.hid hq1.blk
        clear hq1 hq2
        go_wp2_with fail
        refine bodyPost_ret (results_code rfl _ _ rb (codeC 0 0 none 0 0) rfl HP.out rfl) rfl ⟨⟨_, _, rfl, ?_⟩, ?_⟩
        · refine OptIs.fails ?_ (by rw [HOF.out, HR.out]; decide)
          rw [HOF.out, HR.out]
          exact FaultIs.bare rfl (by decide)
        · exact HB2.out.k.trans HKH.out (fun b hb e => by have e : b = rb := e; have := HB2.out.low; omega)
    · have HR := Lib.hid (show of = (0, -1) by rw [HF2.out, if_neg hlv])
      have t1 : decide (level < 0) = false := decide_eq_false (by omega)
      have t2 : decide (2 < level) = false := decide_eq_false (by omega)
      have hlv3 : level = 0 ∨ level = 1 ∨ level = 2 := by omega
      clear hlv
      go_upto_region 6 with fail
      obtain ⟨d0, d1, d2, _⟩ := HB2.out.code.cells
      have HCL := Lib.hid (fun w V => clone_any A n cap l w V (by have := HGG.out.len; have := HL.out; omega))
      have HW2 := Lib.hid (HV.out.quiet HB2.out.k)
      obtain ⟨B, hB⟩ : ∃ B, w2.heap.size = B := ⟨_, rfl⟩
      have HBB := Lib.hid hB
      have hxB : x < B := by have := HB2.out.code.lt; omega
      have hb2 : B ≤ w2.heap.size := Nat.le_of_eq hB.symm
      clear hB
      go_cut [7] (fun s7 wx => ∃ z A' cap', s7 = .pointer (some ⟨z, 0, none⟩) ∧ OptRun w wx z rb pc many l A' l.length cap')
      case first =>
        go_region_held3 (fun w' => Keeps (fun b => B ≤ b) w2 w' ∧ w'.cell? ⟨x, 0, none⟩ = some (.int .u32 pc) ∧ w'.cell? ⟨x, 1, none⟩ = some (.int .i64 many) ∧ w'.cell? ⟨x, 2, none⟩ = some (.slice A n cap))
          (first | (refine ⟨?_, ?_, ?_, ?_⟩ <;> first | ((repeat (first | (with_reducible assumption) | (with_reducible (exact Keeps.refl _ _)) | (with_reducible (apply Keeps.drew)) | (with_reducible (apply Keeps.alloc)) | (refine Keeps.setCell (S := fun b => B ≤ b) (a := ⟨_, _, none⟩) ?_ (fun _ => by first | assumption | (simp only [nblk_alloc, nblk_drew]; omega)) _))); done) | (refine Keeps.cell' (S := fun b => B ≤ b) (w := w2) ?_ (by assumption) (Nat.not_le.2 hxB); (repeat (first | (with_reducible assumption) | (with_reducible (exact Keeps.refl _ _)) | (with_reducible (apply Keeps.drew)) | (with_reducible (apply Keeps.alloc)) | (refine Keeps.setCell (S := fun b => B ≤ b) (a := ⟨_, _, none⟩) ?_ (fun _ => by first | assumption | (simp only [nblk_alloc, nblk_drew]; omega)) _))); done)) | (trace_state; fail))
          (first | (go_at_call 63; refine (HCL.out _ ?_).mono ?_; (exact HW2.out.quiet (by (repeat (first | exact Keeps.refl _ _ | assumption | apply Keeps.drew | apply Keeps.drewN | apply Keeps.alloc)))); rintro e w4 ⟨v4, rfl, ho4, hk4⟩; have hq4 : Keeps (fun b => B ≤ b) w2 w4 := Keeps.trans (by (repeat (first | (with_reducible assumption) | (with_reducible (exact Keeps.refl _ _)) | (with_reducible (apply Keeps.drew)) | (with_reducible (apply Keeps.alloc)) | (refine Keeps.setCell (S := fun b => B ≤ b) (a := ⟨_, _, none⟩) ?_ (fun _ => by first | assumption | (simp only [nblk_alloc, nblk_drew]; omega)) _))); done) (hk4.mono (fun _ _ h => h.elim)) (fun _ _ h => h); have hb4 : B ≤ w4.heap.size := Nat.le_trans hb2 hq4.size; obtain ⟨A4, cap4, rfl, ho4⟩ := ho4; (first | (have hz4 : CodeBox w4 w2.heap.size 0 0 none 0 0 := CodeBox.keep (S := fun _ => False) (CodeBox.new w2.drew 0 0 none 0 0) hk4 (fun h => h); have HZ4 := Lib.hid hz4; obtain ⟨z0, z1, z2, z3, z4, z5⟩ := hz4.cells; clear hz4) | skip)))
        · have HO := Lib.hid (OptRun.first (pc := pc) (many := many) HB2.out rfl hk4 ho4)
          clear hq4 hb4 ho4 hk4 d0 d1 d2
          go_wp2_with fail
          go_meet
          exact ⟨_, _, _, rfl, HO.out⟩
        · have HO := Lib.hid (OptRun.second (pc := pc) (many := many) HB2.out rfl hk4 ho4 HZ4.out)
          clear hq4 hb4 ho4 hk4 d0 d1 d2 z0 z1 z2 z3 z4 z5
          go_wp2_with fail
          go_meet
          exact ⟨_, _, _, rfl, HO.out⟩
      case rest =>
        obtain ⟨z, A4, cap4, rfl, hO⟩ := hcut
        have HO := Lib.hid hO
        clear hO d0 d1 d2
        have HOO := Lib.hid (ops_ok_good HGG.out HOK.out)
        have HLN := Lib.hid (show l.length < 1000000 by have := HGG.out.len; omega)
        rcases hlv3 with rfl | rfl | rfl
        · have HOP := Lib.hid (show Ir.opt l 0 = l from if_pos (by decide))
          obtain ⟨d0, d1, d2, _⟩ := HO.out.code.cells
          obtain ⟨r0, r1, r2, g0, g1, g2⟩ := HO.out.res.cells
          have hd := HO.out.done
          have HD := Lib.hid hd
          clear hd
          go_wp2_with fail
          refine bodyPost_ret (results_code rfl _ _ rb (codeC pc many A4 l.length cap4) rfl HD.out.1 rfl) rfl ⟨⟨_, _, rfl, ?_⟩, HD.out.2.2⟩
          exact OptIs.makes (HOF.out.trans HR.out) HOP.out HD.out.2.1 HO.out.hc
        · have HOP := Lib.hid (show Ir.opt l 1 = Ir.fold l by unfold Ir.opt; rw [if_neg (by decide), if_pos (by decide)])
          have HFC := Lib.hid (fold_any A4 l.length cap4 l wc HO.out.ops HLN.out HOO.out)
          obtain ⟨d0, d1, d2, _⟩ := HO.out.code.cells
          go_wp2_with fail
          refine HFC.out.mono ?_
          rintro e w5 ⟨v5, rfl, ⟨A5, cap5, rfl, ho5⟩, hk5⟩
          have HO5 := Lib.hid ((HO.out.keep hk5).put (OpsAt.of_owns ho5 rfl) (owns_cap ho5))
          obtain ⟨e0, e1, e2, f0, f1, f2⟩ := (HO.out.keep hk5).code.cells
          clear d0 d1 d2 ho5 hk5
          go_upto_region 11 with fail
          clear e0 e1 e2 f0 f1 f2
          generalize w5.setCell _ _ = w6 at *
          obtain ⟨d0, d1, d2, _⟩ := HO5.out.code.cells
          obtain ⟨r0, r1, r2, g0, g1, g2⟩ := HO5.out.res.cells
          have hd := HO5.out.done
          have HD := Lib.hid hd
          clear hd
          go_wp2_with fail
          refine bodyPost_ret (results_code rfl _ _ rb (codeC pc many A5 (Ir.fold l).length cap5) rfl HD.out.1 rfl) rfl ⟨⟨_, _, rfl, ?_⟩, HD.out.2.2⟩
          exact OptIs.makes (HOF.out.trans HR.out) HOP.out HD.out.2.1 HO5.out.hc
        · have HOP := Lib.hid (show Ir.opt l 2 = Ir.sweep (Ir.fold l) by unfold Ir.opt; rw [if_neg (by decide), if_neg (by decide)])
          have HFC := Lib.hid (fold_any A4 l.length cap4 l wc HO.out.ops HLN.out HOO.out)
          have HFN := Lib.hid (show (Ir.fold l).length < 1000000 by rw [Ir.fold_len]; exact HLN.out)
          obtain ⟨d0, d1, d2, _⟩ := HO.out.code.cells
          go_wp2_with fail
          refine HFC.out.mono ?_
          rintro e w5 ⟨v5, rfl, ⟨A5, cap5, rfl, ho5⟩, hk5⟩
          have HO5 := Lib.hid ((HO.out.keep hk5).put (OpsAt.of_owns ho5 rfl) (owns_cap ho5))
          obtain ⟨e0, e1, e2, f0, f1, f2⟩ := (HO.out.keep hk5).code.cells
          clear d0 d1 d2 ho5 hk5
          go_upto_region 10 with fail
          clear e0 e1 e2 f0 f1 f2
          generalize w5.setCell _ _ = w6 at *
          have HSW := Lib.hid (sweep_any A5 (Ir.fold l).length cap5 (Ir.fold l) w6 HO5.out.ops HFN.out HO5.out.hc)
          obtain ⟨d0, d1, d2, _⟩ := HO5.out.code.cells
          go_wp2_with fail
          refine HSW.out.mono ?_
          rintro e w7 ⟨A7, cap7, rfl, ho7, hc7, hk7⟩
          have HO7 := Lib.hid ((HO5.out.keep hk7).put ho7 hc7)
          obtain ⟨e0, e1, e2, f0, f1, f2⟩ := (HO5.out.keep hk7).code.cells
          clear d0 d1 d2 ho7 hc7 hk7
          go_upto_region 11 with fail
          clear e0 e1 e2 f0 f1 f2
          generalize w7.setCell _ _ = w8 at *
          obtain ⟨d0, d1, d2, _⟩ := HO7.out.code.cells
          obtain ⟨r0, r1, r2, g0, g1, g2⟩ := HO7.out.res.cells
          have hd := HO7.out.done
          have HD := Lib.hid hd
          clear hd
          go_wp2_with fail
          refine bodyPost_ret (results_code rfl _ _ rb (codeC pc many A7 (Ir.sweep (Ir.fold l)).length cap7) rfl HD.out.1 rfl) rfl ⟨⟨_, _, rfl, ?_⟩, HD.out.2.2⟩
          exact OptIs.makes (HOF.out.trans HR.out) HOP.out HD.out.2.1 HO7.out.hc
  · have HR := Lib.hid (show of = f by rw [HF.out, if_pos h0])
    have HRN := Lib.hid (show of.1 ≠ 0 by rw [HR.out]; exact h0)
    obtain ⟨r0, r1, r2, g0, g1, g2⟩ := HB2.out.res.cells
    obtain ⟨hq1, hq2⟩ := HB2.out.res.put (pc' := 0) (many' := 0) (A' := none) (n' := 0) (cap' := 0)
    have HP := Lib.hid hq1.blk
    have HPK := Lib.hid hq2
    clear h0 hq1 hq2
    go_wp2_with fail
    refine bodyPost_ret (results_code rfl _ _ rb (codeC 0 0 none 0 0) rfl HP.out rfl) rfl ⟨⟨_, _, rfl, ?_⟩, ?_⟩
    · refine OptIs.fails ?_ (by rw [HOF.out]; exact HRN.out)
      rw [HOF.out, HR.out]
      exact HFV.out.other HB2.out.res HPK.out
    · exact HB2.out.k.trans HPK.out (fun b hb e => by have e : b = rb := e; have := HB2.out.low; omega)
end Go.Proofs.YtaflchcoddgdbaaDoor
