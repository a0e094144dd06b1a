import Derived.Test.YtknhfobcejpmeaaDoorPcz06
import Derived.Test.YtknhfobcejpmeaaDoorPcz08
import Derived.LoopTactic
import Derived.Test.YtknhfobcejpmeaaDoorPcz07
import Derived.Deep.RegionHeld3
import Derived.Laws.Rows
import Derived.Laws.ResultCell

/- Sweep -/
/- The walk of opt.sweep. -/
namespace Go.Proofs.YtknhfobcejpmeaaDoor
open Go.RowKit Go.Deep
set_option linter.unusedVariables false
set_option linter.unusedSimpArgs false

def lenV : Value → Nat | .slice _ n _ => n | _ => 0
def trueN : Value → Nat | .bool true => 1 | _ => 0
end Go.Proofs.YtknhfobcejpmeaaDoor

/- Known -/
/- The walks of opt.Dead, opt.Known. -/
namespace Go.Proofs.YtknhfobcejpmeaaDoor
open Go.RowKit Go.Deep
set_option linter.unusedVariables false
set_option linter.unusedSimpArgs false

theorem range_step (p : Nat → Bool) (i : Nat) : (List.range (i + 1)).countP p = (List.range i).countP p + (if p i = true then 1 else 0) := by
  rw [List.range_succ, List.countP_append, List.countP_singleton]
theorem range_le (p : Nat → Bool) (i : Nat) : (List.range i).countP p ≤ i := by
  have := List.countP_le_length (p := p) (l := List.range i)
  simpa using this
/-- an error that is none, or one -/
theorem FaultIs.parts {w : World} {ea : Nat → Addr} {f : Nat × Int} {v : Value} (h : FaultIs w ea f v) : (f.1 = 0 ∧ v = .nilIface) ∨ (f.1 ≠ 0 ∧ ∃ t u, v = .iface t (.pointer (some u))) := by
  rcases h with ⟨h1, h2⟩ | ⟨h1, h2, h3⟩ | ⟨h1, h2, b, h3, _⟩
  · exact .inl ⟨h1, h2⟩
  · exact .inr ⟨h1, _, _, h3⟩
  · exact .inr ⟨h1, _, _, h3⟩
end Go.Proofs.YtknhfobcejpmeaaDoor

/- Opt -/
/- The walk of opt.Opt. -/
namespace Go.Proofs.YtknhfobcejpmeaaDoor
open Go.RowKit Go.Deep
set_option linter.unusedVariables false
set_option linter.unusedSimpArgs false

theorem size_code : (Tryd.prog.info? 80).map (·.size) = some 3 := by kernel_rfl
theorem results_code {fn : Func} {p u : Tmp} (h : fn.results = #[.cell p 80, .tmp u]) (tmps : Array Value) (w : World) (g : Nat) (cs : Array Value) (hp : tmps.getD p undef = .pointer (some ⟨g, 0, none⟩)) (hg : w.heap[g]? = some (.cells cs 80 (0, 0))) (hc : cs.size = 3) :
    (results fn tmps).run Tryd.prog w = .ok (.tuple #[.agg cs, tmps.getD u undef]) w := by
  rw [results_cell_tmp h, hp]
  have := run_loadVar_row (P := Tryd.prog) w g 80 80 cs (0, 0) _ hg Tryd.underlying80 rfl (by rw [hc]; exact size_code)
  simp [asAddr, this]
theorem set3c {w : World} {x : Nat} {T : TypeId} {a b c a' b' c' : Value} (h : w.heap[x]? = some (.cells #[a, b, c] T (0, 0))) :
    (((w.setCell ⟨x, 0, none⟩ a').setCell ⟨x, 1, none⟩ b').setCell ⟨x, 2, none⟩ c').heap[x]? = some (.cells #[a', b', c'] T (0, 0)) ∧
      Keeps (· = x) w (((w.setCell ⟨x, 0, none⟩ a').setCell ⟨x, 1, none⟩ b').setCell ⟨x, 2, none⟩ c') := by
  refine ⟨?_, Keeps.trans (Keeps.trans (Keeps.one _ _ _ _) (Keeps.one _ _ _ _) (fun _ _ h => h)) (Keeps.one _ _ _ _) (fun _ _ h => h)⟩
  have h1 := set_block (set_block (set_block h 0 a') 1 b') 2 c'
  simpa using h1
/-- a code's cells -/
def codeC (pc many : Int) (A : Option Addr) (n cap : Nat) : Array Value := #[.int .u32 pc, .int .i64 many, .slice A n cap]
/-- a code in a block of its own -/
structure CodeBox (w : World) (x : Nat) (pc many : Int) (A : Option Addr) (n cap : Nat) : Prop where
  blk : w.heap[x]? = some (.cells (codeC pc many A n cap) 80 (0, 0))
theorem CodeBox.lt {w : World} {x : Nat} {pc many : Int} {A : Option Addr} {n cap : Nat} (h : CodeBox w x pc many A n cap) : x < w.heap.size := (Array.getElem?_eq_some_iff.1 h.blk).1
theorem CodeBox.keep {S : Nat → Prop} {w w' : World} {x : Nat} {pc many : Int} {A : Option Addr} {n cap : Nat} (h : CodeBox w x pc many A n cap) (k : Keeps S w w') (hs : ¬ S x) : CodeBox w' x pc many A n cap := ⟨(k.block x h.lt hs).trans h.blk⟩
theorem CodeBox.cells {w : World} {x : Nat} {pc many : Int} {A : Option Addr} {n cap : Nat} (h : CodeBox w x pc many A n cap) :
    w.cell? ⟨x, 0, none⟩ = some (.int .u32 pc) ∧ w.cell? ⟨x, 1, none⟩ = some (.int .i64 many) ∧ w.cell? ⟨x, 2, none⟩ = some (.slice A n cap) ∧ w.frozen? ⟨x, 0, none⟩ = false ∧ w.frozen? ⟨x, 1, none⟩ = false ∧ w.frozen? ⟨x, 2, none⟩ = false := by
  have hb := h.blk
  unfold codeC at hb
  refine ⟨?_, ?_, ?_, frozen_of_block hb 0, frozen_of_block hb 1, frozen_of_block hb 2⟩ <;> (unfold World.cell?; rw [hb]; rfl)
theorem CodeBox.code {w : World} {x : Nat} {pc many : Int} {A : Option Addr} {n cap : Nat} (h : CodeBox w x pc many A n cap) : CodeAt w x pc many A n cap := ⟨h.cells.1, h.cells.2.1, h.cells.2.2.1⟩
theorem CodeBox.put {w : World} {x : Nat} {pc many pc' many' : Int} {A A' : Option Addr} {n cap n' cap' : Nat} (h : CodeBox w x pc many A n cap) :
    CodeBox (((w.setCell ⟨x, 0, none⟩ (.int .u32 pc')).setCell ⟨x, 1, none⟩ (.int .i64 many')).setCell ⟨x, 2, none⟩ (.slice A' n' cap')) x pc' many' A' n' cap' ∧
      Keeps (· = x) w (((w.setCell ⟨x, 0, none⟩ (.int .u32 pc')).setCell ⟨x, 1, none⟩ (.int .i64 many')).setCell ⟨x, 2, none⟩ (.slice A' n' cap')) :=
  ⟨⟨(set3c h.blk).1⟩, (set3c h.blk).2⟩
theorem CodeBox.put2 {w : World} {x : Nat} {pc many : Int} {A A' : Option Addr} {n cap n' cap' : Nat} (h : CodeBox w x pc many A n cap) :
    CodeBox (w.setCell ⟨x, 2, none⟩ (.slice A' n' cap')) x pc many A' n' cap' ∧ Keeps (· = x) w (w.setCell ⟨x, 2, none⟩ (.slice A' n' cap')) := by
  refine ⟨⟨?_⟩, Keeps.one _ _ _ _⟩
  have h1 := set_block h.blk 2 (.slice A' n' cap')
  simpa [codeC] using h1
theorem CodeBox.new (w : World) (pc many : Int) (A : Option Addr) (n cap : Nat) : CodeBox (w.alloc (.cells #[.int .u32 pc, .int .i64 many, .slice A n cap] 80)) w.heap.size pc many A n cap := ⟨blk_alloc_new _ _⟩
/-- the two boxes that Opt begins with: its argument, its result -/
structure OptBox (w wr : World) (x rb : Nat) (pc many : Int) (A : Option Addr) (n cap : Nat) : Prop where
  code : CodeBox wr x pc many A n cap
  res : CodeBox wr rb 0 0 none 0 0
  k : Keeps (fun _ => False) w wr
  ne : x ≠ rb
  low : w.heap.size ≤ x ∧ w.heap.size ≤ rb
theorem OptBox.new (w : World) (pc many : Int) (A : Option Addr) (n cap : Nat) :
    OptBox w ((w.alloc (.cells #[.int .u32 pc, .int .i64 many, .slice A n cap] 80)).alloc (.cells #[.int .u32 0, .int .i64 0, .slice none 0 0] 80)) w.heap.size (w.heap.size + 1) pc many A n cap := by
  have h1 := CodeBox.new w pc many A n cap
  have h2 := CodeBox.new (w.alloc (.cells #[.int .u32 pc, .int .i64 many, .slice A n cap] 80)) 0 0 none 0 0
  rw [nblk_alloc] at h2
  exact ⟨h1.keep ((Keeps.refl (fun _ => False) _).alloc _) (fun h => h), h2, ((Keeps.refl _ _).alloc _).alloc _, by omega, by omega⟩
theorem OptBox.keep {w wr w' : World} {x rb : Nat} {pc many : Int} {A : Option Addr} {n cap : Nat} (h : OptBox w wr x rb pc many A n cap) (k : Keeps (fun _ => False) wr w') : OptBox w w' x rb pc many A n cap :=
  ⟨h.code.keep k (fun h => h), h.res.keep k (fun h => h), h.k.trans k (fun _ _ h => h), h.ne, h.low⟩

theorem OpsAt.other {w w' : World} {A A' : Option Addr} {n cap n' cap' z : Nat} {l : List Ir.Op} {pc many : Int} (V : OpsAt w A n cap l) (C : CodeBox w z pc many A' n' cap') (k : Keeps (· = z) w w') : OpsAt w' A n cap l := by
  obtain ⟨h1, h2, h3 | ⟨b, o, rfl, hb, hc⟩⟩ := V
  · exact ⟨h1, h2, .inl h3⟩
  · refine ⟨h1, h2, .inr ⟨b, o, rfl, Nat.lt_of_lt_of_le hb k.size, fun i hi => (hc i hi).keep k (fun e => ?_)⟩⟩
    have e : b = z := e
    subst e
    have h4 := (hc i hi).v0
    have h5 := C.blk
    unfold World.cell? at h4
    rw [h5] at h4
    generalize o + i * 6 = j at h4
    match j with
    | 0 => simp [codeC] at h4
    | 1 => simp [codeC] at h4
    | 2 => simp [codeC] at h4
    | j + 3 => simp [codeC] at h4
theorem FaultIs.other {w w' : World} {ea : Nat → Addr} {f : Nat × Int} {v : Value} {z n cap : Nat} {pc many : Int} {A : Option Addr} (h : FaultIs w ea f v) (C : CodeBox w z pc many A n cap) (k : Keeps (· = z) w w') : FaultIs w' ea f v := by
  rcases h with h | h | ⟨h1, h2, b, h3, h4, h5⟩
  · exact .inl h
  · exact .inr (.inl h)
  · have hne : b ≠ z := by
      rintro rfl
      rw [C.cells.1] at h4
      cases h4
    exact .inr (.inr ⟨h1, h2, b, h3, k.cell' h4 hne, k.cell' h5 hne⟩)
/-- the code that Opt works on -/
structure OptRun (w wr : World) (z rb : Nat) (pc many : Int) (l : List Ir.Op) (A : Option Addr) (n cap : Nat) : Prop where
  code : CodeBox wr z pc many A n cap
  ops : OpsAt wr A n cap l
  hc : cap ≤ 9223372036854775807
  res : CodeBox wr rb 0 0 none 0 0
  k : Keeps (fun _ => False) w wr
  ne : z ≠ rb
  low : w.heap.size ≤ z ∧ w.heap.size ≤ rb
theorem OptRun.keep {w wr w' : World} {z rb : Nat} {pc many : Int} {l : List Ir.Op} {A : Option Addr} {n cap : Nat} (h : OptRun w wr z rb pc many l A n cap) (k : Keeps (fun _ => False) wr w') : OptRun w w' z rb pc many l A n cap :=
  ⟨h.code.keep k (fun h => h), h.ops.quiet k, h.hc, h.res.keep k (fun h => h), h.k.trans k (fun _ _ h => h), h.ne, h.low⟩
theorem OptRun.put {w wr : World} {z rb : Nat} {pc many : Int} {l l' : List Ir.Op} {A A' : Option Addr} {n cap n' cap' : Nat} (h : OptRun w wr z rb pc many l A n cap) (V : OpsAt wr A' n' cap' l') (hc : cap' ≤ 9223372036854775807) :
    OptRun w (wr.setCell ⟨z, 2, none⟩ (.slice A' n' cap')) z rb pc many l' A' n' cap' := by
  obtain ⟨h1, h2⟩ := h.code.put2 (A' := A') (n' := n') (cap' := cap')
  exact ⟨h1, V.other h.code h2, hc, h.res.keep h2 (fun e => h.ne e.symm), h.k.trans h2 (fun b hb e => by have e : b = z := e; have := h.low; omega), h.ne, h.low⟩
theorem OptRun.done {w wr : World} {z rb : Nat} {pc many : Int} {l : List Ir.Op} {A : Option Addr} {n cap : Nat} (h : OptRun w wr z rb pc many l A n cap) :
    (((wr.setCell ⟨rb, 0, none⟩ (.int .u32 pc)).setCell ⟨rb, 1, none⟩ (.int .i64 many)).setCell ⟨rb, 2, none⟩ (.slice A n cap)).heap[rb]? = some (.cells (codeC pc many A n cap) 80 (0, 0)) ∧
    OpsAt (((wr.setCell ⟨rb, 0, none⟩ (.int .u32 pc)).setCell ⟨rb, 1, none⟩ (.int .i64 many)).setCell ⟨rb, 2, none⟩ (.slice A n cap)) A n cap l ∧
    Keeps (fun _ => False) w (((wr.setCell ⟨rb, 0, none⟩ (.int .u32 pc)).setCell ⟨rb, 1, none⟩ (.int .i64 many)).setCell ⟨rb, 2, none⟩ (.slice A n cap)) := by
  obtain ⟨h1, h2⟩ := h.res.put (pc' := pc) (many' := many) (A' := A) (n' := n) (cap' := cap)
  exact ⟨h1.blk, h.ops.other h.res h2, h.k.trans h2 (fun b hb e => by have e : b = rb := e; have := h.low; omega)⟩
theorem owns_cap {w : World} {base e size n cap : Nat} {A : Option Addr} {xs : List Value} (h : w.ownsRow base e size (.slice A n cap) n xs) : cap ≤ 9223372036854775807 := by
  obtain ⟨_, ⟨h2, h3⟩ | ⟨g, cap', cur, h2, h3, h4, h5, h6, h7, h8⟩⟩ := h
  · injection h2 with e1 e2 e3
    omega
  · injection h2 with e1 e2 e3
    subst e3
    unfold maxLen at h6
    omega
theorem OptRun.first {w w2 w3 w4 : World} {x rb : Nat} {pc many : Int} {l : List Ir.Op} {A A4 : Option Addr} {n cap cap4 base : Nat} (h : OptBox w w2 x rb pc many A n cap) (hw : w3 = w2.drew) (k : Keeps (fun _ => False) w3 w4) (ho : w4.ownsRow base 47 6 (.slice A4 l.length cap4) l.length (opsL l)) :
    OptRun w (w4.alloc (.cells #[.int .u32 pc, .int .i64 many, .slice A4 l.length cap4] 80)) w4.heap.size rb pc many l A4 l.length cap4 := by
  subst hw
  have hk := ((Keeps.refl (fun _ => False) w2).drew).trans k (fun _ _ h => h)
  have ha := (Keeps.refl (fun _ => False) w4).alloc (.cells #[.int .u32 pc, .int .i64 many, .slice A4 l.length cap4] 80)
  have h1 := h.res.lt
  have h2 := hk.size
  have h3 := h.k.size
  exact ⟨CodeBox.new _ _ _ _ _ _, (OpsAt.of_owns ho rfl).quiet ha, owns_cap ho, (h.res.keep hk (fun h => h)).keep ha (fun h => h), (h.k.trans hk (fun _ _ h => h)).trans ha (fun _ _ h => h), by omega, by omega, h.low.2⟩
theorem OptRun.second {w w2 w3 w4 : World} {x rb : Nat} {pc many : Int} {l : List Ir.Op} {A A4 : Option Addr} {n cap cap4 base : Nat} (h : OptBox w w2 x rb pc many A n cap) (hw : w3 = (w2.alloc (.cells #[.int .u32 0, .int .i64 0, .slice none 0 0] 80)).drew) (k : Keeps (fun _ => False) w3 w4) (ho : w4.ownsRow base 47 6 (.slice A4 l.length cap4) l.length (opsL l)) (hz : CodeBox w4 w2.heap.size 0 0 none 0 0) :
    OptRun w (((w4.setCell ⟨w2.heap.size, 0, none⟩ (.int .u32 pc)).setCell ⟨w2.heap.size, 1, none⟩ (.int .i64 many)).setCell ⟨w2.heap.size, 2, none⟩ (.slice A4 l.length cap4)) w2.heap.size rb pc many l A4 l.length cap4 := by
  subst hw
  have hk := ((((Keeps.refl (fun _ => False) w2).alloc (.cells #[.int .u32 0, .int .i64 0, .slice none 0 0] 80)).drew)).trans k (fun _ _ h => h)
  obtain ⟨h5, h6⟩ := hz.put (pc' := pc) (many' := many) (A' := A4) (n' := l.length) (cap' := cap4)
  have h1 := h.res.lt
  have h3 := h.k.size
  exact ⟨h5, (OpsAt.of_owns ho rfl).other hz h6, owns_cap ho, (h.res.keep hk (fun h => h)).keep h6 (fun e => by have e : rb = w2.heap.size := e; omega), (h.k.trans hk (fun _ _ h => h)).trans h6 (fun b hb e => by have e : b = w2.heap.size := e; omega), by omega, by omega, h.low.2⟩
theorem OptIs.fails {w : World} {ea : Nat → Addr} {pc many : Int} {l : List Ir.Op} {level : Int} {ev : Value} (h : FaultIs w ea (Ir.optFault many l level) ev) (h0 : (Ir.optFault many l level).1 ≠ 0) : OptIs w ea pc many l level (.agg (codeC 0 0 none 0 0)) ev :=
  ⟨h, .inl ⟨h0, rfl⟩⟩
theorem OptIs.makes {w : World} {ea : Nat → Addr} {pc many : Int} {l l' : List Ir.Op} {level : Int} {A : Option Addr} {n cap : Nat} (h : Ir.optFault many l level = (0, -1)) (hl : Ir.opt l level = l') (V : OpsAt w A n cap l') (hc : cap ≤ 9223372036854775807) : OptIs w ea pc many l level (.agg (codeC pc many A n cap)) .nilIface := by
  refine ⟨.inl ⟨by rw [h], rfl⟩, .inr ⟨by rw [h], A, cap, ?_, ?_, hc⟩⟩
  · rw [hl, V.len]; rfl
  · rw [hl, V.len]; exact V

end Go.Proofs.YtknhfobcejpmeaaDoor

/- OwnRows -/
/- Rows of ops of the call's own, rows within a row; the walk of the law's OwnRows. -/
namespace Go.Proofs.YtknhfobcejpmeaaDoor
open Go.RowKit Go.Deep
set_option linter.unusedVariables false
set_option linter.unusedSimpArgs false

theorem Tryd.info_rowO : (Tryd.prog.info? 26).map (fun i => (i.zero, i.size, i.bytes)) = some (some (.slice none 0 0), 1, 24) := by kernel_rfl
theorem OpsOwn.keepS {S : Nat → Prop} {w w' : World} {B : Nat} {l : List Ir.Op} {v : Value} (h : OpsOwn w B l v) (k : Keeps S w w') (hs : ∀ g, v.ownBlock = some g → ¬ S g) : OpsOwn w' B l v := by
  obtain ⟨A, cap, rfl, ho⟩ := h
  exact ⟨A, cap, rfl, owns_keep ho k hs⟩
theorem OpsOwn.base {w : World} {B B' : Nat} {l : List Ir.Op} {v : Value} (h : OpsOwn w B l v) (hb : B' ≤ B) : OpsOwn w B' l v := by
  obtain ⟨A, cap, rfl, h1, h2⟩ := h
  refine ⟨A, cap, rfl, h1, ?_⟩
  rcases h2 with h | ⟨g, cap, cur, h1, h2, h3⟩
  · exact .inl h
  · exact .inr ⟨g, cap, cur, h1, Nat.le_trans hb h2, h3⟩
/-- a row's block bears its element's type -/
theorem owns_typed {w : World} {B : Nat} {e : TypeId} {size : Nat} {v : Value} {n : Nat} {xs : List Value} (h : w.ownsRow B e size v n xs) {g : Nat} (hg : v.ownBlock = some g) : ∃ cur, w.heap[g]? = some (.cells cur e (0, 0)) := by
  obtain ⟨_, ⟨h4, _⟩ | ⟨g2, cap, cur, h4, h5, h6, _⟩⟩ := h
  · rw [h4] at hg; cases hg
  · rw [h4] at hg
    injection hg with hg
    subst hg
    exact ⟨cur, h6⟩
theorem owns_apart {w : World} {B C : Nat} {e f : TypeId} {s1 s2 : Nat} {v u : Value} {n m : Nat} {xs ys : List Value} (h : w.ownsRow B e s1 v n xs) (k : w.ownsRow C f s2 u m ys) (hne : e ≠ f) : ∀ g, v.ownBlock = some g → ¬ u.ownBlock = some g := fun g h1 h2 => by
  obtain ⟨c1, e1⟩ := owns_typed h h1
  obtain ⟨c2, e2⟩ := owns_typed k h2
  rw [e1] at e2
  injection e2 with e2
  injection e2 with _ e2
  exact hne e2
/-- rows of ops, each of the call's own -/
def RowsOwn (w : World) (B : Nat) (v : Value) (rows : List (List Ir.Op)) : Prop :=
  ∃ vs : List Value, vs.length = rows.length ∧ w.ownsRow B 26 1 v rows.length vs ∧ ∀ j, j < rows.length → OpsOwn w B (rows.getD j []) (vs.getD j (.slice none 0 0))
theorem RowsOwn.quiet {w w' : World} {B : Nat} {v : Value} {rows : List (List Ir.Op)} (h : RowsOwn w B v rows) (k : Keeps (fun _ => False) w w') : RowsOwn w' B v rows := by
  obtain ⟨vs, h1, h2, h3⟩ := h
  exact ⟨vs, h1, owns_keep h2 k (fun _ _ h => h), fun j hj => (h3 j hj).keepS k (fun _ _ h => h)⟩
theorem RowsOwn.nil (w : World) (B : Nat) : RowsOwn w B (.slice none 0 0) [] := ⟨[], rfl, World.ownsRow_nil _ _ _ _, fun j hj => absurd hj (by simp)⟩
theorem op_ne_row : 47 ≠ 26 := by decide
/-- one more -/
theorem RowsOwn.step {w2 w3 : World} {B : Nat} {v v' u : Value} {rows : List (List Ir.Op)} {l : List Ir.Op} {vs : List Value} (h1 : vs.length = rows.length) (h2 : w2.ownsRow B 26 1 v rows.length vs) (h3 : ∀ j, j < rows.length → OpsOwn w2 B (rows.getD j []) (vs.getD j (.slice none 0 0)))
    (hg : OpsOwn w2 B l u) (hk : Keeps (fun k => v.ownBlock = some k) w2 w3) (hown : w3.ownsRow B 26 1 v' (rows.length + 1) (vs ++ [u])) : RowsOwn w3 B v' (rows ++ [l]) := by
  have hkeep : ∀ l u, OpsOwn w2 B l u → OpsOwn w3 B l u := fun l u h => by
    obtain ⟨A, cap, rfl, ho⟩ := h
    exact ⟨A, cap, rfl, owns_keep ho hk (owns_apart ho h2 op_ne_row)⟩
  refine ⟨vs ++ [u], by simp [h1], ?_, fun j hj => ?_⟩
  · rw [List.length_append, List.length_singleton]
    exact hown
  · rw [List.length_append, List.length_singleton] at hj
    by_cases e : j < rows.length
    · have a1 : (vs ++ [u]).getD j (.slice none 0 0) = vs.getD j (.slice none 0 0) := by simp [List.getD_eq_getElem?_getD, List.getElem?_append_left (show j < vs.length by omega)]
      have a2 : (rows ++ [l]).getD j [] = rows.getD j [] := by simp [List.getD_eq_getElem?_getD, List.getElem?_append_left e]
      rw [a1, a2]
      exact hkeep _ _ (h3 j e)
    · obtain rfl : j = rows.length := by omega
      have a1 : (vs ++ [u]).getD rows.length (.slice none 0 0) = u := by rw [← h1]; simp [List.getD_eq_getElem?_getD]
      have a2 : (rows ++ [l]).getD rows.length [] = l := by simp [List.getD_eq_getElem?_getD]
      rw [a1, a2]
      exact hkeep _ _ hg
theorem owns_cell {w : World} {B : Nat} {e : TypeId} {v : Value} {n : Nat} {xs : List Value} (h : w.ownsRow B e 1 v n xs) {g : Nat} (hg : v.ownBlock = some g) {i : Nat} (hi : i < n) (d : Value) : w.cell? ⟨g, i, none⟩ = some (xs.getD i d) := by
  have hl := h.1
  have := h.cells hg i (xs.getD i d) (by rw [List.getD_eq_getElem?_getD, List.getElem?_eq_getElem (by omega)]; rfl)
  rw [Addr.add_lit] at this
  simpa using this
theorem RowsOwn.rows {w : World} {B : Nat} {v : Value} {rows : List (List Ir.Op)} (h : RowsOwn w B v rows) : ∃ A cap, v = .slice A rows.length cap ∧ cap ≤ 9223372036854775807 ∧ RowsAt w A rows.length cap rows := by
  obtain ⟨vs, h1, h2, h3⟩ := h
  obtain ⟨A, cap, rfl⟩ := owns_slice h2
  refine ⟨A, cap, rfl, owns_cap h2, ?_⟩
  have h2' := h2
  obtain ⟨hlen, ⟨h4, h5⟩ | ⟨g, cap', cur, h4, h5, h6, h7, h8, h9, h10⟩⟩ := h2
  · injection h4 with e1 e2 e3
    exact ⟨rfl, by omega, .inl e3⟩
  · injection h4 with e1 e2 e3
    subst e1 e3
    refine ⟨rfl, h7, .inr ⟨g, 0, rfl, (Array.getElem?_eq_some_iff.1 h6).1, fun i hi => ?_⟩⟩
    obtain ⟨Ai, ci, e1, e2⟩ := (h3 i hi)
    have hc := owns_cell h2' (g := g) rfl hi (.slice none 0 0)
    rw [e1] at hc e2
    rw [Nat.zero_add]
    exact ⟨Ai, ci, hc, OpsAt.of_owns e2 rfl, owns_cap e2⟩
set_option maxHeartbeats 4000000 in
set_option maxRecDepth 100000 in
theorem ownRows_any (A : Option Addr) (n cap : Nat) (rows : List (List Ir.Op)) (w : World) (V : RowsAt w A n cap rows) (hc : cap ≤ 9223372036854775807) (hn : n < 1000000) (hr : ∀ i, i < n → (rows.getD i []).length < 1000000) :
    Calls Tryd.prog 8 #[.slice A n cap] w fun e w' => ∃ v, e = .returned v ∧ RowsOwn w' w.heap.size v rows ∧ Keeps (fun _ => False) w w' := by
  obtain ⟨i0, hinf, hz0, hz1, hz2⟩ := info_parts Tryd.info_rowO
  have HV := Lib.hid V
  have HL := Lib.hid V.len
  have HR := Lib.hid hr
  have hnc := V.le
  have HK0 := Lib.hid (Keeps.refl (fun _ => False) w)
  obtain ⟨B, hB⟩ : ∃ B, w.heap.size = B := ⟨_, rfl⟩
  rw [hB]
  have HBE := Lib.hid hB
  clear V hB hr
  go_enter Tryd.func8, Tryd.ntmps8
  go_wp2_with fail
  go_loopw [3, 4] (fun s1 s2 wr => ∃ i : Nat, i ≤ n ∧ s2 = .int .i64 i ∧ RowsOwn wr B s1 (rows.take i) ∧ Keeps (fun _ => False) w wr) (fun _ s2 _ => n - (intOf s2).toNat)
  case atStart => exact ⟨0, by omega, rfl, by rw [List.take_zero]; exact RowsOwn.nil _ _, HK0.out⟩
  case round =>
    obtain ⟨i, hi, rfl, hE, hK⟩ := hrel
    have HE := Lib.hid hE
    have HK := Lib.hid hK
    clear hE hK
    by_cases hlt : i < n
    · obtain ⟨ob, oo, Ai, ci, rfl, e0, e1, e2⟩ := (HV.out.quiet HK.out).get hlt
      have hil : i < rows.length := by rw [HL.out]; exact hlt
      have HTS := Lib.hid (show rows.take (i + 1) = rows.take i ++ [rows.getD i []] by
        rw [List.take_succ_eq_append_getElem hil]
        simp [List.getD, hil])
      have hlen : (rows.take i).length = i := by rw [List.length_take, Nat.min_eq_left (Nat.le_of_lt hil)]
      have hri := HR.out i hlt
      obtain ⟨l, hl⟩ : ∃ l, rows.getD i [] = l := ⟨_, rfl⟩
      rw [hl] at e0 e1 HTS hri
      clear hl
      have HOO := Lib.hid (fun w V => ownOps_any Ai l.length ci l w V hri)
      have HE1 := Lib.hid e1
      have hi63 : (i : Int) < n := by omega
      clear e1 e2
      go_wp2_with fail
      refine (HOO.out _ HE1.out).mono ?_
      rintro e w2 ⟨u, rfl, hu, hk2⟩
      obtain ⟨Au, cu, hue, _⟩ := id hu
      obtain ⟨ul, hul⟩ : ∃ n, l.length = n := ⟨_, rfl⟩
      rw [hul] at hue
      subst hue
      have HUL := Lib.hid hul
      clear hul
      have HU := Lib.hid (hu.base (B' := B) (by rw [← HBE.out]; exact HK.out.size))
      have HK2 := Lib.hid (HK.out.trans hk2 (fun _ _ h => h))
      have HE2 := Lib.hid (HE.out.quiet hk2)
      clear hu hk2 e0 HE
      obtain ⟨vs, hg1, hg2, hg3⟩ := HE2.out
      rw [hlen] at hg2
      obtain ⟨A1, cap1, rfl⟩ := owns_slice hg2
      have HG3 := Lib.hid (show ∀ j, j < (rows.take i).length → OpsOwn (w2.alloc (.cells #[.slice Au ul cu] 26)) B ((rows.take i).getD j []) (vs.getD j (.slice none 0 0)) from fun j hj => (hg3 j hj).keepS ((Keeps.refl (fun _ => False) w2).alloc _) (fun _ _ h => h))
      have HG1 := Lib.hid hg1
      have HQ := Lib.hid (show (w2.alloc (.cells #[.slice Au ul cu] 26)).ownsRow B 26 1 (.slice A1 i cap1) i vs from hg2.alloc _)
      have HUU := Lib.hid (show OpsOwn (w2.alloc (.cells #[.slice Au ul cu] 26)) B l (.slice Au ul cu) from HU.out.keepS ((Keeps.refl (fun _ => False) w2).alloc _) (fun _ _ h => h))
      have HCN := Lib.hid (fun j x hj => cells_new w2 [.slice Au ul cu] 26 j x hj)
      have HONE : Hid (∀ x ∈ [Value.slice Au ul cu], x.oneCell' = true) := Lib.hid (by
        intro x hx
        simp only [List.mem_cons, List.not_mem_nil, or_false] at hx
        rw [hx]
        rfl)
      have HBS := Lib.hid (show B ≤ (w2.alloc (.cells #[.slice Au ul cu] 26)).heap.size by
        rw [nblk_alloc]
        have := HK2.out.size
        have := HBE.out
        omega)
      have hmx : i + 1 ≤ maxLen := by unfold maxLen; omega
      have HLL := Lib.hid (show vs.length = i * 1 by rw [hg1, hlen, Nat.mul_one])
      have HLN := Lib.hid hlen
      clear hg1 hg2 hg3 HE2 hlen
      go_wp2_with (at_builtin; go_loud (refine wpList_append_own _ rfl _ _ 23 rfl B 26 i0 _ 1 24 Tryd.underlying23 hinf hz0 hz1 hz2 rfl (by decide) (.slice A1 i cap1) i vs rfl HQ.out ⟨w2.heap.size, 0, none⟩ 1 1 [.slice Au ul cu] rfl rfl HCN.out HONE.out hmx (by omega) HBS.out ?c0))
      case c0 =>
        intro v' w3 hown hgrow hnil
        obtain ⟨A2, cap2, rfl⟩ := owns_slice hown
        have hk23 : Keeps (fun k => (Value.slice A1 i cap1).ownBlock = some k) (w2.alloc (.cells #[.slice Au ul cu] 26)) w3 := (Keeps.refl _ _).grown hgrow (fun g hg _ => hg)
        have HE3 := Lib.hid (show RowsOwn w3 B (.slice A2 (i + 1) cap2) (rows.take (i + 1)) from by
          rw [HTS.out]
          refine RowsOwn.step HG1.out (v := .slice A1 i cap1) ?_ HG3.out HUU.out hk23 ?_
          · rw [HLN.out]; exact HQ.out
          · rw [HLN.out]; exact hown)
        have hlq := HQ.out.lt
        have HK3 := Lib.hid (show Keeps (fun _ => False) w w3 from (HK2.out.alloc (.cells #[.slice Au ul cu] 26)).trans hk23 (fun b hb h => by
          have := (hlq b h).1
          have := HBE.out
          omega))
        clear hown hgrow hnil hk23 hlq
        go_wp2_with fail
        go_roundw
        case rel => exact ⟨i + 1, by omega, by go_num, HE3.out, HK3.out⟩
        case measure => simp [intOf]; omega
    · obtain rfl : i = n := by omega
      have HEE := Lib.hid (show RowsOwn wr B _ rows from by
        have := HE.out
        rwa [List.take_of_length_le (by rw [HL.out]; exact Nat.le_refl _)] at this)
      go_wp2_with fail
      go_ret
      exact ⟨_, rfl, HEE.out, HK.out⟩
end Go.Proofs.YtknhfobcejpmeaaDoor
