import Derived.Test.YtknhfobcejpmeaaGreatDoorHrz25
import Derived.Test.YtknhfobcejpmeaaGreatDoorHrz26
import Derived.Test.YtknhfobcejpmeaaGreatDoorStDefs
import Derived.ChangeShapes
import Derived.Test.YtknhfobcejpmeaaGreatDoorMem
import Derived.ProofKit
import Derived.OpenShut
import Derived.Test.YtknhfobcejpmeaaGreatDoorErr
import Derived.LaidLaws
import Derived.MakeChecks
import Derived.Stop.LaidErr
import Derived.LaidMore
import Derived.Test.YtknhfobcejpmeaaGreatDoorHrz13
import Derived.Test.YtknhfobcejpmeaaGreatDoorHrz01
import Derived.Deep.Slices
import Derived.Deep.Fields
import Derived.Test.YtknhfobcejpmeaaGreatDoorHrz05

/- HostRuns -/
/- The walk of the law HostRuns: its four ways together. Printed by gen/hostruns.py. -/
namespace Go.Proofs.YtknhfobcejpmeaaGreatDoor
open Go.RowKit Go.Deep
set_option linter.unusedVariables false
set_option linter.unusedSimpArgs false

theorem hostRuns_any (pc many : Int) (A : Option Addr) (n cap : Nat) (rows : List (List Ir.Op)) (s : Cp.St) (PA : Option Addr) (pn pcap : Nat) (page : Int) (ws : Nat → Int) (apart : Bool) (w : World) (ea : Nat → Addr) (E : ErrsAll w ea) (V : RowsAt w A n cap rows) (hc : cap ≤ 9223372036854775807) (hok : ∀ l ∈ rows, ∀ o ∈ l, OpOk o)
    (hR : Reads w PA pn pcap (fun i => .int .u32 (ws i))) (hpc : pcap ≤ 9223372036854775807) (hr : ∀ i, i < pn → 0 ≤ ws i ∧ ws i < 4294967296) (hrng : 0 ≤ s.count → s.count < 4611686018427387904 → Cp.Rng s) (hp : 0 ≤ pc ∧ pc < 4294967296) :
    Calls Tryz.prog 4 #[.int .u32 pc, .int .i64 many, .slice A n cap, .agg (placeL s PA pn pcap page).toArray, .bool apart] w fun e w' => e = .returned (.bool true) ∧ Keeps (fun _ => False) w w' := by
  by_cases hf : (Ir.planFault many rows).1 = 0
  · cases apart
    · exact hostRuns_d pc many A n cap rows s PA pn pcap page ws w ea E V hc hok hR hpc hr hrng hp hf
    · exact hostRuns_a pc many A n cap rows s PA pn pcap page ws w ea E V hc hok hR hpc hr hrng hp hf
  · cases apart
    · exact hostRuns_c pc many A n cap rows s PA pn pcap page ws w ea E V hc hok hR hpc hr hrng hp hf
    · exact hostRuns_b pc many A n cap rows s PA pn pcap page ws w ea E V hc hok hR hpc hr hrng hp hf
end Go.Proofs.YtknhfobcejpmeaaGreatDoor

/- OpenStD -/
/- What an argument of type api.State holds. -/
namespace Go.Proofs.YtknhfobcejpmeaaGreatDoor
open Go.RowKit Go.Deep
set_option linter.unusedVariables false

def tysSt : List TypeId := (List.replicate 32 22) ++ [22, 22, 22, 22, 4, 22, 22, 22, 22, 22, 3]
theorem cellTypes_state : Tryz.prog.cellTypes Tryz.prog.depth 26 = some tysSt := by kernel_rfl
theorem cellsOf_state : Tryz.prog.cellsOf 26 = 43 := by kernel_rfl
theorem cell_int {P : Program} {w : World} {r : Reach} {base : Nat} {t : TypeId} {k : IntKind} {v : Value} (ht : P.underlying t = some (.int k)) (h : Cell.okWide P w r base t v) : ∃ n, v = .int k n ∧ k.has n := by
  unfold Cell.okWide Cell.ok at h
  rw [ht] at h
  cases v <;> simp_all
theorem cell_bool {P : Program} {w : World} {r : Reach} {base : Nat} {t : TypeId} {v : Value} (ht : P.underlying t = some .bool) (h : Cell.okWide P w r base t v) : ∃ b, v = .bool b := by
  unfold Cell.okWide Cell.ok at h
  rw [ht] at h
  cases v <;> simp_all
set_option maxRecDepth 100000 in
theorem cell_u32 {w : World} {r : Reach} {base : Nat} {v : Value} (h : Cell.okWide Tryz.prog w r base 22 v) : ∃ n, v = .int .u32 n ∧ Cp.W n := by
  obtain ⟨n, h1, h2⟩ := cell_int Tryz.underlying22 h
  refine ⟨n, h1, ?_⟩
  unfold IntKind.has at h2
  have e1 : IntKind.u32.min = 0 := by decide
  have e2 : IntKind.u32.max = 4294967295 := by decide
  rw [e1, e2] at h2
  unfold Cp.W
  omega
def numAt (cs : List Value) (k : Nat) : Int := match cs[k]? with | some (.int _ n) => n | _ => 0
def boolAt (cs : List Value) (k : Nat) : Bool := match cs[k]? with | some (.bool b) => b | _ => false
def stOf (cs : List Value) : Cp.St := ⟨fun k => numAt cs k, numAt cs 32, numAt cs 33, numAt cs 34, numAt cs 35, boolAt cs 36, numAt cs 37, numAt cs 38, numAt cs 39, numAt cs 40, numAt cs 41, numAt cs 42⟩
set_option maxRecDepth 100000 in
theorem open_state {w : World} {r : Reach} {base : Nat} {v : Value} (h : Value.okWide Tryz.prog w r base 26 v) : ∃ s : Cp.St, v = .agg (stL s).toArray ∧ (0 ≤ s.count → s.count < 4611686018427387904 → Cp.Rng s) := by
  unfold Value.okWide at h
  rw [Tryz.underlying26] at h
  obtain ⟨⟨cs⟩, rfl, hsz, ts, hts, _, hall⟩ := h
  rw [cellTypes_state] at hts
  obtain rfl := Option.some.inj hts
  rw [cellsOf_state] at hsz
  have hl : cs.length = 43 := hsz
  have hc : ∀ k (hk : k < 43), ∃ u, tysSt[k]? = some u ∧ Cell.okWide Tryz.prog w r base u (cs[k]'(by omega)) := by
    intro k hk
    obtain ⟨u, h1, h2⟩ := hall k (cs[k]'(by omega)) (by simp [hl, hk])
    rw [show tysSt.length = 43 from rfl, Nat.mod_eq_of_lt hk] at h1
    exact ⟨u, h1, h2⟩
  have hu : ∀ k, k < 43 → k ≠ 36 → k ≠ 42 → cs[k]? = some (.int .u32 (numAt cs k)) ∧ Cp.W (numAt cs k) := by
    intro k hk h36 h42
    obtain ⟨u, h1, h2⟩ := hc k hk
    have : u = 22 := by
      have h3 : ∀ j : Fin 43, j.val ≠ 36 → j.val ≠ 42 → tysSt[j.val]? = some 22 := by decide
      have := h3 ⟨k, hk⟩ h36 h42
      rw [this] at h1
      exact (Option.some.inj h1).symm
    subst this
    obtain ⟨n, h3, h4⟩ := cell_u32 h2
    have h5 : cs[k]? = some (.int .u32 n) := by rw [List.getElem?_eq_getElem (by omega), h3]
    have h6 : numAt cs k = n := by unfold numAt; rw [h5]
    rw [h6]
    exact ⟨h5, h4⟩
  have h36 : cs[36]? = some (.bool (boolAt cs 36)) := by
    obtain ⟨u, h1, h2⟩ := hc 36 (by omega)
    obtain rfl : 4 = u := Option.some.inj h1
    obtain ⟨b, h3⟩ := cell_bool Tryz.underlying4 h2
    have h5 : cs[36]? = some (.bool b) := by rw [List.getElem?_eq_getElem (by omega), h3]
    have h6 : boolAt cs 36 = b := by unfold boolAt; rw [h5]
    rw [h6]
    exact h5
  have h42 : cs[42]? = some (.int .i64 (numAt cs 42)) := by
    obtain ⟨u, h1, h2⟩ := hc 42 (by omega)
    obtain rfl : 3 = u := Option.some.inj h1
    obtain ⟨n, h3, _⟩ := cell_int Tryz.underlying3 h2
    have h5 : cs[42]? = some (.int .i64 n) := by rw [List.getElem?_eq_getElem (by omega), h3]
    have h6 : numAt cs 42 = n := by unfold numAt; rw [h5]
    rw [h6]
    exact h5
  refine ⟨stOf cs, ?_, fun c1 c2 => ⟨fun k hk => (hu k (by omega) (by omega) (by omega)).2, (hu 32 (by omega) (by omega) (by omega)).2, (hu 33 (by omega) (by omega) (by omega)).2, (hu 34 (by omega) (by omega) (by omega)).2, (hu 35 (by omega) (by omega) (by omega)).2, (hu 37 (by omega) (by omega) (by omega)).2, (hu 38 (by omega) (by omega) (by omega)).2, (hu 39 (by omega) (by omega) (by omega)).2, (hu 40 (by omega) (by omega) (by omega)).2, (hu 41 (by omega) (by omega) (by omega)).2, c1, c2⟩⟩
  congr 2
  apply List.ext_getElem?
  intro i
  by_cases hi : i < 32
  · unfold stL
    rw [List.getElem?_append_left (by rw [regs_len]; exact hi), (hu i (by omega) (by omega) (by omega)).1]
    simp [regs, hi, stOf]
  · by_cases h43 : 43 ≤ i
    · rw [List.getElem?_eq_none (by omega), List.getElem?_eq_none (by rw [show (stL (stOf cs)).length = 43 by simp [stL, regs, restC]]; omega)]
    · unfold stL
      rw [List.getElem?_append_right (by rw [regs_len]; omega), regs_len]
      have hi2 : i = 32 ∨ i = 33 ∨ i = 34 ∨ i = 35 ∨ i = 36 ∨ i = 37 ∨ i = 38 ∨ i = 39 ∨ i = 40 ∨ i = 41 ∨ i = 42 := by omega
      rcases hi2 with rfl | rfl | rfl | rfl | rfl | rfl | rfl | rfl | rfl | rfl | rfl
      all_goals first
        | exact h36
        | exact h42
        | exact (hu _ (by decide) (by decide) (by decide)).1
end Go.Proofs.YtknhfobcejpmeaaGreatDoor

/- Frame -/
/- The frame of every law: what reads before the call reads so behind it, where nothing below the heap's old size has turned; how words that come in are opened. No program in sight but its tables. -/
namespace Go.Proofs.YtknhfobcejpmeaaGreatDoor
open Go.ChangeShapes Go.WideShapes Go.ChangeAt Go.RowKit
set_option linter.unusedVariables false

theorem trodAll_stays {H : Type} {enc : TypeId × Value → H} {P : Program} (hl : laidOutB P = true) {W W' : World} (hb : Below W.heap.size W W') :
    ∀ (ts : List TypeId) (vs : List Value) (ds : List (DataW H)) (ps : List MemPlace), (∀ t ∈ ts, P.readableRec t = true ∧ t < P.types.size) → (∀ x ∈ ps, x.block < W.heap.size) →
      DataW.TrodAll enc P W 0 (fun _ => true) true ts vs ds ps → DataW.TrodAll enc P W' 0 (fun b => decide (b < W.heap.size)) true ts vs ds ps
  | [], vs, ds, ps, _, _, h => by
    obtain ⟨rfl, rfl, rfl⟩ := trodAll_nil h
    exact trodAll_mk0
  | t :: ts, vs, ds, ps, hts, hlt, h => by
    obtain ⟨v, vs', d, ds', p, q, rfl, rfl, rfl, h0, r0⟩ := trodAll_cons h
    obtain ⟨h1, h2⟩ := hts t (by simp)
    exact trodAll_cons_mk (Below.trod hl h1 h2 h0 hb (fun x hx => hlt x (by simp [hx])))
      (trodAll_stays hl hb ts vs' ds' q (fun u hu => hts u (by simp [hu])) (fun x hx => hlt x (by simp [hx])) r0)

/-- a law's end: true, and its arguments as they were -/
theorem law_post {H : Type} {enc : TypeId × Value → H} {P : Program} {f : Func} {s : ChangeSpec} {W W' : World} {args : Array Value} {ds gs : List (DataW H)} {before : List MemPlace} {tb : TypeId}
    (hl : laidOutB P = true) (hts : ∀ t ∈ f.params.toList, P.readableRec t = true ∧ t < P.types.size) (hres : f.resultTypes = #[tb]) (htb : P.underlying tb = some .bool) (hv : s.vars = [])
    (hW : DataW.Whole enc P f.params.toList s.vars false W args.toList ds gs before) (hs : s.fn H (ds ++ gs) = { results := [.lit (.bool true)], args := ds }) (hb : Below W.heap.size W W') :
    s.post enc P f false true false false W args (.bool true) W' := by
  have hW' := hW
  obtain ⟨p, q, hA, hV, rfl, hfz, hnd⟩ := hW
  have hlt : ∀ x ∈ p ++ q, x.block < W.heap.size := fun x hx => hW'.lt x hx
  refine ⟨ds, gs, p ++ q, [], p, [], hW', ?_, ?_, ?_, hb.frame _, fun h => by cases h⟩
  · rw [hs, hres]; exact trodAll_mk1 (shut_bool htb true)
  · rw [hs]; exact trodAll_stays hl hb _ _ _ _ hts (fun x hx => hlt x (by simp [hx])) hA
  · rw [hs, hv]; rfl

/-- what is written of a word: it lies in its bounds -/
theorem rng_u32 {a : Int} (h : (Lit.int .u32 a).wf = true) : 0 ≤ a ∧ a < 4294967296 := by
  simp [Lit.wf, IntKind.min, IntKind.max, IntKind.signed, IntKind.bits] at h; omega

/-- WORDS THAT CAME IN, to be read -/
theorem open_words {H : Type} {enc : TypeId × Value → H} {P : Program} {W : World} {base : Nat} {ts te : TypeId} {v : Value} {d : DataW H} {ps : List MemPlace} (ht : P.underlying ts = some (.slice te)) (he : P.underlying te = some (.int .u32)) (hc : P.cellsOf te = 1)
    (hval : Value.okWide P W .any base ts v) (h : DataW.Trod enc P W 0 (fun _ => true) true ts v d ps) (hlt : ∀ x ∈ ps, x.block < W.heap.size) :
    ∃ (A : Option Addr) (len cap : Nat) (ws : Nat → Int), v = .slice A len cap ∧ Reads W A len cap (fun i => .int .u32 (ws i)) ∧ cap ≤ maxLen ∧ ∀ i, i < len → 0 ≤ ws i ∧ ws i < 4294967296 := by
  obtain ⟨a0, len, cap, rfl⟩ := okWide_slice ht hval
  obtain ⟨fuel, hf⟩ := h
  rcases open_ints ht he hc hf with ⟨hcs, hx⟩ | ⟨a, len', cap', zs, hcs, _, hl, hm, hz, hx, hcell, hwz⟩
  · simp [Value.cells] at hcs
    obtain ⟨rfl, rfl, rfl⟩ := hcs
    exact ⟨none, 0, 0, fun _ => 0, rfl, ⟨Nat.le_refl _, .inl rfl⟩, Nat.zero_le _, fun i hi => by omega⟩
  · simp [Value.cells] at hcs
    obtain ⟨rfl, rfl, rfl⟩ := hcs
    simp only [if_true] at hz
    obtain ⟨b, off, spot⟩ := a
    have hws : ∀ i, i < len → 0 ≤ zs.getD i 0 ∧ zs.getD i 0 < 4294967296 := by
      intro i hi
      have hlt : i < zs.length := by omega
      have e : zs.getD i 0 = zs[i] := by simp [List.getD, hlt]
      have hm := hwz zs[i] (List.getElem_mem _)
      rw [e]
      simp [Lit.wf, IntKind.min, IntKind.max, IntKind.signed, IntKind.bits] at hm
      omega
    by_cases h0 : cap = 0
    · exact ⟨some ⟨b, off, spot⟩, len, cap, fun _ => 0, rfl, ⟨hl, .inl h0⟩, hm, fun i hi => by omega⟩
    · have hspot : spot = none := by simpa [Addr.add] using World.cell?_spot (hcell 0 (by omega))
      subst hspot
      refine ⟨some ⟨b, off, none⟩, len, cap, fun i => zs.getD i 0, rfl, ⟨hl, .inr ⟨b, off, rfl, ?_, fun i hi => ?_⟩⟩, hm, hws⟩
      · have := World.block_lt_of_cell? W _ (hcell 0 (by omega))
        simpa [Addr.add] using this
      · have := hcell i (by omega)
        simpa [Addr.add_lit] using this
end Go.Proofs.YtknhfobcejpmeaaGreatDoor

/- Sent -/
/- What the row's list of errors gives the walks: each variable's cell. -/
namespace Go.Proofs.YtknhfobcejpmeaaGreatDoor
open Go.ChangeShapes Go.WideShapes Go.RowKit
set_option linter.unusedVariables false

theorem Tryz.own : ownKnob Tryz.prog.godebug = none := by kernel_rfl
theorem Tryz.laidOut : laidOutB Tryz.prog = true := by kernel_rfl
theorem Tryz.cells_str : Tryz.prog.cellsOf 9 = 1 := by kernel_rfl
theorem Tryz.cells_es : Tryz.prog.cellsOf 296 = 1 := by kernel_rfl
theorem Tryz.cells_u32 : Tryz.prog.cellsOf 22 = 1 := by kernel_rfl
theorem Tryz.rowES (u : TypeId) (h : Tryz.prog.typeName? 3 u = some "*errors.errorString") : u = 275 :=
  typeName_ptr_named (nm := "errors.errorString") (by kernel_rfl) (by kernel_rfl) (by decide) u h
theorem Tryz.gShape : Tryz.prog.globalNamed "changeling/api.ErrShape" = some 0 := by kernel_rfl
theorem Tryz.gAlign : Tryz.prog.globalNamed "changeling/api.ErrAlign" = some 1 := by kernel_rfl
theorem Tryz.gFar : Tryz.prog.globalNamed "changeling/api.ErrFar" = some 9 := by kernel_rfl
theorem Tryz.tShape : (Tryz.prog.globals[0]?).map (·.type) = some 37 := by kernel_rfl
theorem Tryz.tAlign : (Tryz.prog.globals[1]?).map (·.type) = some 37 := by kernel_rfl
theorem Tryz.tFar : (Tryz.prog.globals[9]?).map (·.type) = some 37 := by kernel_rfl

/-- one listed error: its variable's cell -/
theorem sentinel_cell {n : String} {text : List UInt8} {r : List (String × DataW Unit)} {W : World} {g : Nat}
    (h : laidMet Tryz.prog ((n, .iface "*errors.errorString" (.ptr (.agg [.lit (.string text)]))) :: r) W) (hg : Tryz.prog.globalNamed n = some g) (ht : (Tryz.prog.globals[g]?).map (·.type) = some 37) :
    ∃ a : Addr, W.cell? ⟨g, 0, none⟩ = some (.iface 275 (.pointer (some a))) := by
  obtain ⟨a, s, hv, _⟩ := laid_sentinel h hg ht Tryz.underlying37 Tryz.rowES Tryz.underlying275 Tryz.underlying296 rfl rfl Tryz.underlying9 Tryz.cells_es Tryz.cells_str
  exact ⟨a, by simpa using World.var?_cell hg hv 0⟩

theorem errs3 {W : World} (h : laidMetH Tryz.prog [("changeling/api.ErrShape", Rows.laid_changeling_api_ErrShape), ("changeling/api.ErrAlign", Rows.laid_changeling_api_ErrAlign), ("changeling/api.ErrFar", Rows.laid_changeling_api_ErrFar)] W) : ∃ ea, Errs3 W ea := by
  rw [MakeChecks.laidMetH_plain _ _ _ (by kernel_rfl)] at h
  obtain ⟨a3, h3⟩ := sentinel_cell h Tryz.gShape Tryz.tShape
  obtain ⟨a9, h9⟩ := sentinel_cell h.tail Tryz.gAlign Tryz.tAlign
  obtain ⟨a10, h10⟩ := sentinel_cell h.tail.tail Tryz.gFar Tryz.tFar
  exact ⟨fun c => if c = 3 then a3 else if c = 9 then a9 else a10, h3, h9, h10⟩
end Go.Proofs.YtknhfobcejpmeaaGreatDoor

/- OpenPlace -/
/- What an argument of type Place holds. -/
namespace Go.Proofs.YtknhfobcejpmeaaGreatDoor
open Go.ChangeShapes Go.WideShapes Go.ChangeAt Go.RowKit Go.Deep
set_option linter.unusedVariables false

theorem cellTypes_place : Tryz.prog.cellTypes Tryz.prog.depth 29 = some (tysSt ++ [27, 3]) := by kernel_rfl
theorem cellsOf_place : Tryz.prog.cellsOf 29 = 45 := by kernel_rfl
theorem cellsOf_words : Tryz.prog.cellsOf 27 = 1 := by kernel_rfl
theorem fields_place : ∃ fs, Tryz.prog.underlying 29 = some (.struct fs) ∧ (fs[1]?).map (fun f => (f.type, f.offset)) = some (27, 43) :=
  ⟨_, Tryz.underlying29, by kernel_rfl⟩
theorem tysSt_len : tysSt.length = 43 := rfl
set_option maxRecDepth 100000 in
theorem open_place {H : Type} {enc : TypeId × Value → H} {W : World} {base : Nat} {v : Value} {d : DataW H} {ps : List MemPlace}
    (hval : Value.okWide Tryz.prog W .any base 29 v) (h : DataW.Trod enc Tryz.prog W 0 (fun _ => true) true 29 v d ps) (hlt : ∀ x ∈ ps, x.block < W.heap.size) :
    ∃ (s : Cp.St) (A : Option Addr) (n cap : Nat) (page : Int) (ws : Nat → Int), v = .agg (placeL s A n cap page).toArray ∧ Reads W A n cap (fun i => .int .u32 (ws i)) ∧ cap ≤ 9223372036854775807 ∧ (∀ i, i < n → 0 ≤ ws i ∧ ws i < 4294967296) ∧ (0 ≤ s.count → s.count < 4611686018427387904 → Cp.Rng s) := by
  obtain ⟨fs, hfs, hf1⟩ := fields_place
  unfold Value.okWide at hval
  rw [hfs] at hval
  obtain ⟨⟨cs⟩, rfl, hsz, ts, hts, hne, hall⟩ := hval
  rw [cellTypes_place] at hts
  obtain rfl := Option.some.inj hts
  rw [cellsOf_place] at hsz
  have hl : cs.length = 45 := hsz
  have hS : Value.okWide Tryz.prog W .any base 26 (.agg (cs.take 43).toArray) := by
    unfold Value.okWide
    rw [Tryz.underlying26]
    refine ⟨_, rfl, by rw [cellsOf_state, List.size_toArray, List.length_take]; omega, tysSt, cellTypes_state, ⟨1, by rw [tysSt_len, List.size_toArray, List.length_take]; omega⟩, fun k c hk => ?_⟩
    have hk' : (cs.take 43)[k]? = some c := by simpa using hk
    have hk43 : k < 43 := by
      have := (List.getElem?_eq_some_iff.1 hk').1
      rw [List.length_take] at this
      omega
    rw [List.getElem?_take, if_pos hk43] at hk'
    obtain ⟨u, h1, h2⟩ := hall k c (by simpa using hk')
    have e1 : (tysSt ++ [27, 3]).length = 45 := rfl
    have e2 : k % 45 = k := Nat.mod_eq_of_lt (by omega)
    rw [e1, e2, List.getElem?_append_left (by rw [tysSt_len]; exact hk43)] at h1
    exact ⟨u, by rw [tysSt_len, Nat.mod_eq_of_lt hk43]; exact h1, h2⟩
  obtain ⟨s, hs, hrng⟩ := open_state hS
  have hs' : cs.take 43 = stL s := by
    injection hs with hs
    have := congrArg Array.toList hs
    simpa using this
  obtain ⟨u43, h1, h2⟩ := hall 43 (cs[43]'(by omega)) (by simp [hl])
  obtain rfl : 27 = u43 := Option.some.inj h1
  obtain ⟨u44, h3, h4⟩ := hall 44 (cs[44]'(by omega)) (by simp [hl])
  obtain rfl : 3 = u44 := Option.some.inj h3
  obtain ⟨page, hp, _⟩ := cell_int Tryz.underlying3 h4
  obtain ⟨fuel, hf⟩ := h
  obtain ⟨xs, n, _, hx, _, hxn, hg⟩ := DataW.trod_struct hfs hf
  obtain ⟨f, hfe, hft⟩ := Option.map_eq_some_iff.1 hf1
  have h5 := hg 1 f hfe
  injection hft with e1 e2
  rw [e1, e2, cellsOf_words] at h5
  have h6 : (cs.drop 43).take 1 = [cs[43]'(by omega)] := by
    rw [List.drop_eq_getElem_cons (by omega)]
    rfl
  have hcs : cs = stL s ++ [cs[43]'(by omega), cs[44]'(by omega)] := by
    rw [← hs']
    apply List.ext_getElem?
    intro k
    by_cases h43 : k < 43
    · rw [List.getElem?_append_left (by rw [List.length_take]; omega), List.getElem?_take, if_pos h43]
    · rw [List.getElem?_append_right (by rw [List.length_take]; omega), List.length_take, show min 43 cs.length = 43 by omega]
      by_cases h44 : k = 43
      · subst h44
        rw [List.getElem?_eq_getElem (by omega)]
        rfl
      · by_cases h45 : k = 44
        · subst h45
          rw [List.getElem?_eq_getElem (by omega)]
          rfl
        · rw [List.getElem?_eq_none (by omega), List.getElem?_eq_none (by simp; omega)]
  generalize cs[43]'(by omega) = c43 at *
  generalize cs[44]'(by omega) = c44 at *
  subst hp
  have hval43 : Value.okWide Tryz.prog W .any base 27 c43 := by
    unfold Value.okWide
    rw [Tryz.underlying27]
    exact h2
  obtain ⟨a0, l0, k0, rfl⟩ := okWide_slice Tryz.underlying27 hval43
  change DataW.trod enc Tryz.prog W 0 (fun _ => true) true n 27 ((cs.drop 43).take 1) = xs[1]? at h5
  rw [h6] at h5
  have hx1 : 1 < xs.length := by
    have := (Array.getElem?_eq_some_iff.1 hfe).1
    omega
  rw [List.getElem?_eq_getElem hx1] at h5
  have hps : ∀ y ∈ (xs[1]).2, y.block < W.heap.size := fun y hy => hlt y (by
    injection hx with _ hx
    rw [hx]
    exact List.mem_flatMap.2 ⟨_, List.getElem_mem hx1, hy⟩)
  obtain ⟨A, len, cap, ws, hv, hR, hcm, hr⟩ := open_words (d := (xs[1]).1) (ps := (xs[1]).2) Tryz.underlying27 Tryz.underlying22 Tryz.cells_u32 hval43 ⟨n, h5⟩ hps
  rw [hv] at hcs
  refine ⟨s, A, len, cap, page, ws, ?_, hR, by unfold maxLen at hcm; omega, hr, hrng⟩
  rw [hcs]
  rfl
end Go.Proofs.YtknhfobcejpmeaaGreatDoor

/- OpenOps -/
/- Records that came in, opened to cells; ops that came in. -/
namespace Go.Proofs.YtknhfobcejpmeaaGreatDoor
open Go.ChangeShapes Go.WideShapes Go.ChangeAt Go.RowKit Go.Deep
set_option linter.unusedVariables false

/-- a record's field, read from the one cell it has -/
theorem field_read {H : Type} {enc : TypeId × Value → H} {P : Program} {W : World} {te : TypeId} {fs : Array Field} {fuel base : Nat} {spare : Nat → Bool} {held : Bool} {cs : List Value} {x : DataW H × List MemPlace}
    (he : P.underlying te = some (.struct fs)) (hone : oneCellFields P fs = true) (hC : P.cellsOf te = fs.size) (h : DataW.trod enc P W base spare held fuel te cs = some x) (j : Nat) (f : Field) (hj : fs[j]? = some f) :
    ∃ v y n, cs[j]? = some v ∧ DataW.trod enc P W base spare held n f.type [v] = some y := by
  obtain ⟨xs, n, _, _, hlen, hxl, hg⟩ := DataW.trod_struct he h
  obtain ⟨ho, hk⟩ := hone_of hone j f hj
  have hjl : j < fs.size := (Array.getElem?_eq_some_iff.1 hj).1
  have hjc : j < cs.length := by omega
  have h1 := hg j f hj
  rw [ho, hk, List.drop_eq_getElem_cons hjc, List.getElem?_eq_getElem (by omega)] at h1
  exact ⟨cs[j], _, n, List.getElem?_eq_getElem hjc, h1⟩

theorem open_recs {H : Type} {enc : TypeId × Value → H} {P : Program} {W : World} {base : Nat} {ts te : TypeId} {fs : Array Field} {v : Value} {d : DataW H} {ps : List MemPlace} (ht : P.underlying ts = some (.slice te)) (he : P.underlying te = some (.struct fs))
    (hone : oneCellFields P fs = true) (hC : P.cellsOf te = fs.size) (h0 : 0 < fs.size) (hval : Value.okWide P W .any base ts v) (h : DataW.Trod enc P W 0 (fun _ => true) true ts v d ps) :
    ∃ (A : Option Addr) (len cap : Nat), v = .slice A len cap ∧ len ≤ cap ∧ cap ≤ maxLen ∧ (cap = 0 ∨ ∃ b o, A = some ⟨b, o, none⟩ ∧ b < W.heap.size ∧
      ∀ i, i < len → ∀ j f, fs[j]? = some f → ∃ v y n, W.cell? ⟨b, o + i * fs.size + j, none⟩ = some v ∧ DataW.trod enc P W 0 (fun _ => true) true n f.type [v] = some y) := by
  obtain ⟨a0, len, cap, rfl⟩ := okWide_slice ht hval
  obtain ⟨fuel, hf⟩ := h
  rcases open_slice ht hf with ⟨hcs, _⟩ | ⟨a, len', cap', m, n, D, Pl, hcs, hb, hl, hm, hmm, hx, hi⟩
  · simp [Value.cells] at hcs
    obtain ⟨rfl, rfl, rfl⟩ := hcs
    exact ⟨none, 0, 0, rfl, Nat.le_refl _, Nat.zero_le _, .inl rfl⟩
  · simp [Value.cells] at hcs
    obtain ⟨rfl, rfl, rfl⟩ := hcs
    simp only [if_true] at hmm
    subst hmm
    refine ⟨some a, len, m, rfl, hl, hm, ?_⟩
    by_cases hc0 : m = 0
    · exact .inl hc0
    · right
      obtain ⟨b, off, spot⟩ := a
      have hfl : ∀ i, i < m → ∀ j f, fs[j]? = some f → ∃ v y n, W.cell? (((⟨b, off, spot⟩ : Addr).add (i * fs.size)).add j) = some v ∧ DataW.trod enc P W 0 (fun _ => true) true n f.type [v] = some y := by
        intro i him j f hj
        obtain ⟨cs', hc, ht'⟩ := hi i him
        rw [hC] at hc
        obtain ⟨_, hcl, hat⟩ := World.cells?_some hc
        obtain ⟨v, y, n', hv, hy⟩ := field_read he hone hC ht' j f hj
        exact ⟨v, y, n', (hat j (Array.getElem?_eq_some_iff.1 hj).1).trans hv, hy⟩
      obtain ⟨f0, hf0⟩ : ∃ f, fs[0]? = some f := ⟨fs[0], Array.getElem?_eq_getElem h0⟩
      obtain ⟨v0, _, _, hc00, _⟩ := hfl 0 (by omega) 0 f0 hf0
      have hspot : spot = none := by simpa [Addr.add] using World.cell?_spot hc00
      subst hspot
      refine ⟨b, off, rfl, by simpa [Addr.add] using World.block_lt_of_cell? W _ hc00, fun i hil j f hj => ?_⟩
      obtain ⟨v, y, n', h1, h2⟩ := hfl i (by omega) j f hj
      rw [Addr.add_lit, Addr.add_lit] at h1
      exact ⟨v, y, n', h1, h2⟩

/-- the types of a struct's fields, each of one cell -/
def structTypes (P : Program) (t : TypeId) : Option (List TypeId) :=
  match P.underlying t with
  | some (.struct fs) => if oneCellFields P fs = true ∧ P.cellsOf t = fs.size then some (fs.toList.map (·.type)) else none
  | _ => none
theorem structTypes_some {P : Program} {t : TypeId} {ts : List TypeId} (h : structTypes P t = some ts) : ∃ fs : Array Field, P.underlying t = some (.struct fs) ∧ oneCellFields P fs = true ∧ P.cellsOf t = fs.size ∧ fs.size = ts.length ∧ ∀ (j : Nat) (ty : TypeId), ts[j]? = some ty → ∃ f : Field, fs[j]? = some f ∧ f.type = ty := by
  unfold structTypes at h
  split at h
  · rename_i fs hu
    split at h
    · rename_i hc
      injection h with h
      subst h
      refine ⟨fs, hu, hc.1, hc.2, by rw [List.length_map, Array.length_toList], fun j ty hj => ?_⟩
      rw [List.getElem?_map, Array.getElem?_toList] at hj
      obtain ⟨f, h1, h2⟩ := Option.map_eq_some_iff.1 hj
      exact ⟨f, h1, h2⟩
    · cases h
  · cases h
theorem open_recs' {H : Type} {enc : TypeId × Value → H} {P : Program} {W : World} {base : Nat} {ts te : TypeId} {tys : List TypeId} {v : Value} {d : DataW H} {ps : List MemPlace} (ht : P.underlying ts = some (.slice te)) (he : structTypes P te = some tys)
    (h0 : 0 < tys.length) (hval : Value.okWide P W .any base ts v) (h : DataW.Trod enc P W 0 (fun _ => true) true ts v d ps) :
    ∃ (A : Option Addr) (len cap : Nat), v = .slice A len cap ∧ len ≤ cap ∧ cap ≤ maxLen ∧ (cap = 0 ∨ ∃ b o, A = some ⟨b, o, none⟩ ∧ b < W.heap.size ∧
      ∀ i, i < len → ∀ j ty, tys[j]? = some ty → ∃ v y n, W.cell? ⟨b, o + i * tys.length + j, none⟩ = some v ∧ DataW.trod enc P W 0 (fun _ => true) true n ty [v] = some y) := by
  obtain ⟨fs, h1, h2, h3, h4, h5⟩ := structTypes_some he
  obtain ⟨A, len, cap, hv, hl, hm, hc⟩ := open_recs ht h1 h2 h3 (by omega) hval h
  refine ⟨A, len, cap, hv, hl, hm, ?_⟩
  rcases hc with hc | ⟨b, o, hA, hb, hc⟩
  · exact .inl hc
  · refine .inr ⟨b, o, hA, hb, fun i hi j ty hj => ?_⟩
    obtain ⟨f, hf, rfl⟩ := h5 j ty hj
    have := hc i hi j f hf
    rwa [h4] at this

theorem types_op : structTypes Tryz.prog 100 = some [9, 3, 3, 3, 22, 3] := by kernel_rfl

/-- an int field, a bool field -/
def gInt (w : World) (b o : Nat) : Int := match w.cell? ⟨b, o, none⟩ with
  | some (.int _ n) => n
  | _ => 0
def gBool (w : World) (b o : Nat) : Bool := match w.cell? ⟨b, o, none⟩ with
  | some (.bool n) => n
  | _ => false
theorem fld_int {H : Type} {enc : TypeId × Value → H} {P : Program} {W : World} {b o n : Nat} {ty : TypeId} {k : IntKind} {v : Value} {y : DataW H × List MemPlace} (ht : P.underlying ty = some (.int k)) (hc : W.cell? ⟨b, o, none⟩ = some v)
    (h : DataW.trod enc P W 0 (fun _ => true) true n ty [v] = some y) : W.cell? ⟨b, o, none⟩ = some (.int k (gInt W b o)) ∧ (Lit.int k (gInt W b o)).wf = true := by
  obtain ⟨z, hz, _, hw⟩ := DataW.trod_int ht h
  injection hz with hz
  subst hz
  have : gInt W b o = z := by rw [gInt, hc]
  rw [this]
  exact ⟨hc, hw⟩
theorem fld_bool {H : Type} {enc : TypeId × Value → H} {P : Program} {W : World} {b o n : Nat} {ty : TypeId} {v : Value} {y : DataW H × List MemPlace} (ht : P.underlying ty = some .bool) (hc : W.cell? ⟨b, o, none⟩ = some v)
    (h : DataW.trod enc P W 0 (fun _ => true) true n ty [v] = some y) : W.cell? ⟨b, o, none⟩ = some (.bool (gBool W b o)) := by
  obtain ⟨z, hz, _⟩ := DataW.trod_bool ht h
  injection hz with hz
  subst hz
  rw [gBool, hc]

def gStr (w : World) (b o : Nat) : ByteArray := match w.cell? ⟨b, o, none⟩ with
  | some (.string n) => n
  | _ => ByteArray.empty
theorem fld_str {H : Type} {enc : TypeId × Value → H} {P : Program} {W : World} {b o n : Nat} {ty : TypeId} {v : Value} {y : DataW H × List MemPlace} (ht : P.underlying ty = some .string) (hc : W.cell? ⟨b, o, none⟩ = some v)
    (h : DataW.trod enc P W 0 (fun _ => true) true n ty [v] = some y) : W.cell? ⟨b, o, none⟩ = some (.string (gStr W b o)) := by
  obtain ⟨z, hz, _⟩ := DataW.trod_string ht h
  injection hz with hz
  subst hz
  rw [gStr, hc]
theorem rng_int {a : Int} (h : (Lit.int .i64 a).wf = true) : i64R a := by
  have h1 := h
  simp [Lit.wf] at h1
  exact h1
/-- an op that lies there -/
def gOp (w : World) (b o : Nat) : Ir.Op := ⟨gStr w b o, gInt w b (o + 1), gInt w b (o + 2), gInt w b (o + 3), gInt w b (o + 4), gInt w b (o + 5)⟩
def gOps (w : World) (b o n : Nat) : List Ir.Op := (List.range n).map fun i => gOp w b (o + i * 6)
theorem gOps_get (w : World) (b o n i : Nat) (h : i < n) : (gOps w b o n).getD i Ir.nop = gOp w b (o + i * 6) := by
  unfold gOps
  rw [List.getD_eq_getElem?_getD, List.getElem?_map, List.getElem?_range h]
  rfl
theorem gOps_len (w : World) (b o n : Nat) : (gOps w b o n).length = n := by simp [gOps]

set_option maxRecDepth 100000 in
/-- what a slice's cells of type Op give -/
theorem ops_of_cells {H : Type} {enc : TypeId × Value → H} {W : World} {b o len cap : Nat} (hl : len ≤ cap) (hb : b < W.heap.size)
    (hc : ∀ i, i < len → ∀ j ty, [9, 3, 3, 3, 22, 3][j]? = some ty → ∃ v y n, W.cell? ⟨b, o + i * 6 + j, none⟩ = some v ∧ DataW.trod enc Tryz.prog W 0 (fun _ => true) true n ty [v] = some y) :
    OpsAt W (some ⟨b, o, none⟩) len cap (gOps W b o len) ∧ ∀ x ∈ gOps W b o len, OpOk x := by
  have f0 : ∀ i, i < len → W.cell? ⟨b, o + i * 6 + 0, none⟩ = some (.string (gStr W b (o + i * 6 + 0))) := fun i hi => by
    obtain ⟨v, y, n, h1, h2⟩ := hc i hi 0 _ rfl
    exact fld_str Tryz.underlying9 h1 h2
  have f1 : ∀ i, i < len → W.cell? ⟨b, o + i * 6 + 1, none⟩ = some (.int .i64 (gInt W b (o + i * 6 + 1))) ∧ _ := fun i hi => by
    obtain ⟨v, y, n, h1, h2⟩ := hc i hi 1 _ rfl
    exact fld_int Tryz.underlying3 h1 h2
  have f2 : ∀ i, i < len → W.cell? ⟨b, o + i * 6 + 2, none⟩ = some (.int .i64 (gInt W b (o + i * 6 + 2))) ∧ _ := fun i hi => by
    obtain ⟨v, y, n, h1, h2⟩ := hc i hi 2 _ rfl
    exact fld_int Tryz.underlying3 h1 h2
  have f3 : ∀ i, i < len → W.cell? ⟨b, o + i * 6 + 3, none⟩ = some (.int .i64 (gInt W b (o + i * 6 + 3))) ∧ _ := fun i hi => by
    obtain ⟨v, y, n, h1, h2⟩ := hc i hi 3 _ rfl
    exact fld_int Tryz.underlying3 h1 h2
  have f4 : ∀ i, i < len → W.cell? ⟨b, o + i * 6 + 4, none⟩ = some (.int .u32 (gInt W b (o + i * 6 + 4))) ∧ _ := fun i hi => by
    obtain ⟨v, y, n, h1, h2⟩ := hc i hi 4 _ rfl
    exact fld_int Tryz.underlying22 h1 h2
  have f5 : ∀ i, i < len → W.cell? ⟨b, o + i * 6 + 5, none⟩ = some (.int .i64 (gInt W b (o + i * 6 + 5))) ∧ _ := fun i hi => by
    obtain ⟨v, y, n, h1, h2⟩ := hc i hi 5 _ rfl
    exact fld_int Tryz.underlying3 h1 h2
  refine ⟨⟨gOps_len _ _ _ _, hl, .inr ⟨b, o, rfl, hb, fun i hi => ?_⟩⟩, fun x hx => ?_⟩
  · rw [gOps_get W b o len i hi]
    exact ⟨f0 i hi, (f1 i hi).1, (f2 i hi).1, (f3 i hi).1, (f4 i hi).1, (f5 i hi).1⟩
  · unfold gOps at hx
    obtain ⟨i, hi, rfl⟩ := List.mem_map.1 hx
    have hi := List.mem_range.1 hi
    have h4 := rng_u32 (f4 i hi).2
    exact ⟨rng_int (f1 i hi).2, rng_int (f2 i hi).2, rng_int (f3 i hi).2, ⟨h4.1, Int.le_of_lt_add_one h4.2⟩, rng_int (f5 i hi).2⟩
set_option maxRecDepth 100000 in
/-- OPS THAT CAME IN, to be read -/
theorem open_ops {H : Type} {enc : TypeId × Value → H} {W : World} {base : Nat} {v : Value} {d : DataW H} {ps : List MemPlace}
    (hval : Value.okWide Tryz.prog W .any base 23 v) (h : DataW.Trod enc Tryz.prog W 0 (fun _ => true) true 23 v d ps) :
    ∃ (A : Option Addr) (len cap : Nat) (l : List Ir.Op), v = .slice A len cap ∧ OpsAt W A len cap l ∧ cap ≤ 9223372036854775807 ∧ ∀ x ∈ l, OpOk x := by
  obtain ⟨A, len, cap, rfl, hl, hm, hc⟩ := open_recs' Tryz.underlying23 types_op (Nat.succ_pos _) hval h
  have hcap : cap ≤ 9223372036854775807 := by unfold maxLen at hm; omega
  rcases hc with hc | ⟨b, o, rfl, hb, hc⟩
  · refine ⟨A, len, cap, [], rfl, ⟨?_, hl, .inl hc⟩, hcap, fun x hx => by cases hx⟩
    simp
    omega
  · have := ops_of_cells (enc := enc) hl hb hc
    exact ⟨_, len, cap, _, rfl, this.1, hcap, this.2⟩
end Go.Proofs.YtknhfobcejpmeaaGreatDoor

/- OpenRows -/
/- Rows of ops that came in, opened to cells. -/
namespace Go.Proofs.YtknhfobcejpmeaaGreatDoor
open Go.ChangeShapes Go.WideShapes Go.ChangeAt Go.RowKit Go.Deep
set_option linter.unusedVariables false

/-- a slice of one-cell elements that came in, its one cell as it was read -/
theorem open_ones {H : Type} {enc : TypeId × Value → H} {P : Program} {W : World} {ts te : TypeId} {fuel : Nat} {cs : List Value} {y : DataW H × List MemPlace} (ht : P.underlying ts = some (.slice te)) (hC : P.cellsOf te = 1)
    (h : DataW.trod enc P W 0 (fun _ => true) true fuel ts cs = some y) :
    ∃ (A : Option Addr) (len cap : Nat), cs = [.slice A len cap] ∧ len ≤ cap ∧ cap ≤ maxLen ∧ (cap = 0 ∨ ∃ b o, A = some ⟨b, o, none⟩ ∧ b < W.heap.size ∧
      ∀ i, i < len → ∃ v y n, W.cell? ⟨b, o + i, none⟩ = some v ∧ DataW.trod enc P W 0 (fun _ => true) true n te [v] = some y) := by
  rcases open_slice ht h with ⟨hcs, _⟩ | ⟨a, len', cap', m, n, D, Pl, hcs, hb, hl, hm, hmm, hx, hi⟩
  · subst hcs
    exact ⟨none, 0, 0, rfl, Nat.le_refl _, Nat.zero_le _, .inl rfl⟩
  · subst hcs
    simp only [if_true] at hmm
    subst hmm
    refine ⟨some a, len', m, rfl, hl, hm, ?_⟩
    by_cases hc0 : m = 0
    · exact .inl hc0
    · right
      obtain ⟨b, off, spot⟩ := a
      have hfl : ∀ i, i < m → ∃ v y n, W.cell? ((⟨b, off, spot⟩ : Addr).add i) = some v ∧ DataW.trod enc P W 0 (fun _ => true) true n te [v] = some y := by
        intro i him
        obtain ⟨cs', hc, ht'⟩ := hi i him
        rw [hC, Nat.mul_one] at hc
        obtain ⟨_, hcl, hat⟩ := World.cells?_some hc
        obtain ⟨v, hv⟩ : ∃ v, cs' = [v] := by
          match cs', hcl with
          | [v], _ => exact ⟨v, rfl⟩
        subst hv
        refine ⟨v, _, _, ?_, ht'⟩
        have := hat 0 (by omega)
        rw [Addr.add_add, Nat.add_zero] at this
        exact this
      obtain ⟨v0, _, _, hc00, _⟩ := hfl 0 (by omega)
      have hspot : spot = none := by simpa [Addr.add] using World.cell?_spot hc00
      subst hspot
      refine ⟨b, off, rfl, by simpa [Addr.add] using World.block_lt_of_cell? W _ hc00, fun i hil => ?_⟩
      obtain ⟨v, y, n', h1, h2⟩ := hfl i (by omega)
      rw [Addr.add_lit] at h1
      exact ⟨v, y, n', h1, h2⟩
/-- a slice of records, its one cell as it was read -/
theorem open_recs_c {H : Type} {enc : TypeId × Value → H} {P : Program} {W : World} {ts te : TypeId} {tys : List TypeId} {fuel : Nat} {cs : List Value} {y : DataW H × List MemPlace} (ht : P.underlying ts = some (.slice te)) (he' : structTypes P te = some tys)
    (h0' : 0 < tys.length) (h : DataW.trod enc P W 0 (fun _ => true) true fuel ts cs = some y) :
    ∃ (A : Option Addr) (len cap : Nat), cs = [.slice A len cap] ∧ len ≤ cap ∧ cap ≤ maxLen ∧ (cap = 0 ∨ ∃ b o, A = some ⟨b, o, none⟩ ∧ b < W.heap.size ∧
      ∀ i, i < len → ∀ j ty, tys[j]? = some ty → ∃ v y n, W.cell? ⟨b, o + i * tys.length + j, none⟩ = some v ∧ DataW.trod enc P W 0 (fun _ => true) true n ty [v] = some y) := by
  obtain ⟨fs, he, hone, hC, h4, h5⟩ := structTypes_some he'
  have h0 : 0 < fs.size := by omega
  rcases open_slice ht h with ⟨hcs, _⟩ | ⟨a, len', cap', m, n, D, Pl, hcs, hb, hl, hm, hmm, hx, hi⟩
  · subst hcs
    exact ⟨none, 0, 0, rfl, Nat.le_refl _, Nat.zero_le _, .inl rfl⟩
  · subst hcs
    simp only [if_true] at hmm
    subst hmm
    refine ⟨some a, len', m, rfl, hl, hm, ?_⟩
    by_cases hc0 : m = 0
    · exact .inl hc0
    · right
      obtain ⟨b, off, spot⟩ := a
      have hfl : ∀ i, i < m → ∀ j f, fs[j]? = some f → ∃ v y n, W.cell? (((⟨b, off, spot⟩ : Addr).add (i * fs.size)).add j) = some v ∧ DataW.trod enc P W 0 (fun _ => true) true n f.type [v] = some y := by
        intro i him j f hj
        obtain ⟨cs', hc, ht'⟩ := hi i him
        rw [hC] at hc
        obtain ⟨_, hcl, hat⟩ := World.cells?_some hc
        obtain ⟨v, y, n', hv, hy⟩ := field_read he hone hC ht' j f hj
        exact ⟨v, y, n', (hat j (Array.getElem?_eq_some_iff.1 hj).1).trans hv, hy⟩
      obtain ⟨f0, hf0⟩ : ∃ f, fs[0]? = some f := ⟨fs[0], Array.getElem?_eq_getElem h0⟩
      obtain ⟨v0, _, _, hc00, _⟩ := hfl 0 (by omega) 0 f0 hf0
      have hspot : spot = none := by simpa [Addr.add] using World.cell?_spot hc00
      subst hspot
      refine ⟨b, off, rfl, by simpa [Addr.add] using World.block_lt_of_cell? W _ hc00, fun i hil j ty hj => ?_⟩
      obtain ⟨f, hf, rfl⟩ := h5 j ty hj
      obtain ⟨v, y, n', h1, h2⟩ := hfl i (by omega) j f hf
      rw [Addr.add_lit, Addr.add_lit] at h1
      rw [← h4]
      exact ⟨v, y, n', h1, h2⟩
set_option maxRecDepth 100000 in
/-- ops in a cell that was read -/
theorem open_ops_c {H : Type} {enc : TypeId × Value → H} {W : World} {fuel : Nat} {v : Value} {y : DataW H × List MemPlace} (h : DataW.trod enc Tryz.prog W 0 (fun _ => true) true fuel 23 [v] = some y) :
    ∃ (A : Option Addr) (len cap : Nat) (l : List Ir.Op), v = .slice A len cap ∧ OpsAt W A len cap l ∧ cap ≤ 9223372036854775807 ∧ ∀ x ∈ l, OpOk x := by
  obtain ⟨A, len, cap, hv, hl, hm, hc⟩ := open_recs_c Tryz.underlying23 types_op (Nat.succ_pos _) h
  injection hv with hv
  subst hv
  have hcap : cap ≤ 9223372036854775807 := by unfold maxLen at hm; omega
  rcases hc with hc | ⟨b, o, rfl, hb, hc⟩
  · refine ⟨A, len, cap, [], rfl, ⟨?_, hl, .inl hc⟩, hcap, fun x hx => by cases hx⟩
    simp
    omega
  · have := ops_of_cells (enc := enc) hl hb hc
    exact ⟨_, len, cap, _, rfl, this.1, hcap, this.2⟩
theorem one_row : Tryz.prog.cellsOf 23 = 1 := by kernel_rfl
set_option maxRecDepth 100000 in
/-- rows of ops in a cell that was read -/
theorem open_rows_c {H : Type} {enc : TypeId × Value → H} {W : World} {fuel : Nat} {v : Value} {y : DataW H × List MemPlace} (h : DataW.trod enc Tryz.prog W 0 (fun _ => true) true fuel 33 [v] = some y) :
    ∃ (A : Option Addr) (len cap : Nat) (rows : List (List Ir.Op)), v = .slice A len cap ∧ RowsAt W A len cap rows ∧ cap ≤ 9223372036854775807 ∧ ∀ r ∈ rows, ∀ x ∈ r, OpOk x := by
  obtain ⟨A, len, cap, hv, hl, hm, hc⟩ := open_ones Tryz.underlying33 one_row h
  injection hv with hv
  subst hv
  have hcap : cap ≤ 9223372036854775807 := by unfold maxLen at hm; omega
  rcases hc with hc | ⟨b, o, rfl, hb, hc⟩
  · refine ⟨A, len, cap, [], rfl, ⟨?_, hl, .inl hc⟩, hcap, fun x hx => by cases hx⟩
    simp
    omega
  · have hx : ∀ i, i < len → ∃ l : List Ir.Op, (∃ Ai ci, W.cell? ⟨b, o + i, none⟩ = some (.slice Ai l.length ci) ∧ OpsAt W Ai l.length ci l ∧ ci ≤ 9223372036854775807) ∧ ∀ x ∈ l, OpOk x := fun i hi => by
      obtain ⟨v, y, n, h1, h2⟩ := hc i hi
      obtain ⟨A, len, cap, l, rfl, h3, h4, h5⟩ := open_ops_c h2
      have := h3.len
      subst this
      exact ⟨l, ⟨A, cap, h1, h3, h4⟩, h5⟩
    obtain ⟨f, hf⟩ := Classical.axiomOfChoice (fun i : { i : Nat // i < len } => hx i.1 i.2)
    refine ⟨_, len, cap, (List.range len).pmap (fun i hi => f ⟨i, hi⟩) (fun i hi => List.mem_range.1 hi), rfl, ⟨by simp, hl, .inr ⟨b, o, rfl, hb, fun i hi => ?_⟩⟩, hcap, fun r hr => ?_⟩
    · have e : ((List.range len).pmap (fun i hi => f ⟨i, hi⟩) (fun i hi => List.mem_range.1 hi)).getD i [] = f ⟨i, hi⟩ := by
        rw [List.getD_eq_getElem?_getD, List.getElem?_eq_getElem (by simpa using hi), Option.getD_some, List.getElem_pmap]
        simp
      rw [e]
      exact (hf ⟨i, hi⟩).1
    · obtain ⟨i, hi, rfl⟩ := List.mem_pmap.1 hr
      exact (hf ⟨i, _⟩).2
set_option maxRecDepth 100000 in
/-- ROWS OF OPS THAT CAME IN, to be read -/
theorem open_rows {H : Type} {enc : TypeId × Value → H} {W : World} {base : Nat} {v : Value} {d : DataW H} {ps : List MemPlace}
    (hval : Value.okWide Tryz.prog W .any base 33 v) (h : DataW.Trod enc Tryz.prog W 0 (fun _ => true) true 33 v d ps) :
    ∃ (A : Option Addr) (len cap : Nat) (rows : List (List Ir.Op)), v = .slice A len cap ∧ RowsAt W A len cap rows ∧ cap ≤ 9223372036854775807 ∧ ∀ r ∈ rows, ∀ x ∈ r, OpOk x := by
  obtain ⟨a0, len, cap, rfl⟩ := okWide_slice Tryz.underlying33 hval
  obtain ⟨fuel, hf⟩ := h
  exact open_rows_c (show DataW.trod enc Tryz.prog W 0 (fun _ => true) true fuel 33 [Value.slice a0 len cap] = some _ from hf)
end Go.Proofs.YtknhfobcejpmeaaGreatDoor
