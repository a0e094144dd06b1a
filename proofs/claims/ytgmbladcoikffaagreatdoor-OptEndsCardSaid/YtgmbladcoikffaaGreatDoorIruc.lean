import Derived.Test.YtgmbladcoikffaaGreatDoorStDefs
import Derived.ChangeShapes
import Derived.Test.YtgmbladcoikffaaGreatDoorMem
import Derived.ProofKit
import Derived.OpenShut
import Derived.Test.YtgmbladcoikffaaGreatDoorErr
import Derived.LaidLaws
import Derived.MakeChecks
import Derived.Stop.LaidErr
import Derived.LaidMore
import Derived.Test.YtgmbladcoikffaaGreatDoorIru7
import Derived.Test.YtgmbladcoikffaaGreatDoorFacts
import Derived.Test.YtgmbladcoikffaaGreatDoorIrOps
import Derived.Deep.Slices
import Derived.Deep.Fields
import Derived.Test.YtgmbladcoikffaaGreatDoorIru1
import Derived.LaidHandle

/- OpenStD -/
/- What an argument of type api.State holds. -/
namespace Go.Proofs.YtgmbladcoikffaaGreatDoor
open Go.RowKit Go.Deep
set_option linter.unusedVariables false

def tysSt : List TypeId := (List.replicate 32 22) ++ [22, 22, 22, 22, 4, 22, 22, 22, 22, 22, 3]
theorem cellTypes_state : Tryz.prog.cellTypes Tryz.prog.depth 26 = some tysSt := by kernel_rfl
theorem cellsOf_state : Tryz.prog.cellsOf 26 = 43 := by kernel_rfl
theorem cell_int {P : Program} {w : World} {r : Reach} {base : Nat} {t : TypeId} {k : IntKind} {v : Value} (ht : P.underlying t = some (.int k)) (h : Cell.okWide P w r base t v) : ∃ n, v = .int k n ∧ k.has n := by
  unfold Cell.okWide Cell.ok at h
  rw [ht] at h
  cases v <;> simp_all
theorem cell_bool {P : Program} {w : World} {r : Reach} {base : Nat} {t : TypeId} {v : Value} (ht : P.underlying t = some .bool) (h : Cell.okWide P w r base t v) : ∃ b, v = .bool b := by
  unfold Cell.okWide Cell.ok at h
  rw [ht] at h
  cases v <;> simp_all
set_option maxRecDepth 100000 in
theorem cell_u32 {w : World} {r : Reach} {base : Nat} {v : Value} (h : Cell.okWide Tryz.prog w r base 22 v) : ∃ n, v = .int .u32 n ∧ Cp.W n := by
  obtain ⟨n, h1, h2⟩ := cell_int Tryz.underlying22 h
  refine ⟨n, h1, ?_⟩
  unfold IntKind.has at h2
  have e1 : IntKind.u32.min = 0 := by decide
  have e2 : IntKind.u32.max = 4294967295 := by decide
  rw [e1, e2] at h2
  unfold Cp.W
  omega
def numAt (cs : List Value) (k : Nat) : Int := match cs[k]? with | some (.int _ n) => n | _ => 0
def boolAt (cs : List Value) (k : Nat) : Bool := match cs[k]? with | some (.bool b) => b | _ => false
def stOf (cs : List Value) : Cp.St := ⟨fun k => numAt cs k, numAt cs 32, numAt cs 33, numAt cs 34, numAt cs 35, boolAt cs 36, numAt cs 37, numAt cs 38, numAt cs 39, numAt cs 40, numAt cs 41, numAt cs 42⟩
set_option maxRecDepth 100000 in
theorem open_state {w : World} {r : Reach} {base : Nat} {v : Value} (h : Value.okWide Tryz.prog w r base 26 v) : ∃ s : Cp.St, v = .agg (stL s).toArray ∧ (0 ≤ s.count → s.count < 4611686018427387904 → Cp.Rng s) := by
  unfold Value.okWide at h
  rw [Tryz.underlying26] at h
  obtain ⟨⟨cs⟩, rfl, hsz, ts, hts, _, hall⟩ := h
  rw [cellTypes_state] at hts
  obtain rfl := Option.some.inj hts
  rw [cellsOf_state] at hsz
  have hl : cs.length = 43 := hsz
  have hc : ∀ k (hk : k < 43), ∃ u, tysSt[k]? = some u ∧ Cell.okWide Tryz.prog w r base u (cs[k]'(by omega)) := by
    intro k hk
    obtain ⟨u, h1, h2⟩ := hall k (cs[k]'(by omega)) (by simp [hl, hk])
    rw [show tysSt.length = 43 from rfl, Nat.mod_eq_of_lt hk] at h1
    exact ⟨u, h1, h2⟩
  have hu : ∀ k, k < 43 → k ≠ 36 → k ≠ 42 → cs[k]? = some (.int .u32 (numAt cs k)) ∧ Cp.W (numAt cs k) := by
    intro k hk h36 h42
    obtain ⟨u, h1, h2⟩ := hc k hk
    have : u = 22 := by
      have h3 : ∀ j : Fin 43, j.val ≠ 36 → j.val ≠ 42 → tysSt[j.val]? = some 22 := by decide
      have := h3 ⟨k, hk⟩ h36 h42
      rw [this] at h1
      exact (Option.some.inj h1).symm
    subst this
    obtain ⟨n, h3, h4⟩ := cell_u32 h2
    have h5 : cs[k]? = some (.int .u32 n) := by rw [List.getElem?_eq_getElem (by omega), h3]
    have h6 : numAt cs k = n := by unfold numAt; rw [h5]
    rw [h6]
    exact ⟨h5, h4⟩
  have h36 : cs[36]? = some (.bool (boolAt cs 36)) := by
    obtain ⟨u, h1, h2⟩ := hc 36 (by omega)
    obtain rfl : 4 = u := Option.some.inj h1
    obtain ⟨b, h3⟩ := cell_bool Tryz.underlying4 h2
    have h5 : cs[36]? = some (.bool b) := by rw [List.getElem?_eq_getElem (by omega), h3]
    have h6 : boolAt cs 36 = b := by unfold boolAt; rw [h5]
    rw [h6]
    exact h5
  have h42 : cs[42]? = some (.int .i64 (numAt cs 42)) := by
    obtain ⟨u, h1, h2⟩ := hc 42 (by omega)
    obtain rfl : 3 = u := Option.some.inj h1
    obtain ⟨n, h3, _⟩ := cell_int Tryz.underlying3 h2
    have h5 : cs[42]? = some (.int .i64 n) := by rw [List.getElem?_eq_getElem (by omega), h3]
    have h6 : numAt cs 42 = n := by unfold numAt; rw [h5]
    rw [h6]
    exact h5
  refine ⟨stOf cs, ?_, fun c1 c2 => ⟨fun k hk => (hu k (by omega) (by omega) (by omega)).2, (hu 32 (by omega) (by omega) (by omega)).2, (hu 33 (by omega) (by omega) (by omega)).2, (hu 34 (by omega) (by omega) (by omega)).2, (hu 35 (by omega) (by omega) (by omega)).2, (hu 37 (by omega) (by omega) (by omega)).2, (hu 38 (by omega) (by omega) (by omega)).2, (hu 39 (by omega) (by omega) (by omega)).2, (hu 40 (by omega) (by omega) (by omega)).2, (hu 41 (by omega) (by omega) (by omega)).2, c1, c2⟩⟩
  congr 2
  apply List.ext_getElem?
  intro i
  by_cases hi : i < 32
  · unfold stL
    rw [List.getElem?_append_left (by rw [regs_len]; exact hi), (hu i (by omega) (by omega) (by omega)).1]
    simp [regs, hi, stOf]
  · by_cases h43 : 43 ≤ i
    · rw [List.getElem?_eq_none (by omega), List.getElem?_eq_none (by rw [show (stL (stOf cs)).length = 43 by simp [stL, regs, restC]]; omega)]
    · unfold stL
      rw [List.getElem?_append_right (by rw [regs_len]; omega), regs_len]
      have hi2 : i = 32 ∨ i = 33 ∨ i = 34 ∨ i = 35 ∨ i = 36 ∨ i = 37 ∨ i = 38 ∨ i = 39 ∨ i = 40 ∨ i = 41 ∨ i = 42 := by omega
      rcases hi2 with rfl | rfl | rfl | rfl | rfl | rfl | rfl | rfl | rfl | rfl | rfl
      all_goals first
        | exact h36
        | exact h42
        | exact (hu _ (by decide) (by decide) (by decide)).1
end Go.Proofs.YtgmbladcoikffaaGreatDoor

/- Frame -/
/- The frame of every law: what reads before the call reads so behind it, where nothing below the heap's old size has turned; how words that come in are opened. No program in sight but its tables. -/
namespace Go.Proofs.YtgmbladcoikffaaGreatDoor
open Go.ChangeShapes Go.WideShapes Go.ChangeAt Go.RowKit
set_option linter.unusedVariables false

theorem trodAll_stays {H : Type} {enc : TypeId × Value → H} {P : Program} (hl : laidOutB P = true) {W W' : World} (hb : Below W.heap.size W W') :
    ∀ (ts : List TypeId) (vs : List Value) (ds : List (DataW H)) (ps : List MemPlace), (∀ t ∈ ts, P.readableRec t = true ∧ t < P.types.size) → (∀ x ∈ ps, x.block < W.heap.size) →
      DataW.TrodAll enc P W 0 (fun _ => true) true ts vs ds ps → DataW.TrodAll enc P W' 0 (fun b => decide (b < W.heap.size)) true ts vs ds ps
  | [], vs, ds, ps, _, _, h => by
    obtain ⟨rfl, rfl, rfl⟩ := trodAll_nil h
    exact trodAll_mk0
  | t :: ts, vs, ds, ps, hts, hlt, h => by
    obtain ⟨v, vs', d, ds', p, q, rfl, rfl, rfl, h0, r0⟩ := trodAll_cons h
    obtain ⟨h1, h2⟩ := hts t (by simp)
    exact trodAll_cons_mk (Below.trod hl h1 h2 h0 hb (fun x hx => hlt x (by simp [hx])))
      (trodAll_stays hl hb ts vs' ds' q (fun u hu => hts u (by simp [hu])) (fun x hx => hlt x (by simp [hx])) r0)

/-- a law's end: true, and its arguments as they were -/
theorem law_post {H : Type} {enc : TypeId × Value → H} {P : Program} {f : Func} {s : ChangeSpec} {W W' : World} {args : Array Value} {ds gs : List (DataW H)} {before : List MemPlace} {tb : TypeId}
    (hl : laidOutB P = true) (hts : ∀ t ∈ f.params.toList, P.readableRec t = true ∧ t < P.types.size) (hres : f.resultTypes = #[tb]) (htb : P.underlying tb = some .bool) (hv : s.vars = [])
    (hW : DataW.Whole enc P f.params.toList s.vars false W args.toList ds gs before) (hs : s.fn H (ds ++ gs) = { results := [.lit (.bool true)], args := ds }) (hb : Below W.heap.size W W') :
    s.post enc P f false true false false W args (.bool true) W' := by
  have hW' := hW
  obtain ⟨p, q, hA, hV, rfl, hfz, hnd⟩ := hW
  have hlt : ∀ x ∈ p ++ q, x.block < W.heap.size := fun x hx => hW'.lt x hx
  refine ⟨ds, gs, p ++ q, [], p, [], hW', ?_, ?_, ?_, hb.frame _, fun h => by cases h⟩
  · rw [hs, hres]; exact trodAll_mk1 (shut_bool htb true)
  · rw [hs]; exact trodAll_stays hl hb _ _ _ _ hts (fun x hx => hlt x (by simp [hx])) hA
  · rw [hs, hv]; rfl

/-- what is written of a word: it lies in its bounds -/
theorem rng_u32 {a : Int} (h : (Lit.int .u32 a).wf = true) : 0 ≤ a ∧ a < 4294967296 := by
  simp [Lit.wf, IntKind.min, IntKind.max, IntKind.signed, IntKind.bits] at h; omega

/-- WORDS THAT CAME IN, to be read -/
theorem open_words {H : Type} {enc : TypeId × Value → H} {P : Program} {W : World} {base : Nat} {ts te : TypeId} {v : Value} {d : DataW H} {ps : List MemPlace} (ht : P.underlying ts = some (.slice te)) (he : P.underlying te = some (.int .u32)) (hc : P.cellsOf te = 1)
    (hval : Value.okWide P W .any base ts v) (h : DataW.Trod enc P W 0 (fun _ => true) true ts v d ps) (hlt : ∀ x ∈ ps, x.block < W.heap.size) :
    ∃ (A : Option Addr) (len cap : Nat) (ws : Nat → Int), v = .slice A len cap ∧ Reads W A len cap (fun i => .int .u32 (ws i)) ∧ cap ≤ maxLen ∧ ∀ i, i < len → 0 ≤ ws i ∧ ws i < 4294967296 := by
  obtain ⟨a0, len, cap, rfl⟩ := okWide_slice ht hval
  obtain ⟨fuel, hf⟩ := h
  rcases open_ints ht he hc hf with ⟨hcs, hx⟩ | ⟨a, len', cap', zs, hcs, _, hl, hm, hz, hx, hcell, hwz⟩
  · simp [Value.cells] at hcs
    obtain ⟨rfl, rfl, rfl⟩ := hcs
    exact ⟨none, 0, 0, fun _ => 0, rfl, ⟨Nat.le_refl _, .inl rfl⟩, Nat.zero_le _, fun i hi => by omega⟩
  · simp [Value.cells] at hcs
    obtain ⟨rfl, rfl, rfl⟩ := hcs
    simp only [if_true] at hz
    obtain ⟨b, off, spot⟩ := a
    have hws : ∀ i, i < len → 0 ≤ zs.getD i 0 ∧ zs.getD i 0 < 4294967296 := by
      intro i hi
      have hlt : i < zs.length := by omega
      have e : zs.getD i 0 = zs[i] := by simp [List.getD, hlt]
      have hm := hwz zs[i] (List.getElem_mem _)
      rw [e]
      simp [Lit.wf, IntKind.min, IntKind.max, IntKind.signed, IntKind.bits] at hm
      omega
    by_cases h0 : cap = 0
    · exact ⟨some ⟨b, off, spot⟩, len, cap, fun _ => 0, rfl, ⟨hl, .inl h0⟩, hm, fun i hi => by omega⟩
    · have hspot : spot = none := by simpa [Addr.add] using World.cell?_spot (hcell 0 (by omega))
      subst hspot
      refine ⟨some ⟨b, off, none⟩, len, cap, fun i => zs.getD i 0, rfl, ⟨hl, .inr ⟨b, off, rfl, ?_, fun i hi => ?_⟩⟩, hm, hws⟩
      · have := World.block_lt_of_cell? W _ (hcell 0 (by omega))
        simpa [Addr.add] using this
      · have := hcell i (by omega)
        simpa [Addr.add_lit] using this
end Go.Proofs.YtgmbladcoikffaaGreatDoor

/- Sent -/
/- What the row's list of errors gives the walks: each variable's cell. -/
namespace Go.Proofs.YtgmbladcoikffaaGreatDoor
open Go.ChangeShapes Go.WideShapes Go.RowKit
set_option linter.unusedVariables false

theorem Tryz.own : ownKnob Tryz.prog.godebug = none := by kernel_rfl
theorem Tryz.laidOut : laidOutB Tryz.prog = true := by kernel_rfl
theorem Tryz.cells_str : Tryz.prog.cellsOf 9 = 1 := by kernel_rfl
theorem Tryz.cells_es : Tryz.prog.cellsOf 257 = 1 := by kernel_rfl
theorem Tryz.cells_u32 : Tryz.prog.cellsOf 22 = 1 := by kernel_rfl
theorem Tryz.rowES (u : TypeId) (h : Tryz.prog.typeName? 3 u = some "*errors.errorString") : u = 236 :=
  typeName_ptr_named (nm := "errors.errorString") (by kernel_rfl) (by kernel_rfl) (by decide) u h
theorem Tryz.gShape : Tryz.prog.globalNamed "changeling/api.ErrShape" = some 2 := by kernel_rfl
theorem Tryz.gAlign : Tryz.prog.globalNamed "changeling/api.ErrAlign" = some 3 := by kernel_rfl
theorem Tryz.gFar : Tryz.prog.globalNamed "changeling/api.ErrFar" = some 9 := by kernel_rfl
theorem Tryz.tShape : (Tryz.prog.globals[2]?).map (·.type) = some 42 := by kernel_rfl
theorem Tryz.tAlign : (Tryz.prog.globals[3]?).map (·.type) = some 42 := by kernel_rfl
theorem Tryz.tFar : (Tryz.prog.globals[9]?).map (·.type) = some 42 := by kernel_rfl

/-- one listed error: its variable's cell -/
theorem sentinel_cell {n : String} {text : List UInt8} {r : List (String × DataW Unit)} {W : World} {g : Nat}
    (h : laidMet Tryz.prog ((n, .iface "*errors.errorString" (.ptr (.agg [.lit (.string text)]))) :: r) W) (hg : Tryz.prog.globalNamed n = some g) (ht : (Tryz.prog.globals[g]?).map (·.type) = some 42) :
    ∃ a : Addr, W.cell? ⟨g, 0, none⟩ = some (.iface 236 (.pointer (some a))) := by
  obtain ⟨a, s, hv, _⟩ := laid_sentinel h hg ht Tryz.underlying42 Tryz.rowES Tryz.underlying236 Tryz.underlying257 rfl rfl Tryz.underlying9 Tryz.cells_es Tryz.cells_str
  exact ⟨a, by simpa using World.var?_cell hg hv 0⟩

theorem errs3 {W : World} (h : laidMetH Tryz.prog [("changeling/api.ErrShape", Rows.laid_changeling_api_ErrShape), ("changeling/api.ErrAlign", Rows.laid_changeling_api_ErrAlign), ("changeling/api.ErrFar", Rows.laid_changeling_api_ErrFar)] W) : ∃ ea, Errs3 W ea := by
  rw [MakeChecks.laidMetH_plain _ _ _ (by kernel_rfl)] at h
  obtain ⟨a3, h3⟩ := sentinel_cell h Tryz.gShape Tryz.tShape
  obtain ⟨a9, h9⟩ := sentinel_cell h.tail Tryz.gAlign Tryz.tAlign
  obtain ⟨a10, h10⟩ := sentinel_cell h.tail.tail Tryz.gFar Tryz.tFar
  exact ⟨fun c => if c = 3 then a3 else if c = 9 then a9 else a10, h3, h9, h10⟩
end Go.Proofs.YtgmbladcoikffaaGreatDoor

/- OpenPlace -/
/- What an argument of type Place holds. -/
namespace Go.Proofs.YtgmbladcoikffaaGreatDoor
open Go.ChangeShapes Go.WideShapes Go.ChangeAt Go.RowKit Go.Deep
set_option linter.unusedVariables false

theorem cellTypes_place : Tryz.prog.cellTypes Tryz.prog.depth 29 = some (tysSt ++ [27, 3]) := by kernel_rfl
theorem cellsOf_place : Tryz.prog.cellsOf 29 = 45 := by kernel_rfl
theorem cellsOf_words : Tryz.prog.cellsOf 27 = 1 := by kernel_rfl
theorem fields_place : ∃ fs, Tryz.prog.underlying 29 = some (.struct fs) ∧ (fs[1]?).map (fun f => (f.type, f.offset)) = some (27, 43) :=
  ⟨_, Tryz.underlying29, by kernel_rfl⟩
theorem tysSt_len : tysSt.length = 43 := rfl
set_option maxRecDepth 100000 in
theorem open_place {H : Type} {enc : TypeId × Value → H} {W : World} {base : Nat} {v : Value} {d : DataW H} {ps : List MemPlace}
    (hval : Value.okWide Tryz.prog W .any base 29 v) (h : DataW.Trod enc Tryz.prog W 0 (fun _ => true) true 29 v d ps) (hlt : ∀ x ∈ ps, x.block < W.heap.size) :
    ∃ (s : Cp.St) (A : Option Addr) (n cap : Nat) (page : Int) (ws : Nat → Int), v = .agg (placeL s A n cap page).toArray ∧ Reads W A n cap (fun i => .int .u32 (ws i)) ∧ cap ≤ 9223372036854775807 ∧ (∀ i, i < n → 0 ≤ ws i ∧ ws i < 4294967296) ∧ (0 ≤ s.count → s.count < 4611686018427387904 → Cp.Rng s) := by
  obtain ⟨fs, hfs, hf1⟩ := fields_place
  unfold Value.okWide at hval
  rw [hfs] at hval
  obtain ⟨⟨cs⟩, rfl, hsz, ts, hts, hne, hall⟩ := hval
  rw [cellTypes_place] at hts
  obtain rfl := Option.some.inj hts
  rw [cellsOf_place] at hsz
  have hl : cs.length = 45 := hsz
  have hS : Value.okWide Tryz.prog W .any base 26 (.agg (cs.take 43).toArray) := by
    unfold Value.okWide
    rw [Tryz.underlying26]
    refine ⟨_, rfl, by rw [cellsOf_state, List.size_toArray, List.length_take]; omega, tysSt, cellTypes_state, ⟨1, by rw [tysSt_len, List.size_toArray, List.length_take]; omega⟩, fun k c hk => ?_⟩
    have hk' : (cs.take 43)[k]? = some c := by simpa using hk
    have hk43 : k < 43 := by
      have := (List.getElem?_eq_some_iff.1 hk').1
      rw [List.length_take] at this
      omega
    rw [List.getElem?_take, if_pos hk43] at hk'
    obtain ⟨u, h1, h2⟩ := hall k c (by simpa using hk')
    have e1 : (tysSt ++ [27, 3]).length = 45 := rfl
    have e2 : k % 45 = k := Nat.mod_eq_of_lt (by omega)
    rw [e1, e2, List.getElem?_append_left (by rw [tysSt_len]; exact hk43)] at h1
    exact ⟨u, by rw [tysSt_len, Nat.mod_eq_of_lt hk43]; exact h1, h2⟩
  obtain ⟨s, hs, hrng⟩ := open_state hS
  have hs' : cs.take 43 = stL s := by
    injection hs with hs
    have := congrArg Array.toList hs
    simpa using this
  obtain ⟨u43, h1, h2⟩ := hall 43 (cs[43]'(by omega)) (by simp [hl])
  obtain rfl : 27 = u43 := Option.some.inj h1
  obtain ⟨u44, h3, h4⟩ := hall 44 (cs[44]'(by omega)) (by simp [hl])
  obtain rfl : 3 = u44 := Option.some.inj h3
  obtain ⟨page, hp, _⟩ := cell_int Tryz.underlying3 h4
  obtain ⟨fuel, hf⟩ := h
  obtain ⟨xs, n, _, hx, _, hxn, hg⟩ := DataW.trod_struct hfs hf
  obtain ⟨f, hfe, hft⟩ := Option.map_eq_some_iff.1 hf1
  have h5 := hg 1 f hfe
  injection hft with e1 e2
  rw [e1, e2, cellsOf_words] at h5
  have h6 : (cs.drop 43).take 1 = [cs[43]'(by omega)] := by
    rw [List.drop_eq_getElem_cons (by omega)]
    rfl
  have hcs : cs = stL s ++ [cs[43]'(by omega), cs[44]'(by omega)] := by
    rw [← hs']
    apply List.ext_getElem?
    intro k
    by_cases h43 : k < 43
    · rw [List.getElem?_append_left (by rw [List.length_take]; omega), List.getElem?_take, if_pos h43]
    · rw [List.getElem?_append_right (by rw [List.length_take]; omega), List.length_take, show min 43 cs.length = 43 by omega]
      by_cases h44 : k = 43
      · subst h44
        rw [List.getElem?_eq_getElem (by omega)]
        rfl
      · by_cases h45 : k = 44
        · subst h45
          rw [List.getElem?_eq_getElem (by omega)]
          rfl
        · rw [List.getElem?_eq_none (by omega), List.getElem?_eq_none (by simp; omega)]
  generalize cs[43]'(by omega) = c43 at *
  generalize cs[44]'(by omega) = c44 at *
  subst hp
  have hval43 : Value.okWide Tryz.prog W .any base 27 c43 := by
    unfold Value.okWide
    rw [Tryz.underlying27]
    exact h2
  obtain ⟨a0, l0, k0, rfl⟩ := okWide_slice Tryz.underlying27 hval43
  change DataW.trod enc Tryz.prog W 0 (fun _ => true) true n 27 ((cs.drop 43).take 1) = xs[1]? at h5
  rw [h6] at h5
  have hx1 : 1 < xs.length := by
    have := (Array.getElem?_eq_some_iff.1 hfe).1
    omega
  rw [List.getElem?_eq_getElem hx1] at h5
  have hps : ∀ y ∈ (xs[1]).2, y.block < W.heap.size := fun y hy => hlt y (by
    injection hx with _ hx
    rw [hx]
    exact List.mem_flatMap.2 ⟨_, List.getElem_mem hx1, hy⟩)
  obtain ⟨A, len, cap, ws, hv, hR, hcm, hr⟩ := open_words (d := (xs[1]).1) (ps := (xs[1]).2) Tryz.underlying27 Tryz.underlying22 Tryz.cells_u32 hval43 ⟨n, h5⟩ hps
  rw [hv] at hcs
  refine ⟨s, A, len, cap, page, ws, ?_, hR, by unfold maxLen at hcm; omega, hr, hrng⟩
  rw [hcs]
  rfl
end Go.Proofs.YtgmbladcoikffaaGreatDoor

/- OpenOps -/
/- Records that came in, opened to cells; ops that came in. -/
namespace Go.Proofs.YtgmbladcoikffaaGreatDoor
open Go.ChangeShapes Go.WideShapes Go.ChangeAt Go.RowKit Go.Deep
set_option linter.unusedVariables false

/-- a record's field, read from the one cell it has -/
theorem field_read {H : Type} {enc : TypeId × Value → H} {P : Program} {W : World} {te : TypeId} {fs : Array Field} {fuel base : Nat} {spare : Nat → Bool} {held : Bool} {cs : List Value} {x : DataW H × List MemPlace}
    (he : P.underlying te = some (.struct fs)) (hone : oneCellFields P fs = true) (hC : P.cellsOf te = fs.size) (h : DataW.trod enc P W base spare held fuel te cs = some x) (j : Nat) (f : Field) (hj : fs[j]? = some f) :
    ∃ v y n, cs[j]? = some v ∧ DataW.trod enc P W base spare held n f.type [v] = some y := by
  obtain ⟨xs, n, _, _, hlen, hxl, hg⟩ := DataW.trod_struct he h
  obtain ⟨ho, hk⟩ := hone_of hone j f hj
  have hjl : j < fs.size := (Array.getElem?_eq_some_iff.1 hj).1
  have hjc : j < cs.length := by omega
  have h1 := hg j f hj
  rw [ho, hk, List.drop_eq_getElem_cons hjc, List.getElem?_eq_getElem (by omega)] at h1
  exact ⟨cs[j], _, n, List.getElem?_eq_getElem hjc, h1⟩

theorem open_recs {H : Type} {enc : TypeId × Value → H} {P : Program} {W : World} {base : Nat} {ts te : TypeId} {fs : Array Field} {v : Value} {d : DataW H} {ps : List MemPlace} (ht : P.underlying ts = some (.slice te)) (he : P.underlying te = some (.struct fs))
    (hone : oneCellFields P fs = true) (hC : P.cellsOf te = fs.size) (h0 : 0 < fs.size) (hval : Value.okWide P W .any base ts v) (h : DataW.Trod enc P W 0 (fun _ => true) true ts v d ps) :
    ∃ (A : Option Addr) (len cap : Nat), v = .slice A len cap ∧ len ≤ cap ∧ cap ≤ maxLen ∧ (cap = 0 ∨ ∃ b o, A = some ⟨b, o, none⟩ ∧ b < W.heap.size ∧
      ∀ i, i < len → ∀ j f, fs[j]? = some f → ∃ v y n, W.cell? ⟨b, o + i * fs.size + j, none⟩ = some v ∧ DataW.trod enc P W 0 (fun _ => true) true n f.type [v] = some y) := by
  obtain ⟨a0, len, cap, rfl⟩ := okWide_slice ht hval
  obtain ⟨fuel, hf⟩ := h
  rcases open_slice ht hf with ⟨hcs, _⟩ | ⟨a, len', cap', m, n, D, Pl, hcs, hb, hl, hm, hmm, hx, hi⟩
  · simp [Value.cells] at hcs
    obtain ⟨rfl, rfl, rfl⟩ := hcs
    exact ⟨none, 0, 0, rfl, Nat.le_refl _, Nat.zero_le _, .inl rfl⟩
  · simp [Value.cells] at hcs
    obtain ⟨rfl, rfl, rfl⟩ := hcs
    simp only [if_true] at hmm
    subst hmm
    refine ⟨some a, len, m, rfl, hl, hm, ?_⟩
    by_cases hc0 : m = 0
    · exact .inl hc0
    · right
      obtain ⟨b, off, spot⟩ := a
      have hfl : ∀ i, i < m → ∀ j f, fs[j]? = some f → ∃ v y n, W.cell? (((⟨b, off, spot⟩ : Addr).add (i * fs.size)).add j) = some v ∧ DataW.trod enc P W 0 (fun _ => true) true n f.type [v] = some y := by
        intro i him j f hj
        obtain ⟨cs', hc, ht'⟩ := hi i him
        rw [hC] at hc
        obtain ⟨_, hcl, hat⟩ := World.cells?_some hc
        obtain ⟨v, y, n', hv, hy⟩ := field_read he hone hC ht' j f hj
        exact ⟨v, y, n', (hat j (Array.getElem?_eq_some_iff.1 hj).1).trans hv, hy⟩
      obtain ⟨f0, hf0⟩ : ∃ f, fs[0]? = some f := ⟨fs[0], Array.getElem?_eq_getElem h0⟩
      obtain ⟨v0, _, _, hc00, _⟩ := hfl 0 (by omega) 0 f0 hf0
      have hspot : spot = none := by simpa [Addr.add] using World.cell?_spot hc00
      subst hspot
      refine ⟨b, off, rfl, by simpa [Addr.add] using World.block_lt_of_cell? W _ hc00, fun i hil j f hj => ?_⟩
      obtain ⟨v, y, n', h1, h2⟩ := hfl i (by omega) j f hj
      rw [Addr.add_lit, Addr.add_lit] at h1
      exact ⟨v, y, n', h1, h2⟩

/-- the types of a struct's fields, each of one cell -/
def structTypes (P : Program) (t : TypeId) : Option (List TypeId) :=
  match P.underlying t with
  | some (.struct fs) => if oneCellFields P fs = true ∧ P.cellsOf t = fs.size then some (fs.toList.map (·.type)) else none
  | _ => none
theorem structTypes_some {P : Program} {t : TypeId} {ts : List TypeId} (h : structTypes P t = some ts) : ∃ fs : Array Field, P.underlying t = some (.struct fs) ∧ oneCellFields P fs = true ∧ P.cellsOf t = fs.size ∧ fs.size = ts.length ∧ ∀ (j : Nat) (ty : TypeId), ts[j]? = some ty → ∃ f : Field, fs[j]? = some f ∧ f.type = ty := by
  unfold structTypes at h
  split at h
  · rename_i fs hu
    split at h
    · rename_i hc
      injection h with h
      subst h
      refine ⟨fs, hu, hc.1, hc.2, by rw [List.length_map, Array.length_toList], fun j ty hj => ?_⟩
      rw [List.getElem?_map, Array.getElem?_toList] at hj
      obtain ⟨f, h1, h2⟩ := Option.map_eq_some_iff.1 hj
      exact ⟨f, h1, h2⟩
    · cases h
  · cases h
theorem open_recs' {H : Type} {enc : TypeId × Value → H} {P : Program} {W : World} {base : Nat} {ts te : TypeId} {tys : List TypeId} {v : Value} {d : DataW H} {ps : List MemPlace} (ht : P.underlying ts = some (.slice te)) (he : structTypes P te = some tys)
    (h0 : 0 < tys.length) (hval : Value.okWide P W .any base ts v) (h : DataW.Trod enc P W 0 (fun _ => true) true ts v d ps) :
    ∃ (A : Option Addr) (len cap : Nat), v = .slice A len cap ∧ len ≤ cap ∧ cap ≤ maxLen ∧ (cap = 0 ∨ ∃ b o, A = some ⟨b, o, none⟩ ∧ b < W.heap.size ∧
      ∀ i, i < len → ∀ j ty, tys[j]? = some ty → ∃ v y n, W.cell? ⟨b, o + i * tys.length + j, none⟩ = some v ∧ DataW.trod enc P W 0 (fun _ => true) true n ty [v] = some y) := by
  obtain ⟨fs, h1, h2, h3, h4, h5⟩ := structTypes_some he
  obtain ⟨A, len, cap, hv, hl, hm, hc⟩ := open_recs ht h1 h2 h3 (by omega) hval h
  refine ⟨A, len, cap, hv, hl, hm, ?_⟩
  rcases hc with hc | ⟨b, o, hA, hb, hc⟩
  · exact .inl hc
  · refine .inr ⟨b, o, hA, hb, fun i hi j ty hj => ?_⟩
    obtain ⟨f, hf, rfl⟩ := h5 j ty hj
    have := hc i hi j f hf
    rwa [h4] at this

theorem types_op : structTypes Tryz.prog 85 = some [9, 3, 3, 3, 22, 3] := by kernel_rfl

/-- an int field, a bool field -/
def gInt (w : World) (b o : Nat) : Int := match w.cell? ⟨b, o, none⟩ with
  | some (.int _ n) => n
  | _ => 0
def gBool (w : World) (b o : Nat) : Bool := match w.cell? ⟨b, o, none⟩ with
  | some (.bool n) => n
  | _ => false
theorem fld_int {H : Type} {enc : TypeId × Value → H} {P : Program} {W : World} {b o n : Nat} {ty : TypeId} {k : IntKind} {v : Value} {y : DataW H × List MemPlace} (ht : P.underlying ty = some (.int k)) (hc : W.cell? ⟨b, o, none⟩ = some v)
    (h : DataW.trod enc P W 0 (fun _ => true) true n ty [v] = some y) : W.cell? ⟨b, o, none⟩ = some (.int k (gInt W b o)) ∧ (Lit.int k (gInt W b o)).wf = true := by
  obtain ⟨z, hz, _, hw⟩ := DataW.trod_int ht h
  injection hz with hz
  subst hz
  have : gInt W b o = z := by rw [gInt, hc]
  rw [this]
  exact ⟨hc, hw⟩
theorem fld_bool {H : Type} {enc : TypeId × Value → H} {P : Program} {W : World} {b o n : Nat} {ty : TypeId} {v : Value} {y : DataW H × List MemPlace} (ht : P.underlying ty = some .bool) (hc : W.cell? ⟨b, o, none⟩ = some v)
    (h : DataW.trod enc P W 0 (fun _ => true) true n ty [v] = some y) : W.cell? ⟨b, o, none⟩ = some (.bool (gBool W b o)) := by
  obtain ⟨z, hz, _⟩ := DataW.trod_bool ht h
  injection hz with hz
  subst hz
  rw [gBool, hc]

def gStr (w : World) (b o : Nat) : ByteArray := match w.cell? ⟨b, o, none⟩ with
  | some (.string n) => n
  | _ => ByteArray.empty
theorem fld_str {H : Type} {enc : TypeId × Value → H} {P : Program} {W : World} {b o n : Nat} {ty : TypeId} {v : Value} {y : DataW H × List MemPlace} (ht : P.underlying ty = some .string) (hc : W.cell? ⟨b, o, none⟩ = some v)
    (h : DataW.trod enc P W 0 (fun _ => true) true n ty [v] = some y) : W.cell? ⟨b, o, none⟩ = some (.string (gStr W b o)) := by
  obtain ⟨z, hz, _⟩ := DataW.trod_string ht h
  injection hz with hz
  subst hz
  rw [gStr, hc]
theorem rng_int {a : Int} (h : (Lit.int .i64 a).wf = true) : i64R a := by
  have h1 := h
  simp [Lit.wf] at h1
  exact h1
/-- an op that lies there -/
def gOp (w : World) (b o : Nat) : Ir.Op := ⟨gStr w b o, gInt w b (o + 1), gInt w b (o + 2), gInt w b (o + 3), gInt w b (o + 4), gInt w b (o + 5)⟩
def gOps (w : World) (b o n : Nat) : List Ir.Op := (List.range n).map fun i => gOp w b (o + i * 6)
theorem gOps_get (w : World) (b o n i : Nat) (h : i < n) : (gOps w b o n).getD i Ir.nop = gOp w b (o + i * 6) := by
  unfold gOps
  rw [List.getD_eq_getElem?_getD, List.getElem?_map, List.getElem?_range h]
  rfl
theorem gOps_len (w : World) (b o n : Nat) : (gOps w b o n).length = n := by simp [gOps]

set_option maxRecDepth 100000 in
/-- what a slice's cells of type Op give -/
theorem ops_of_cells {H : Type} {enc : TypeId × Value → H} {W : World} {b o len cap : Nat} (hl : len ≤ cap) (hb : b < W.heap.size)
    (hc : ∀ i, i < len → ∀ j ty, [9, 3, 3, 3, 22, 3][j]? = some ty → ∃ v y n, W.cell? ⟨b, o + i * 6 + j, none⟩ = some v ∧ DataW.trod enc Tryz.prog W 0 (fun _ => true) true n ty [v] = some y) :
    OpsAt W (some ⟨b, o, none⟩) len cap (gOps W b o len) ∧ ∀ x ∈ gOps W b o len, OpOk x := by
  have f0 : ∀ i, i < len → W.cell? ⟨b, o + i * 6 + 0, none⟩ = some (.string (gStr W b (o + i * 6 + 0))) := fun i hi => by
    obtain ⟨v, y, n, h1, h2⟩ := hc i hi 0 _ rfl
    exact fld_str Tryz.underlying9 h1 h2
  have f1 : ∀ i, i < len → W.cell? ⟨b, o + i * 6 + 1, none⟩ = some (.int .i64 (gInt W b (o + i * 6 + 1))) ∧ _ := fun i hi => by
    obtain ⟨v, y, n, h1, h2⟩ := hc i hi 1 _ rfl
    exact fld_int Tryz.underlying3 h1 h2
  have f2 : ∀ i, i < len → W.cell? ⟨b, o + i * 6 + 2, none⟩ = some (.int .i64 (gInt W b (o + i * 6 + 2))) ∧ _ := fun i hi => by
    obtain ⟨v, y, n, h1, h2⟩ := hc i hi 2 _ rfl
    exact fld_int Tryz.underlying3 h1 h2
  have f3 : ∀ i, i < len → W.cell? ⟨b, o + i * 6 + 3, none⟩ = some (.int .i64 (gInt W b (o + i * 6 + 3))) ∧ _ := fun i hi => by
    obtain ⟨v, y, n, h1, h2⟩ := hc i hi 3 _ rfl
    exact fld_int Tryz.underlying3 h1 h2
  have f4 : ∀ i, i < len → W.cell? ⟨b, o + i * 6 + 4, none⟩ = some (.int .u32 (gInt W b (o + i * 6 + 4))) ∧ _ := fun i hi => by
    obtain ⟨v, y, n, h1, h2⟩ := hc i hi 4 _ rfl
    exact fld_int Tryz.underlying22 h1 h2
  have f5 : ∀ i, i < len → W.cell? ⟨b, o + i * 6 + 5, none⟩ = some (.int .i64 (gInt W b (o + i * 6 + 5))) ∧ _ := fun i hi => by
    obtain ⟨v, y, n, h1, h2⟩ := hc i hi 5 _ rfl
    exact fld_int Tryz.underlying3 h1 h2
  refine ⟨⟨gOps_len _ _ _ _, hl, .inr ⟨b, o, rfl, hb, fun i hi => ?_⟩⟩, fun x hx => ?_⟩
  · rw [gOps_get W b o len i hi]
    exact ⟨f0 i hi, (f1 i hi).1, (f2 i hi).1, (f3 i hi).1, (f4 i hi).1, (f5 i hi).1⟩
  · unfold gOps at hx
    obtain ⟨i, hi, rfl⟩ := List.mem_map.1 hx
    have hi := List.mem_range.1 hi
    have h4 := rng_u32 (f4 i hi).2
    exact ⟨rng_int (f1 i hi).2, rng_int (f2 i hi).2, rng_int (f3 i hi).2, ⟨h4.1, Int.le_of_lt_add_one h4.2⟩, rng_int (f5 i hi).2⟩
set_option maxRecDepth 100000 in
/-- OPS THAT CAME IN, to be read -/
theorem open_ops {H : Type} {enc : TypeId × Value → H} {W : World} {base : Nat} {v : Value} {d : DataW H} {ps : List MemPlace}
    (hval : Value.okWide Tryz.prog W .any base 23 v) (h : DataW.Trod enc Tryz.prog W 0 (fun _ => true) true 23 v d ps) :
    ∃ (A : Option Addr) (len cap : Nat) (l : List Ir.Op), v = .slice A len cap ∧ OpsAt W A len cap l ∧ cap ≤ 9223372036854775807 ∧ ∀ x ∈ l, OpOk x := by
  obtain ⟨A, len, cap, rfl, hl, hm, hc⟩ := open_recs' Tryz.underlying23 types_op (Nat.succ_pos _) hval h
  have hcap : cap ≤ 9223372036854775807 := by unfold maxLen at hm; omega
  rcases hc with hc | ⟨b, o, rfl, hb, hc⟩
  · refine ⟨A, len, cap, [], rfl, ⟨?_, hl, .inl hc⟩, hcap, fun x hx => by cases hx⟩
    simp
    omega
  · have := ops_of_cells (enc := enc) hl hb hc
    exact ⟨_, len, cap, _, rfl, this.1, hcap, this.2⟩
end Go.Proofs.YtgmbladcoikffaaGreatDoor

/- SentAll -/
/- What the row's list of the ten errors and of errors.errorType gives the walks. -/
namespace Go.Proofs.YtgmbladcoikffaaGreatDoor
open Go.ChangeShapes Go.WideShapes Go.RowKit
set_option linter.unusedVariables false

/-- one listed error: its variable, its text, its block -/
theorem laid_errP {P : Program} {n nm : String} {text : List UInt8} {r : List (String × DataW Unit)} {W : World} {g : Nat} {ti tp te ts : TypeId} {ms : Array (String × TypeId)} {f : Field}
    (h : laidMet P ((n, .iface nm (.ptr (.agg [.lit (.string text)]))) :: r) W)
    (hg : P.globalNamed n = some g) (ht : (P.globals[g]?).map (·.type) = some ti) (hi : P.underlying ti = some (.interface ms)) (hrow : ∀ u, P.typeName? 3 u = some nm → u = tp)
    (hp : P.underlying tp = some (.pointer te)) (he : P.underlying te = some (.struct #[f])) (hft : f.type = ts) (hfo : f.offset = 0) (hs : P.underlying ts = some .string) (hc : P.cellsOf te = 1) (hcs : P.cellsOf ts = 1) :
    ∃ (a : Addr) (s : ByteArray), W.cell? ⟨g, 0, none⟩ = some (.iface tp (.pointer (some a))) ∧ W.cell? a = some (.string s) ∧ s.data.toList = text ∧ ∃ c t, W.heap[a.block]? = some (.cells c t (0, 0)) := by
  obtain ⟨ps, ⟨g0, t0, cs0, f0, p0, q0, hg0, ht0, hv0, hd0, _, e0⟩, _, hrows⟩ := h
  obtain rfl := Option.some.inj (hg.symm.trans hg0)
  obtain rfl := Option.some.inj (ht.symm.trans ht0)
  subst e0
  obtain ⟨l0⟩ := cs0
  have ok0 : ∀ u v, l0 = [.iface u v] → Value.okWide P W .any 0 u v := fun u v e => by
    subst e
    exact (hrows g 0 (by simp [MemPlace.row])).2 u v (by simpa using World.var?_cell hg0 hv0 0)
  obtain ⟨a0, s0, rfl, hc0, hs0, hz0, rfl⟩ := errorString_of_trod hi hrow hp he hft hfo hs hc hcs hd0 ok0
  exact ⟨a0, s0, by simpa using World.var?_cell hg0 hv0 0, hc0, hs0, (hrows a0.block a0.off (by simp [MemPlace.row])).1⟩
theorem laid_err {n : String} {text : List UInt8} {r : List (String × DataW Unit)} {W : World} {g : Nat}
    (h : laidMet Tryz.prog ((n, .iface "*errors.errorString" (.ptr (.agg [.lit (.string text)]))) :: r) W) (hg : Tryz.prog.globalNamed n = some g) (ht : (Tryz.prog.globals[g]?).map (·.type) = some 42) :
    ∃ (a : Addr) (s : ByteArray), W.cell? ⟨g, 0, none⟩ = some (.iface 236 (.pointer (some a))) ∧ W.cell? a = some (.string s) ∧ s.data.toList = text ∧ ∃ c t, W.heap[a.block]? = some (.cells c t (0, 0)) :=
  laid_errP h hg ht Tryz.underlying42 Tryz.rowES Tryz.underlying236 Tryz.underlying257 rfl rfl Tryz.underlying9 Tryz.cells_es Tryz.cells_str
theorem Tryz.g_Text : Tryz.prog.globalNamed "changeling/api.ErrText" = some 4 := by kernel_rfl
theorem Tryz.t_Text : (Tryz.prog.globals[4]?).map (·.type) = some 42 := by kernel_rfl
theorem Tryz.g_Bound : Tryz.prog.globalNamed "changeling/api.ErrBound" = some 0 := by kernel_rfl
theorem Tryz.t_Bound : (Tryz.prog.globals[0]?).map (·.type) = some 42 := by kernel_rfl
theorem Tryz.g_Shape : Tryz.prog.globalNamed "changeling/api.ErrShape" = some 2 := by kernel_rfl
theorem Tryz.t_Shape : (Tryz.prog.globals[2]?).map (·.type) = some 42 := by kernel_rfl
theorem Tryz.g_Kind : Tryz.prog.globalNamed "changeling/api.ErrKind" = some 5 := by kernel_rfl
theorem Tryz.t_Kind : (Tryz.prog.globals[5]?).map (·.type) = some 42 := by kernel_rfl
theorem Tryz.g_Name : Tryz.prog.globalNamed "changeling/api.ErrName" = some 6 := by kernel_rfl
theorem Tryz.t_Name : (Tryz.prog.globals[6]?).map (·.type) = some 42 := by kernel_rfl
theorem Tryz.g_None : Tryz.prog.globalNamed "changeling/api.ErrNone" = some 7 := by kernel_rfl
theorem Tryz.t_None : (Tryz.prog.globals[7]?).map (·.type) = some 42 := by kernel_rfl
theorem Tryz.g_Exist : Tryz.prog.globalNamed "changeling/api.ErrExist" = some 8 := by kernel_rfl
theorem Tryz.t_Exist : (Tryz.prog.globals[8]?).map (·.type) = some 42 := by kernel_rfl
theorem Tryz.g_Full : Tryz.prog.globalNamed "changeling/api.ErrFull" = some 1 := by kernel_rfl
theorem Tryz.t_Full : (Tryz.prog.globals[1]?).map (·.type) = some 42 := by kernel_rfl
theorem Tryz.g_Align : Tryz.prog.globalNamed "changeling/api.ErrAlign" = some 3 := by kernel_rfl
theorem Tryz.t_Align : (Tryz.prog.globals[3]?).map (·.type) = some 42 := by kernel_rfl
theorem Tryz.g_Far : Tryz.prog.globalNamed "changeling/api.ErrFar" = some 9 := by kernel_rfl
theorem Tryz.t_Far : (Tryz.prog.globals[9]?).map (·.type) = some 42 := by kernel_rfl
theorem Tryz.et : Tryz.prog.globalNamed "errors.errorType" = some 10 := by kernel_rfl
theorem Tryz.rt : (Tryz.prog.cutTypes.find? (·.1 == "internal/reflectlite.rtype")).map (·.2) = some 216 := by kernel_rfl
theorem Tryz.oneRow : ((List.range Tryz.prog.types.size).filter fun t => Tryz.prog.rowNamed t [101, 114, 114, 111, 114]) = [42] := by kernel_rfl
theorem handle_of {W : World} (h : handlesMet Tryz.prog [("errors.errorType", Rows.laid_errors_errorType)] W) : W.cell? ⟨10, 0, none⟩ = some (.iface 216 (.agg #[.pointer (some ⟨12, 42, none⟩)])) := by
  obtain ⟨name, u, ty, e1, e2, e3, e4, e5⟩ := h _ (List.mem_singleton.2 rfl)
  have en : name = [101, 114, 114, 111, 114] := (Option.some.inj e1).symm
  subst en
  obtain rfl := Option.some.inj (Tryz.rt.symm.trans e2)
  have hm : ty ∈ (List.range Tryz.prog.types.size).filter fun t => Tryz.prog.rowNamed t [101, 114, 114, 111, 114] := List.mem_filter.2 ⟨List.mem_range.2 e3, e4⟩
  rw [Tryz.oneRow] at hm
  obtain rfl := List.mem_singleton.1 hm
  have hh : typeHandle Tryz.prog 42 = .pointer (some ⟨12, 42, none⟩) := by kernel_rfl
  rw [hh] at e5
  simpa using World.var?_cell Tryz.et e5 0

/-- the ten addresses by their numbers -/
def eaOf (a1 a2 a3 a4 a5 a6 a7 a8 a9 a10 : Addr) : Nat → Addr
  | 1 => a1
  | 2 => a2
  | 3 => a3
  | 4 => a4
  | 5 => a5
  | 6 => a6
  | 7 => a7
  | 8 => a8
  | 9 => a9
  | _ => a10
/-- their texts -/
def textOf : Nat → List UInt8
  | 1 => [99, 104, 97, 110, 103, 101, 108, 105, 110, 103, 58, 32, 116, 101, 120, 116]
  | 2 => [99, 104, 97, 110, 103, 101, 108, 105, 110, 103, 58, 32, 98, 111, 117, 110, 100]
  | 3 => [99, 104, 97, 110, 103, 101, 108, 105, 110, 103, 58, 32, 115, 104, 97, 112, 101]
  | 4 => [99, 104, 97, 110, 103, 101, 108, 105, 110, 103, 58, 32, 107, 105, 110, 100]
  | 5 => [99, 104, 97, 110, 103, 101, 108, 105, 110, 103, 58, 32, 110, 97, 109, 101]
  | 6 => [99, 104, 97, 110, 103, 101, 108, 105, 110, 103, 58, 32, 110, 111, 110, 101]
  | 7 => [99, 104, 97, 110, 103, 101, 108, 105, 110, 103, 58, 32, 101, 120, 105, 115, 116]
  | 8 => [99, 104, 97, 110, 103, 101, 108, 105, 110, 103, 58, 32, 102, 117, 108, 108]
  | 9 => [99, 104, 97, 110, 103, 101, 108, 105, 110, 103, 58, 32, 97, 108, 105, 103, 110]
  | _ => [99, 104, 97, 110, 103, 101, 108, 105, 110, 103, 58, 32, 102, 97, 114]
set_option maxRecDepth 100000 in
theorem textOf_ne (c d : Nat) (h1 : 1 ≤ c) (h2 : c ≤ 10) (h3 : 1 ≤ d) (h4 : d ≤ 10) (h : c ≠ d) : textOf c ≠ textOf d := by
  have key : ∀ c d : Fin 11, 1 ≤ c.val → 1 ≤ d.val → c.val ≠ d.val → textOf c.val ≠ textOf d.val := by decide
  exact key ⟨c, by omega⟩ ⟨d, by omega⟩ h1 h3 h
set_option maxRecDepth 100000 in
set_option maxHeartbeats 2000000 in
theorem errsAll {W : World} (h : laidMet Tryz.prog [("changeling/api.ErrText", Rows.laid_changeling_api_ErrText), ("changeling/api.ErrBound", Rows.laid_changeling_api_ErrBound), ("changeling/api.ErrShape", Rows.laid_changeling_api_ErrShape), ("changeling/api.ErrKind", Rows.laid_changeling_api_ErrKind), ("changeling/api.ErrName", Rows.laid_changeling_api_ErrName), ("changeling/api.ErrNone", Rows.laid_changeling_api_ErrNone), ("changeling/api.ErrExist", Rows.laid_changeling_api_ErrExist), ("changeling/api.ErrFull", Rows.laid_changeling_api_ErrFull), ("changeling/api.ErrAlign", Rows.laid_changeling_api_ErrAlign), ("changeling/api.ErrFar", Rows.laid_changeling_api_ErrFar)] W) (hh : handlesMet Tryz.prog [("errors.errorType", Rows.laid_errors_errorType)] W) : ∃ ea, ErrsAll W ea := by
  obtain ⟨a1, s1, c1, k1, x1, b1⟩ := laid_err h Tryz.g_Text Tryz.t_Text
  obtain ⟨a2, s2, c2, k2, x2, b2⟩ := laid_err h.tail Tryz.g_Bound Tryz.t_Bound
  obtain ⟨a3, s3, c3, k3, x3, b3⟩ := laid_err h.tail.tail Tryz.g_Shape Tryz.t_Shape
  obtain ⟨a4, s4, c4, k4, x4, b4⟩ := laid_err h.tail.tail.tail Tryz.g_Kind Tryz.t_Kind
  obtain ⟨a5, s5, c5, k5, x5, b5⟩ := laid_err h.tail.tail.tail.tail Tryz.g_Name Tryz.t_Name
  obtain ⟨a6, s6, c6, k6, x6, b6⟩ := laid_err h.tail.tail.tail.tail.tail Tryz.g_None Tryz.t_None
  obtain ⟨a7, s7, c7, k7, x7, b7⟩ := laid_err h.tail.tail.tail.tail.tail.tail Tryz.g_Exist Tryz.t_Exist
  obtain ⟨a8, s8, c8, k8, x8, b8⟩ := laid_err h.tail.tail.tail.tail.tail.tail.tail Tryz.g_Full Tryz.t_Full
  obtain ⟨a9, s9, c9, k9, x9, b9⟩ := laid_err h.tail.tail.tail.tail.tail.tail.tail.tail Tryz.g_Align Tryz.t_Align
  obtain ⟨a10, s10, c10, k10, x10, b10⟩ := laid_err h.tail.tail.tail.tail.tail.tail.tail.tail.tail Tryz.g_Far Tryz.t_Far
  have tx : ∀ c, 1 ≤ c → c ≤ 10 → ∃ s, W.cell? (eaOf a1 a2 a3 a4 a5 a6 a7 a8 a9 a10 c) = some (.string s) ∧ s.data.toList = textOf c := by
    intro c h1 h2
    have : c = 1 ∨ c = 2 ∨ c = 3 ∨ c = 4 ∨ c = 5 ∨ c = 6 ∨ c = 7 ∨ c = 8 ∨ c = 9 ∨ c = 10 := by omega
    rcases this with rfl | rfl | rfl | rfl | rfl | rfl | rfl | rfl | rfl | rfl
    · exact ⟨s1, k1, x1⟩
    · exact ⟨s2, k2, x2⟩
    · exact ⟨s3, k3, x3⟩
    · exact ⟨s4, k4, x4⟩
    · exact ⟨s5, k5, x5⟩
    · exact ⟨s6, k6, x6⟩
    · exact ⟨s7, k7, x7⟩
    · exact ⟨s8, k8, x8⟩
    · exact ⟨s9, k9, x9⟩
    · exact ⟨s10, k10, x10⟩
  refine ⟨eaOf a1 a2 a3 a4 a5 a6 a7 a8 a9 a10, ?_, ?_, ?_, handle_of hh⟩
  · intro c h1 h2
    have : c = 1 ∨ c = 2 ∨ c = 3 ∨ c = 4 ∨ c = 5 ∨ c = 6 ∨ c = 7 ∨ c = 8 ∨ c = 9 ∨ c = 10 := by omega
    rcases this with rfl | rfl | rfl | rfl | rfl | rfl | rfl | rfl | rfl | rfl
    · exact c1
    · exact c2
    · exact c3
    · exact c4
    · exact c5
    · exact c6
    · exact c7
    · exact c8
    · exact c9
    · exact c10
  · intro c h1 h2
    have : c = 1 ∨ c = 2 ∨ c = 3 ∨ c = 4 ∨ c = 5 ∨ c = 6 ∨ c = 7 ∨ c = 8 ∨ c = 9 ∨ c = 10 := by omega
    rcases this with rfl | rfl | rfl | rfl | rfl | rfl | rfl | rfl | rfl | rfl
    · exact b1
    · exact b2
    · exact b3
    · exact b4
    · exact b5
    · exact b6
    · exact b7
    · exact b8
    · exact b9
    · exact b10
  · have hx : ∀ {a b : Addr} {s t : ByteArray} {x y : List UInt8}, W.cell? a = some (.string s) → W.cell? b = some (.string t) → s.data.toList = x → t.data.toList = y → x ≠ y → a ≠ b := by
      rintro a b s t x y h1 h2 rfl rfl h3 rfl
      rw [h1] at h2
      injection h2 with h2
      injection h2 with h2
      exact h3 (by rw [h2])
    intro c d h1 h2 h3 h4 h5
    obtain ⟨s, q1, q2⟩ := tx c h1 h2
    obtain ⟨t, q3, q4⟩ := tx d h3 h4
    exact hx q1 q3 q2 q4 (textOf_ne c d h1 h2 h3 h4 h5)

/-- the five errors of package region -/
theorem errsOf5 {W : World} (h : laidMet Tryz.prog [("changeling/api.ErrBound", Rows.laid_changeling_api_ErrBound), ("changeling/api.ErrShape", Rows.laid_changeling_api_ErrShape), ("changeling/api.ErrNone", Rows.laid_changeling_api_ErrNone), ("changeling/api.ErrAlign", Rows.laid_changeling_api_ErrAlign), ("changeling/api.ErrFar", Rows.laid_changeling_api_ErrFar)] W) :
    ∃ ea : Nat → Addr, ∀ c, (c = 2 ∨ c = 3 ∨ c = 6 ∨ c = 9 ∨ c = 10) → W.cell? ⟨gOf c, 0, none⟩ = some (errV ea c) := by
  obtain ⟨a2, _, c2, _⟩ := laid_err h Tryz.g_Bound Tryz.t_Bound
  obtain ⟨a3, _, c3, _⟩ := laid_err h.tail Tryz.g_Shape Tryz.t_Shape
  obtain ⟨a6, _, c6, _⟩ := laid_err h.tail.tail Tryz.g_None Tryz.t_None
  obtain ⟨a9, _, c9, _⟩ := laid_err h.tail.tail.tail Tryz.g_Align Tryz.t_Align
  obtain ⟨a10, _, c10, _⟩ := laid_err h.tail.tail.tail.tail Tryz.g_Far Tryz.t_Far
  refine ⟨fun c => if c = 2 then a2 else if c = 3 then a3 else if c = 6 then a6 else if c = 9 then a9 else a10, fun c hc => ?_⟩
  rcases hc with rfl | rfl | rfl | rfl | rfl
  · exact c2
  · exact c3
  · exact c6
  · exact c9
  · exact c10
end Go.Proofs.YtgmbladcoikffaaGreatDoor
