import Derived.Test.YtlbdkcnbgdmpaaaDoorWaitsz0
import Derived.ProofKit
import Derived.OpenShut
import Derived.Test.YtlbdkcnbgdmpaaaDoorWaitsz1
import Derived.LaidLaws
import Derived.MakeChecks
import Derived.Stop.LaidErr
import Derived.LaidMore
import Derived.Test.YtlbdkcnbgdmpaaaDoorCards
import Derived.Test.YtlbdkcnbgdmpaaaDoorTie
import Derived.Test.YtlbdkcnbgdmpaaaDoorWaitsz9
import Derived.Stop.Joined
import Derived.LaidSub

/- Frame -/
/- The frame of every law: what reads before the call reads so behind it, where nothing below the heap's old size has turned; how words that come in are opened. No program in sight but its tables. -/
namespace Go.Proofs.YtlbdkcnbgdmpaaaDoor
open Go.ChangeShapes Go.WideShapes Go.ChangeAt Go.RowKit
set_option linter.unusedVariables false

theorem trodAll_stays {H : Type} {enc : TypeId × Value → H} {P : Program} (hl : laidOutB P = true) {W W' : World} (hb : Below W.heap.size W W') :
    ∀ (ts : List TypeId) (vs : List Value) (ds : List (DataW H)) (ps : List MemPlace), (∀ t ∈ ts, P.readableRec t = true ∧ t < P.types.size) → (∀ x ∈ ps, x.block < W.heap.size) →
      DataW.TrodAll enc P W 0 (fun _ => true) true ts vs ds ps → DataW.TrodAll enc P W' 0 (fun b => decide (b < W.heap.size)) true ts vs ds ps
  | [], vs, ds, ps, _, _, h => by
    obtain ⟨rfl, rfl, rfl⟩ := trodAll_nil h
    exact trodAll_mk0
  | t :: ts, vs, ds, ps, hts, hlt, h => by
    obtain ⟨v, vs', d, ds', p, q, rfl, rfl, rfl, h0, r0⟩ := trodAll_cons h
    obtain ⟨h1, h2⟩ := hts t (by simp)
    exact trodAll_cons_mk (Below.trod hl h1 h2 h0 hb (fun x hx => hlt x (by simp [hx])))
      (trodAll_stays hl hb ts vs' ds' q (fun u hu => hts u (by simp [hu])) (fun x hx => hlt x (by simp [hx])) r0)

/-- a law's end: true, and its arguments as they were -/
theorem law_post {H : Type} {enc : TypeId × Value → H} {P : Program} {f : Func} {s : ChangeSpec} {W W' : World} {args : Array Value} {ds gs : List (DataW H)} {before : List MemPlace} {tb : TypeId}
    (hl : laidOutB P = true) (hts : ∀ t ∈ f.params.toList, P.readableRec t = true ∧ t < P.types.size) (hres : f.resultTypes = #[tb]) (htb : P.underlying tb = some .bool) (hv : s.vars = [])
    (hW : DataW.Whole enc P f.params.toList s.vars false W args.toList ds gs before) (hs : s.fn H (ds ++ gs) = { results := [.lit (.bool true)], args := ds }) (hb : Below W.heap.size W W') :
    s.post enc P f false true false false W args (.bool true) W' := by
  have hW' := hW
  obtain ⟨p, q, hA, hV, rfl, hfz, hnd⟩ := hW
  have hlt : ∀ x ∈ p ++ q, x.block < W.heap.size := fun x hx => hW'.lt x hx
  refine ⟨ds, gs, p ++ q, [], p, [], hW', ?_, ?_, ?_, hb.frame _, fun h => by cases h⟩
  · rw [hs, hres]; exact trodAll_mk1 (shut_bool htb true)
  · rw [hs]; exact trodAll_stays hl hb _ _ _ _ hts (fun x hx => hlt x (by simp [hx])) hA
  · rw [hs, hv]; rfl

/-- what is written of a word: it lies in its bounds -/
theorem rng_u32 {a : Int} (h : (Lit.int .u32 a).wf = true) : 0 ≤ a ∧ a < 4294967296 := by
  simp [Lit.wf, IntKind.min, IntKind.max, IntKind.signed, IntKind.bits] at h; omega

/-- WORDS THAT CAME IN, to be read -/
theorem open_words {H : Type} {enc : TypeId × Value → H} {P : Program} {W : World} {base : Nat} {ts te : TypeId} {v : Value} {d : DataW H} {ps : List MemPlace} (ht : P.underlying ts = some (.slice te)) (he : P.underlying te = some (.int .u32)) (hc : P.cellsOf te = 1)
    (hval : Value.okWide P W .any base ts v) (h : DataW.Trod enc P W 0 (fun _ => true) true ts v d ps) (hlt : ∀ x ∈ ps, x.block < W.heap.size) :
    ∃ (A : Option Addr) (len cap : Nat) (ws : Nat → Int), v = .slice A len cap ∧ Reads W A len cap (fun i => .int .u32 (ws i)) ∧ cap ≤ maxLen ∧ ∀ i, i < len → 0 ≤ ws i ∧ ws i < 4294967296 := by
  obtain ⟨a0, len, cap, rfl⟩ := okWide_slice ht hval
  obtain ⟨fuel, hf⟩ := h
  rcases open_ints ht he hc hf with ⟨hcs, hx⟩ | ⟨a, len', cap', zs, hcs, _, hl, hm, hz, hx, hcell, hwz⟩
  · simp [Value.cells] at hcs
    obtain ⟨rfl, rfl, rfl⟩ := hcs
    exact ⟨none, 0, 0, fun _ => 0, rfl, ⟨Nat.le_refl _, .inl rfl⟩, Nat.zero_le _, fun i hi => by omega⟩
  · simp [Value.cells] at hcs
    obtain ⟨rfl, rfl, rfl⟩ := hcs
    simp only [if_true] at hz
    obtain ⟨b, off, spot⟩ := a
    have hws : ∀ i, i < len → 0 ≤ zs.getD i 0 ∧ zs.getD i 0 < 4294967296 := by
      intro i hi
      have hlt : i < zs.length := by omega
      have e : zs.getD i 0 = zs[i] := by simp [List.getD, hlt]
      have hm := hwz zs[i] (List.getElem_mem _)
      rw [e]
      simp [Lit.wf, IntKind.min, IntKind.max, IntKind.signed, IntKind.bits] at hm
      omega
    by_cases h0 : cap = 0
    · exact ⟨some ⟨b, off, spot⟩, len, cap, fun _ => 0, rfl, ⟨hl, .inl h0⟩, hm, fun i hi => by omega⟩
    · have hspot : spot = none := by simpa [Addr.add] using World.cell?_spot (hcell 0 (by omega))
      subst hspot
      refine ⟨some ⟨b, off, none⟩, len, cap, fun i => zs.getD i 0, rfl, ⟨hl, .inr ⟨b, off, rfl, ?_, fun i hi => ?_⟩⟩, hm, hws⟩
      · have := World.block_lt_of_cell? W _ (hcell 0 (by omega))
        simpa [Addr.add] using this
      · have := hcell i (by omega)
        simpa [Addr.add_lit] using this
end Go.Proofs.YtlbdkcnbgdmpaaaDoor

/- Sent -/
/- What the row's list of errors gives the walks: each variable's cell. -/
namespace Go.Proofs.YtlbdkcnbgdmpaaaDoor
open Go.ChangeShapes Go.WideShapes Go.RowKit
set_option linter.unusedVariables false

theorem Tryd.own : ownKnob Tryd.prog.godebug = none := by kernel_rfl
theorem Tryd.laidOut : laidOutB Tryd.prog = true := by kernel_rfl
theorem Tryd.cells_str : Tryd.prog.cellsOf 9 = 1 := by kernel_rfl
theorem Tryd.cells_es : Tryd.prog.cellsOf 194 = 1 := by kernel_rfl
theorem Tryd.cells_u32 : Tryd.prog.cellsOf 23 = 1 := by kernel_rfl
theorem Tryd.rowES (u : TypeId) (h : Tryd.prog.typeName? 3 u = some "*errors.errorString") : u = 173 :=
  typeName_ptr_named (nm := "errors.errorString") (by kernel_rfl) (by kernel_rfl) (by decide) u h
theorem Tryd.gShape : Tryd.prog.globalNamed "changeling/api.ErrShape" = some 0 := by kernel_rfl
theorem Tryd.gAlign : Tryd.prog.globalNamed "changeling/api.ErrAlign" = some 2 := by kernel_rfl
theorem Tryd.gFar : Tryd.prog.globalNamed "changeling/api.ErrFar" = some 3 := by kernel_rfl
theorem Tryd.tShape : (Tryd.prog.globals[0]?).map (·.type) = some 32 := by kernel_rfl
theorem Tryd.tAlign : (Tryd.prog.globals[2]?).map (·.type) = some 32 := by kernel_rfl
theorem Tryd.tFar : (Tryd.prog.globals[3]?).map (·.type) = some 32 := by kernel_rfl

/-- one listed error: its variable's cell -/
theorem sentinel_cell {n : String} {text : List UInt8} {r : List (String × DataW Unit)} {W : World} {g : Nat}
    (h : laidMet Tryd.prog ((n, .iface "*errors.errorString" (.ptr (.agg [.lit (.string text)]))) :: r) W) (hg : Tryd.prog.globalNamed n = some g) (ht : (Tryd.prog.globals[g]?).map (·.type) = some 32) :
    ∃ a : Addr, W.cell? ⟨g, 0, none⟩ = some (.iface 173 (.pointer (some a))) := by
  obtain ⟨a, s, hv, _⟩ := laid_sentinel h hg ht Tryd.underlying32 Tryd.rowES Tryd.underlying173 Tryd.underlying194 rfl rfl Tryd.underlying9 Tryd.cells_es Tryd.cells_str
  exact ⟨a, by simpa using World.var?_cell hg hv 0⟩

theorem errs3 {W : World} (h : laidMetH Tryd.prog [("changeling/api.ErrShape", Rows.laid_changeling_api_ErrShape), ("changeling/api.ErrAlign", Rows.laid_changeling_api_ErrAlign), ("changeling/api.ErrFar", Rows.laid_changeling_api_ErrFar)] W) : ∃ ea, Errs3 W ea := by
  rw [MakeChecks.laidMetH_plain _ _ _ (by kernel_rfl)] at h
  obtain ⟨a3, h3⟩ := sentinel_cell h Tryd.gShape Tryd.tShape
  obtain ⟨a9, h9⟩ := sentinel_cell h.tail Tryd.gAlign Tryd.tAlign
  obtain ⟨a10, h10⟩ := sentinel_cell h.tail.tail Tryd.gFar Tryd.tFar
  exact ⟨fun c => if c = 3 then a3 else if c = 9 then a9 else a10, h3, h9, h10⟩
end Go.Proofs.YtlbdkcnbgdmpaaaDoor

/- CpuWaitsLaw -/
/-
  CpuWaits: for every input the law returns true, and each argument reads behind the call as it read before. Condition: the listed variables hold what the program's text lays in them (the card ties that to the text).
-/
namespace Go.Proofs.YtlbdkcnbgdmpaaaDoor.cpuWaits
open Go.ChangeShapes Go.WideShapes Go.ChangeAt Go.RowKit
set_option linter.unusedVariables false

theorem door_met (os : Os) (args : Array Value) : laidMetH Tryd.prog Rows.cpuWaitsRow.laid ((World.doorLaid Tryd.prog 400 os).forCall (fun _ _ => 0) ⟨#[], args, []⟩).memory :=
  laidMetH_of_parts3 (fuel := 8) (laidMet_of_run' 8 (by kernel_rfl) (by kernel_rfl)) (by kernel_rfl) (by kernel_rfl)

set_option maxRecDepth 100000 in
theorem lifted (os : Os) (started : os.Started) (H : Type) (enc : TypeId × Value → H) :
    ReturnsInHanded {} Tryd.checked os 6 .any (fun w args => (Rows.cpuWaitsSpec.pre enc Tryd.prog Tryd.f6 [] false w args ∧ laidMetH Tryd.prog Rows.cpuWaitsRow.laid w) ∧ sizedMet enc Tryd.prog Tryd.f6 (OpenSpec.ofChange Rows.cpuWaitsSpec) false w args)
      (Rows.cpuWaitsSpec.post enc Tryd.prog Tryd.f6 false true false false) := by
  refine returnsInHanded_of_change_and (C := Tryd.checked) (X := fun w _ => laidMetH Tryd.prog Rows.cpuWaitsRow.laid w) (fun _ _ _ hh h => h.of_heap hh) Tryd.own started (by kernel_rfl) Tryd.func6
    (ChangeSpec.witness_shaped (enc := enc) (C := Tryd.checked) (os := os) (X := fun w _ => laidMetH Tryd.prog Rows.cpuWaitsRow.laid w) false (World.doorLaid Tryd.prog 400 os) #[.int .u32 0, .int .u32 0, .int .i64 0] 8 rfl (World.shaped_of_RefB (by kernel_rfl) (by kernel_rfl)) (by kernel_rfl) (by kernel_rfl) (by kernel_rfl) (door_met os _)) ?_
  intro W base args ds gs before hval0 hW _ _ hL _
  have hval : ∀ (j : Nat) t v, Tryd.f6.params[j]? = some t → args[j]? = some v → Value.okWide Tryd.prog W .any base t v := hval0
  have hW' := hW
  obtain ⟨p, q, hA0, hV, rfl, hfz, hnd⟩ := hW
  have hA : DataW.TrodAll enc Tryd.prog W 0 (fun _ => true) true Tryd.f6.params.toList args.toList ds p := hA0
  rw [Tryd.params6] at hA hval
  obtain ⟨v0, vs0, d0, ds0, p0, q0, hargs, rfl, rfl, h0, r0⟩ := trodAll_cons hA
  obtain ⟨v1, vs1, d1, ds1, p1, q1, rfl, rfl, rfl, h1, r1⟩ := trodAll_cons r0
  obtain ⟨v2, vs2, d2, ds2, p2, q2, rfl, rfl, rfl, h2, r2⟩ := trodAll_cons r1
  obtain ⟨rfl, rfl, rfl⟩ := trodAll_nil r2
  obtain rfl : args = #[v0, v1, v2] := by cases args; simp_all
  obtain ⟨rfl, rfl⟩ := trodVars_none hV
  obtain ⟨a0, rfl, rfl, rfl, w0⟩ := open_int Tryd.underlying23 (hval 0 23 v0 rfl rfl) h0
  obtain ⟨a1, rfl, rfl, rfl, w1⟩ := open_int Tryd.underlying23 (hval 1 23 v1 rfl rfl) h1
  obtain ⟨a2, rfl, rfl, rfl, w2⟩ := open_int Tryd.underlying3 (hval 2 3 v2 rfl rfl) h2
  obtain ⟨ea, E⟩ := errs3 hL
  refine (cpuWaits_any a0 a1 a2 W ea E (rng_u32 w0) (rng_u32 w1)).mono fun e W' ⟨he, hk⟩ => ?_
  subst he
  exact ⟨_, rfl, law_post Tryd.laidOut (fun t ht => by
      rw [Tryd.params6] at ht
      simp at ht
      rcases ht with rfl | rfl <;> exact ⟨by kernel_rfl, of_decide_eq_true (by kernel_rfl)⟩) (by kernel_rfl) Tryd.underlying4 rfl hW' rfl (hk.below (Nat.le_refl _) (fun _ _ h => h.elim))⟩

theorem said : Rows.CpuWaitsSaid :=
  OpenClaim.holds_of_wide 6 Tryd.f6 rfl rfl rfl rfl rfl rfl rfl ⟨rfl, rfl, rfl, rfl, rfl⟩ rfl rfl rfl rfl rfl (by kernel_rfl) Tryd.func6 (by kernel_rfl)
    (of_decide_eq_true (by kernel_rfl)) (by unfold Func.isWrapper; rw [if_neg (of_decide_eq_false (by kernel_rfl))]; exact ⟨rfl, rfl⟩)
    (fun os started H enc _ => lifted os started H enc)

theorem plain (f : FuncId) (fn : Func) (hf : Tryd.pinned.checked.prog.funcNamed "changeling/changelinglaw2.CpuWaits" = some f) (hfn : Tryd.pinned.checked.prog.funcs[f]? = some fn) :
    Rows.cpuWaitsCard.stood.looks = Tryd.pinned.checked.prog.looks [] ∧ ∀ (j : Nat) t, fn.params[j]? = some t → Tryd.pinned.checked.prog.wantsStandIn t = false := by
  obtain rfl : f = 6 := Option.some.inj ((show Tryd.prog.funcNamed "changeling/changelinglaw2.CpuWaits" = some 6 by kernel_rfl).symm.trans hf) |>.symm
  obtain rfl : fn = Tryd.f6 := (Option.some.inj (Tryd.func6.symm.trans hfn)).symm
  refine ⟨by kernel_rfl, fun j t ht => ?_⟩
  rw [Tryd.params6] at ht
  have hm := Array.mem_of_getElem? ht
  simp at hm
  rcases hm with rfl | rfl
  · exact (show Tryd.prog.wantsStandIn 23 = false by kernel_rfl)
  · exact (show Tryd.prog.wantsStandIn 3 = false by kernel_rfl)

theorem card : Rows.CpuWaitsCardSaid :=
  Claim7.holds_tied_plain_at .later [] _ _ _ _ said (fun _ h => by cases h) (by kernel_rfl) (fun _ h => by cases h) cpuWaits_row_tie rfl ⟨rfl, rfl⟩ (by kernel_rfl) rfl plain (by kernel_rfl)
end Go.Proofs.YtlbdkcnbgdmpaaaDoor.cpuWaits
namespace Go.Proofs.YtlbdkcnbgdmpaaaDoor
theorem cpuWaits_card : Rows.CpuWaitsCardSaid := cpuWaits.card
end Go.Proofs.YtlbdkcnbgdmpaaaDoor
