/-
  KeepActs: for every input the law returns true, and each argument reads behind the call as it read before. Condition: the listed variables hold what the program's text lays in them (the card ties that to the text).
-/
import Derived.Test.YtlmnmncdoiealaaGreatDoorErr
import Derived.Test.YtlmnmncdoiealaaGreatDoorKaz24
import Derived.LaidLaws
import Derived.MakeChecks
import Derived.Stop.LaidErr
import Derived.LaidMore
import Derived.Test.YtlmnmncdoiealaaGreatDoorKaz21
import Derived.LaidHandle
import Derived.Test.YtlmnmncdoiealaaGreatDoorCards
import Derived.Test.YtlmnmncdoiealaaGreatDoorTie
import Derived.Test.YtlmnmncdoiealaaGreatDoorKaz27
import Derived.Test.YtlmnmncdoiealaaGreatDoorKaz25
import Derived.Stop.Joined
import Derived.LaidSub

/- Sent -/
/- What the row's list of errors gives the walks: each variable's cell. -/
namespace Go.Proofs.YtlmnmncdoiealaaGreatDoor
open Go.ChangeShapes Go.WideShapes Go.RowKit
set_option linter.unusedVariables false

theorem Tryz.own : ownKnob Tryz.prog.godebug = none := by kernel_rfl
theorem Tryz.laidOut : laidOutB Tryz.prog = true := by kernel_rfl
theorem Tryz.cells_str : Tryz.prog.cellsOf 9 = 1 := by kernel_rfl
theorem Tryz.cells_es : Tryz.prog.cellsOf 189 = 1 := by kernel_rfl
theorem Tryz.cells_u32 : Tryz.prog.cellsOf 34 = 1 := by kernel_rfl
theorem Tryz.rowES (u : TypeId) (h : Tryz.prog.typeName? 3 u = some "*errors.errorString") : u = 168 :=
  typeName_ptr_named (nm := "errors.errorString") (by kernel_rfl) (by kernel_rfl) (by decide) u h
theorem Tryz.gShape : Tryz.prog.globalNamed "changeling/api.ErrShape" = some 2 := by kernel_rfl
theorem Tryz.gAlign : Tryz.prog.globalNamed "changeling/api.ErrAlign" = some 8 := by kernel_rfl
theorem Tryz.gFar : Tryz.prog.globalNamed "changeling/api.ErrFar" = some 9 := by kernel_rfl
theorem Tryz.tShape : (Tryz.prog.globals[2]?).map (·.type) = some 26 := by kernel_rfl
theorem Tryz.tAlign : (Tryz.prog.globals[8]?).map (·.type) = some 26 := by kernel_rfl
theorem Tryz.tFar : (Tryz.prog.globals[9]?).map (·.type) = some 26 := by kernel_rfl

/-- one listed error: its variable's cell -/
theorem sentinel_cell {n : String} {text : List UInt8} {r : List (String × DataW Unit)} {W : World} {g : Nat}
    (h : laidMet Tryz.prog ((n, .iface "*errors.errorString" (.ptr (.agg [.lit (.string text)]))) :: r) W) (hg : Tryz.prog.globalNamed n = some g) (ht : (Tryz.prog.globals[g]?).map (·.type) = some 26) :
    ∃ a : Addr, W.cell? ⟨g, 0, none⟩ = some (.iface 168 (.pointer (some a))) := by
  obtain ⟨a, s, hv, _⟩ := laid_sentinel h hg ht Tryz.underlying26 Tryz.rowES Tryz.underlying168 Tryz.underlying189 rfl rfl Tryz.underlying9 Tryz.cells_es Tryz.cells_str
  exact ⟨a, by simpa using World.var?_cell hg hv 0⟩

theorem errs3 {W : World} (h : laidMetH Tryz.prog [("changeling/api.ErrShape", Rows.laid_changeling_api_ErrShape), ("changeling/api.ErrAlign", Rows.laid_changeling_api_ErrAlign), ("changeling/api.ErrFar", Rows.laid_changeling_api_ErrFar)] W) : ∃ ea, Errs3 W ea := by
  rw [MakeChecks.laidMetH_plain _ _ _ (by kernel_rfl)] at h
  obtain ⟨a3, h3⟩ := sentinel_cell h Tryz.gShape Tryz.tShape
  obtain ⟨a9, h9⟩ := sentinel_cell h.tail Tryz.gAlign Tryz.tAlign
  obtain ⟨a10, h10⟩ := sentinel_cell h.tail.tail Tryz.gFar Tryz.tFar
  exact ⟨fun c => if c = 3 then a3 else if c = 9 then a9 else a10, h3, h9, h10⟩
end Go.Proofs.YtlmnmncdoiealaaGreatDoor

/- SentAll -/
/- What the row's list of the ten errors and of errors.errorType gives the walks. -/
namespace Go.Proofs.YtlmnmncdoiealaaGreatDoor
open Go.ChangeShapes Go.WideShapes Go.RowKit
set_option linter.unusedVariables false

/-- one listed error: its variable, its text, its block -/
theorem laid_errP {P : Program} {n nm : String} {text : List UInt8} {r : List (String × DataW Unit)} {W : World} {g : Nat} {ti tp te ts : TypeId} {ms : Array (String × TypeId)} {f : Field}
    (h : laidMet P ((n, .iface nm (.ptr (.agg [.lit (.string text)]))) :: r) W)
    (hg : P.globalNamed n = some g) (ht : (P.globals[g]?).map (·.type) = some ti) (hi : P.underlying ti = some (.interface ms)) (hrow : ∀ u, P.typeName? 3 u = some nm → u = tp)
    (hp : P.underlying tp = some (.pointer te)) (he : P.underlying te = some (.struct #[f])) (hft : f.type = ts) (hfo : f.offset = 0) (hs : P.underlying ts = some .string) (hc : P.cellsOf te = 1) (hcs : P.cellsOf ts = 1) :
    ∃ (a : Addr) (s : ByteArray), W.cell? ⟨g, 0, none⟩ = some (.iface tp (.pointer (some a))) ∧ W.cell? a = some (.string s) ∧ s.data.toList = text ∧ ∃ c t, W.heap[a.block]? = some (.cells c t (0, 0)) := by
  obtain ⟨ps, ⟨g0, t0, cs0, f0, p0, q0, hg0, ht0, hv0, hd0, _, e0⟩, _, hrows⟩ := h
  obtain rfl := Option.some.inj (hg.symm.trans hg0)
  obtain rfl := Option.some.inj (ht.symm.trans ht0)
  subst e0
  obtain ⟨l0⟩ := cs0
  have ok0 : ∀ u v, l0 = [.iface u v] → Value.okWide P W .any 0 u v := fun u v e => by
    subst e
    exact (hrows g 0 (by simp [MemPlace.row])).2 u v (by simpa using World.var?_cell hg0 hv0 0)
  obtain ⟨a0, s0, rfl, hc0, hs0, hz0, rfl⟩ := errorString_of_trod hi hrow hp he hft hfo hs hc hcs hd0 ok0
  exact ⟨a0, s0, by simpa using World.var?_cell hg0 hv0 0, hc0, hs0, (hrows a0.block a0.off (by simp [MemPlace.row])).1⟩
theorem laid_err {n : String} {text : List UInt8} {r : List (String × DataW Unit)} {W : World} {g : Nat}
    (h : laidMet Tryz.prog ((n, .iface "*errors.errorString" (.ptr (.agg [.lit (.string text)]))) :: r) W) (hg : Tryz.prog.globalNamed n = some g) (ht : (Tryz.prog.globals[g]?).map (·.type) = some 26) :
    ∃ (a : Addr) (s : ByteArray), W.cell? ⟨g, 0, none⟩ = some (.iface 168 (.pointer (some a))) ∧ W.cell? a = some (.string s) ∧ s.data.toList = text ∧ ∃ c t, W.heap[a.block]? = some (.cells c t (0, 0)) :=
  laid_errP h hg ht Tryz.underlying26 Tryz.rowES Tryz.underlying168 Tryz.underlying189 rfl rfl Tryz.underlying9 Tryz.cells_es Tryz.cells_str
theorem Tryz.g_Text : Tryz.prog.globalNamed "changeling/api.ErrText" = some 1 := by kernel_rfl
theorem Tryz.t_Text : (Tryz.prog.globals[1]?).map (·.type) = some 26 := by kernel_rfl
theorem Tryz.g_Bound : Tryz.prog.globalNamed "changeling/api.ErrBound" = some 0 := by kernel_rfl
theorem Tryz.t_Bound : (Tryz.prog.globals[0]?).map (·.type) = some 26 := by kernel_rfl
theorem Tryz.g_Shape : Tryz.prog.globalNamed "changeling/api.ErrShape" = some 2 := by kernel_rfl
theorem Tryz.t_Shape : (Tryz.prog.globals[2]?).map (·.type) = some 26 := by kernel_rfl
theorem Tryz.g_Kind : Tryz.prog.globalNamed "changeling/api.ErrKind" = some 3 := by kernel_rfl
theorem Tryz.t_Kind : (Tryz.prog.globals[3]?).map (·.type) = some 26 := by kernel_rfl
theorem Tryz.g_Name : Tryz.prog.globalNamed "changeling/api.ErrName" = some 4 := by kernel_rfl
theorem Tryz.t_Name : (Tryz.prog.globals[4]?).map (·.type) = some 26 := by kernel_rfl
theorem Tryz.g_None : Tryz.prog.globalNamed "changeling/api.ErrNone" = some 5 := by kernel_rfl
theorem Tryz.t_None : (Tryz.prog.globals[5]?).map (·.type) = some 26 := by kernel_rfl
theorem Tryz.g_Exist : Tryz.prog.globalNamed "changeling/api.ErrExist" = some 6 := by kernel_rfl
theorem Tryz.t_Exist : (Tryz.prog.globals[6]?).map (·.type) = some 26 := by kernel_rfl
theorem Tryz.g_Full : Tryz.prog.globalNamed "changeling/api.ErrFull" = some 7 := by kernel_rfl
theorem Tryz.t_Full : (Tryz.prog.globals[7]?).map (·.type) = some 26 := by kernel_rfl
theorem Tryz.g_Align : Tryz.prog.globalNamed "changeling/api.ErrAlign" = some 8 := by kernel_rfl
theorem Tryz.t_Align : (Tryz.prog.globals[8]?).map (·.type) = some 26 := by kernel_rfl
theorem Tryz.g_Far : Tryz.prog.globalNamed "changeling/api.ErrFar" = some 9 := by kernel_rfl
theorem Tryz.t_Far : (Tryz.prog.globals[9]?).map (·.type) = some 26 := by kernel_rfl
theorem Tryz.et : Tryz.prog.globalNamed "errors.errorType" = some 10 := by kernel_rfl
theorem Tryz.rt : (Tryz.prog.cutTypes.find? (·.1 == "internal/reflectlite.rtype")).map (·.2) = some 138 := by kernel_rfl
theorem Tryz.oneRow : ((List.range Tryz.prog.types.size).filter fun t => Tryz.prog.rowNamed t [101, 114, 114, 111, 114]) = [26] := by kernel_rfl
theorem handle_of {W : World} (h : handlesMet Tryz.prog [("errors.errorType", Rows.laid_errors_errorType)] W) : W.cell? ⟨10, 0, none⟩ = some (.iface 138 (.agg #[.pointer (some ⟨12, 26, none⟩)])) := by
  obtain ⟨name, u, ty, e1, e2, e3, e4, e5⟩ := h _ (List.mem_singleton.2 rfl)
  have en : name = [101, 114, 114, 111, 114] := (Option.some.inj e1).symm
  subst en
  obtain rfl := Option.some.inj (Tryz.rt.symm.trans e2)
  have hm : ty ∈ (List.range Tryz.prog.types.size).filter fun t => Tryz.prog.rowNamed t [101, 114, 114, 111, 114] := List.mem_filter.2 ⟨List.mem_range.2 e3, e4⟩
  rw [Tryz.oneRow] at hm
  obtain rfl := List.mem_singleton.1 hm
  have hh : typeHandle Tryz.prog 26 = .pointer (some ⟨12, 26, none⟩) := by kernel_rfl
  rw [hh] at e5
  simpa using World.var?_cell Tryz.et e5 0

/-- the ten addresses by their numbers -/
def eaOf (a1 a2 a3 a4 a5 a6 a7 a8 a9 a10 : Addr) : Nat → Addr
  | 1 => a1
  | 2 => a2
  | 3 => a3
  | 4 => a4
  | 5 => a5
  | 6 => a6
  | 7 => a7
  | 8 => a8
  | 9 => a9
  | _ => a10
/-- their texts -/
def textOf : Nat → List UInt8
  | 1 => [99, 104, 97, 110, 103, 101, 108, 105, 110, 103, 58, 32, 116, 101, 120, 116]
  | 2 => [99, 104, 97, 110, 103, 101, 108, 105, 110, 103, 58, 32, 98, 111, 117, 110, 100]
  | 3 => [99, 104, 97, 110, 103, 101, 108, 105, 110, 103, 58, 32, 115, 104, 97, 112, 101]
  | 4 => [99, 104, 97, 110, 103, 101, 108, 105, 110, 103, 58, 32, 107, 105, 110, 100]
  | 5 => [99, 104, 97, 110, 103, 101, 108, 105, 110, 103, 58, 32, 110, 97, 109, 101]
  | 6 => [99, 104, 97, 110, 103, 101, 108, 105, 110, 103, 58, 32, 110, 111, 110, 101]
  | 7 => [99, 104, 97, 110, 103, 101, 108, 105, 110, 103, 58, 32, 101, 120, 105, 115, 116]
  | 8 => [99, 104, 97, 110, 103, 101, 108, 105, 110, 103, 58, 32, 102, 117, 108, 108]
  | 9 => [99, 104, 97, 110, 103, 101, 108, 105, 110, 103, 58, 32, 97, 108, 105, 103, 110]
  | _ => [99, 104, 97, 110, 103, 101, 108, 105, 110, 103, 58, 32, 102, 97, 114]
set_option maxRecDepth 100000 in
theorem textOf_ne (c d : Nat) (h1 : 1 ≤ c) (h2 : c ≤ 10) (h3 : 1 ≤ d) (h4 : d ≤ 10) (h : c ≠ d) : textOf c ≠ textOf d := by
  have key : ∀ c d : Fin 11, 1 ≤ c.val → 1 ≤ d.val → c.val ≠ d.val → textOf c.val ≠ textOf d.val := by decide
  exact key ⟨c, by omega⟩ ⟨d, by omega⟩ h1 h3 h
set_option maxRecDepth 100000 in
set_option maxHeartbeats 2000000 in
theorem errsAll {W : World} (h : laidMet Tryz.prog [("changeling/api.ErrText", Rows.laid_changeling_api_ErrText), ("changeling/api.ErrBound", Rows.laid_changeling_api_ErrBound), ("changeling/api.ErrShape", Rows.laid_changeling_api_ErrShape), ("changeling/api.ErrKind", Rows.laid_changeling_api_ErrKind), ("changeling/api.ErrName", Rows.laid_changeling_api_ErrName), ("changeling/api.ErrNone", Rows.laid_changeling_api_ErrNone), ("changeling/api.ErrExist", Rows.laid_changeling_api_ErrExist), ("changeling/api.ErrFull", Rows.laid_changeling_api_ErrFull), ("changeling/api.ErrAlign", Rows.laid_changeling_api_ErrAlign), ("changeling/api.ErrFar", Rows.laid_changeling_api_ErrFar)] W) (hh : handlesMet Tryz.prog [("errors.errorType", Rows.laid_errors_errorType)] W) : ∃ ea, ErrsAll W ea := by
  obtain ⟨a1, s1, c1, k1, x1, b1⟩ := laid_err h Tryz.g_Text Tryz.t_Text
  obtain ⟨a2, s2, c2, k2, x2, b2⟩ := laid_err h.tail Tryz.g_Bound Tryz.t_Bound
  obtain ⟨a3, s3, c3, k3, x3, b3⟩ := laid_err h.tail.tail Tryz.g_Shape Tryz.t_Shape
  obtain ⟨a4, s4, c4, k4, x4, b4⟩ := laid_err h.tail.tail.tail Tryz.g_Kind Tryz.t_Kind
  obtain ⟨a5, s5, c5, k5, x5, b5⟩ := laid_err h.tail.tail.tail.tail Tryz.g_Name Tryz.t_Name
  obtain ⟨a6, s6, c6, k6, x6, b6⟩ := laid_err h.tail.tail.tail.tail.tail Tryz.g_None Tryz.t_None
  obtain ⟨a7, s7, c7, k7, x7, b7⟩ := laid_err h.tail.tail.tail.tail.tail.tail Tryz.g_Exist Tryz.t_Exist
  obtain ⟨a8, s8, c8, k8, x8, b8⟩ := laid_err h.tail.tail.tail.tail.tail.tail.tail Tryz.g_Full Tryz.t_Full
  obtain ⟨a9, s9, c9, k9, x9, b9⟩ := laid_err h.tail.tail.tail.tail.tail.tail.tail.tail Tryz.g_Align Tryz.t_Align
  obtain ⟨a10, s10, c10, k10, x10, b10⟩ := laid_err h.tail.tail.tail.tail.tail.tail.tail.tail.tail Tryz.g_Far Tryz.t_Far
  have tx : ∀ c, 1 ≤ c → c ≤ 10 → ∃ s, W.cell? (eaOf a1 a2 a3 a4 a5 a6 a7 a8 a9 a10 c) = some (.string s) ∧ s.data.toList = textOf c := by
    intro c h1 h2
    have : c = 1 ∨ c = 2 ∨ c = 3 ∨ c = 4 ∨ c = 5 ∨ c = 6 ∨ c = 7 ∨ c = 8 ∨ c = 9 ∨ c = 10 := by omega
    rcases this with rfl | rfl | rfl | rfl | rfl | rfl | rfl | rfl | rfl | rfl
    · exact ⟨s1, k1, x1⟩
    · exact ⟨s2, k2, x2⟩
    · exact ⟨s3, k3, x3⟩
    · exact ⟨s4, k4, x4⟩
    · exact ⟨s5, k5, x5⟩
    · exact ⟨s6, k6, x6⟩
    · exact ⟨s7, k7, x7⟩
    · exact ⟨s8, k8, x8⟩
    · exact ⟨s9, k9, x9⟩
    · exact ⟨s10, k10, x10⟩
  refine ⟨eaOf a1 a2 a3 a4 a5 a6 a7 a8 a9 a10, ?_, ?_, ?_, handle_of hh⟩
  · intro c h1 h2
    have : c = 1 ∨ c = 2 ∨ c = 3 ∨ c = 4 ∨ c = 5 ∨ c = 6 ∨ c = 7 ∨ c = 8 ∨ c = 9 ∨ c = 10 := by omega
    rcases this with rfl | rfl | rfl | rfl | rfl | rfl | rfl | rfl | rfl | rfl
    · exact c1
    · exact c2
    · exact c3
    · exact c4
    · exact c5
    · exact c6
    · exact c7
    · exact c8
    · exact c9
    · exact c10
  · intro c h1 h2
    have : c = 1 ∨ c = 2 ∨ c = 3 ∨ c = 4 ∨ c = 5 ∨ c = 6 ∨ c = 7 ∨ c = 8 ∨ c = 9 ∨ c = 10 := by omega
    rcases this with rfl | rfl | rfl | rfl | rfl | rfl | rfl | rfl | rfl | rfl
    · exact b1
    · exact b2
    · exact b3
    · exact b4
    · exact b5
    · exact b6
    · exact b7
    · exact b8
    · exact b9
    · exact b10
  · have hx : ∀ {a b : Addr} {s t : ByteArray} {x y : List UInt8}, W.cell? a = some (.string s) → W.cell? b = some (.string t) → s.data.toList = x → t.data.toList = y → x ≠ y → a ≠ b := by
      rintro a b s t x y h1 h2 rfl rfl h3 rfl
      rw [h1] at h2
      injection h2 with h2
      injection h2 with h2
      exact h3 (by rw [h2])
    intro c d h1 h2 h3 h4 h5
    obtain ⟨s, q1, q2⟩ := tx c h1 h2
    obtain ⟨t, q3, q4⟩ := tx d h3 h4
    exact hx q1 q3 q2 q4 (textOf_ne c d h1 h2 h3 h4 h5)

/-- the five errors of package region -/
theorem errsOf5 {W : World} (h : laidMet Tryz.prog [("changeling/api.ErrBound", Rows.laid_changeling_api_ErrBound), ("changeling/api.ErrShape", Rows.laid_changeling_api_ErrShape), ("changeling/api.ErrNone", Rows.laid_changeling_api_ErrNone), ("changeling/api.ErrAlign", Rows.laid_changeling_api_ErrAlign), ("changeling/api.ErrFar", Rows.laid_changeling_api_ErrFar)] W) :
    ∃ ea : Nat → Addr, ∀ c, (c = 2 ∨ c = 3 ∨ c = 6 ∨ c = 9 ∨ c = 10) → W.cell? ⟨gOf c, 0, none⟩ = some (errV ea c) := by
  obtain ⟨a2, _, c2, _⟩ := laid_err h Tryz.g_Bound Tryz.t_Bound
  obtain ⟨a3, _, c3, _⟩ := laid_err h.tail Tryz.g_Shape Tryz.t_Shape
  obtain ⟨a6, _, c6, _⟩ := laid_err h.tail.tail Tryz.g_None Tryz.t_None
  obtain ⟨a9, _, c9, _⟩ := laid_err h.tail.tail.tail Tryz.g_Align Tryz.t_Align
  obtain ⟨a10, _, c10, _⟩ := laid_err h.tail.tail.tail.tail Tryz.g_Far Tryz.t_Far
  refine ⟨fun c => if c = 2 then a2 else if c = 3 then a3 else if c = 6 then a6 else if c = 9 then a9 else a10, fun c hc => ?_⟩
  rcases hc with rfl | rfl | rfl | rfl | rfl
  · exact c2
  · exact c3
  · exact c6
  · exact c9
  · exact c10
end Go.Proofs.YtlmnmncdoiealaaGreatDoor

/- KeepActsLaw -/
/-
  KeepActs: for every input the law returns true, and each argument reads behind the call as it read before. Condition: the listed variables hold what the program's text lays in them (the card ties that to the text).
-/
namespace Go.Proofs.YtlmnmncdoiealaaGreatDoor.keepActs
open Go.ChangeShapes Go.WideShapes Go.ChangeAt Go.RowKit
set_option linter.unusedVariables false

theorem door_met (os : Os) (args : Array Value) : laidMetH Tryz.prog Rows.keepActsRow.laid ((World.doorLaid Tryz.prog 400 os).forCall (fun _ _ => 0) ⟨#[], args, []⟩).memory :=
  laidMetH_of_parts3 (fuel := 8) (laidMet_of_run' 8 (by kernel_rfl) (by kernel_rfl)) (by kernel_rfl) (by kernel_rfl)

set_option maxRecDepth 100000 in
theorem lifted (os : Os) (started : os.Started) (H : Type) (enc : TypeId × Value → H) :
    ReturnsInHanded {} Tryz.checked os 3 .any (fun w args => (Rows.keepActsSpec.pre enc Tryz.prog Tryz.f3 [] false w args ∧ laidMetH Tryz.prog Rows.keepActsRow.laid w) ∧ sizedMet enc Tryz.prog Tryz.f3 (OpenSpec.ofChange Rows.keepActsSpec) false w args)
      (Rows.keepActsSpec.post enc Tryz.prog Tryz.f3 false true false false) := by
  refine returnsInHanded_of_change_and (C := Tryz.checked) (X := fun w _ => laidMetH Tryz.prog Rows.keepActsRow.laid w) (fun _ _ _ hh h => h.of_heap hh) Tryz.own started (by kernel_rfl) Tryz.func3
    (ChangeSpec.witness_shaped (enc := enc) (C := Tryz.checked) (os := os) (X := fun w _ => laidMetH Tryz.prog Rows.keepActsRow.laid w) false (World.doorLaid Tryz.prog 400 os) #[.int .i64 0, .slice none 0 0] 8 rfl (World.shaped_of_RefB (by kernel_rfl) (by kernel_rfl)) (by kernel_rfl) (by kernel_rfl) (by kernel_rfl) (door_met os _)) ?_
  intro W base args ds gs before hval0 hW _ _ hL _
  have hval : ∀ (j : Nat) t v, Tryz.f3.params[j]? = some t → args[j]? = some v → Value.okWide Tryz.prog W .any base t v := hval0
  have hW' := hW
  obtain ⟨p, q, hA0, hV, rfl, hfz, hnd⟩ := hW
  have hA : DataW.TrodAll enc Tryz.prog W 0 (fun _ => true) true Tryz.f3.params.toList args.toList ds p := hA0
  rw [Tryz.params3] at hA hval
  obtain ⟨v0, vs0, d0, ds0, p0, q0, hargs, rfl, rfl, h0, r0⟩ := trodAll_cons hA
  obtain ⟨v1, vs1, d1, ds1, p1, q1, rfl, rfl, rfl, h1, r1⟩ := trodAll_cons r0
  obtain ⟨rfl, rfl, rfl⟩ := trodAll_nil r1
  obtain rfl : args = #[v0, v1] := by cases args; simp_all
  obtain ⟨rfl, rfl⟩ := trodVars_none hV
  obtain ⟨a0, rfl, rfl, rfl, w0⟩ := open_int Tryz.underlying3 (hval 0 3 v0 rfl rfl) h0
  obtain ⟨A1, len1, cap1, l1, rfl, V1, hc1⟩ := open_asks (hval 1 22 v1 rfl rfl) h1
  obtain ⟨ea, E⟩ := errsAll (laidMetH_iff.1 hL).1 (laidMetH_iff.1 hL).2
  refine (keepActs_any a0 A1 len1 cap1 l1 W ea E V1 hc1).mono fun e W' ⟨he, hk⟩ => ?_
  subst he
  exact ⟨_, rfl, law_post Tryz.laidOut (fun t ht => by
      rw [Tryz.params3] at ht
      simp at ht
      rcases ht with rfl | rfl <;> exact ⟨by kernel_rfl, of_decide_eq_true (by kernel_rfl)⟩) (by kernel_rfl) Tryz.underlying4 rfl hW' rfl (hk.below (Nat.le_refl _) (fun _ _ h => h.elim))⟩

theorem said : Rows.KeepActsSaid :=
  OpenClaim.holds_of_wide 3 Tryz.f3 rfl rfl rfl rfl rfl rfl rfl ⟨rfl, rfl, rfl, rfl, rfl⟩ rfl rfl rfl rfl rfl (by kernel_rfl) Tryz.func3 (by kernel_rfl)
    (of_decide_eq_true (by kernel_rfl)) (by unfold Func.isWrapper; rw [if_neg (of_decide_eq_false (by kernel_rfl))]; exact ⟨rfl, rfl⟩)
    (fun os started H enc _ => lifted os started H enc)

theorem plain (f : FuncId) (fn : Func) (hf : Tryz.pinned.checked.prog.funcNamed "changeling/changelinglaw3.KeepActs" = some f) (hfn : Tryz.pinned.checked.prog.funcs[f]? = some fn) :
    Rows.keepActsCard.stood.looks = Tryz.pinned.checked.prog.looks [] ∧ ∀ (j : Nat) t, fn.params[j]? = some t → Tryz.pinned.checked.prog.wantsStandIn t = false := by
  obtain rfl : f = 3 := Option.some.inj ((show Tryz.prog.funcNamed "changeling/changelinglaw3.KeepActs" = some 3 by kernel_rfl).symm.trans hf) |>.symm
  obtain rfl : fn = Tryz.f3 := (Option.some.inj (Tryz.func3.symm.trans hfn)).symm
  refine ⟨by kernel_rfl, fun j t ht => ?_⟩
  rw [Tryz.params3] at ht
  have hm := Array.mem_of_getElem? ht
  simp at hm
  rcases hm with rfl | rfl
  · exact (show Tryz.prog.wantsStandIn 3 = false by kernel_rfl)
  · exact (show Tryz.prog.wantsStandIn 22 = false by kernel_rfl)

theorem card : Rows.KeepActsCardSaid :=
  Claim7.holds_tied_plain_at .later [] _ _ _ _ said (fun _ h => by cases h) (by kernel_rfl) (fun _ h => by cases h) keepActs_row_tie rfl ⟨rfl, rfl⟩ (by kernel_rfl) rfl plain (by kernel_rfl)
end Go.Proofs.YtlmnmncdoiealaaGreatDoor.keepActs
namespace Go.Proofs.YtlmnmncdoiealaaGreatDoor
theorem keepActs_card : Rows.KeepActsCardSaid := keepActs.card
end Go.Proofs.YtlmnmncdoiealaaGreatDoor
