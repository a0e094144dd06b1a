/- What the row's list of errors gives the walks: each variable's cell. -/
import Derived.Test.YtlmnmncdoiealaaDoorErr
import Derived.Test.YtlmnmncdoiealaaDoorFrame
import Derived.LaidLaws
import Derived.MakeChecks
import Derived.Stop.LaidErr
import Derived.LaidMore
namespace Go.Proofs.YtlmnmncdoiealaaDoor
open Go.ChangeShapes Go.WideShapes Go.RowKit
set_option linter.unusedVariables false

theorem Tryd.own : ownKnob Tryd.prog.godebug = none := by kernel_rfl
theorem Tryd.laidOut : laidOutB Tryd.prog = true := by kernel_rfl
theorem Tryd.cells_str : Tryd.prog.cellsOf 9 = 1 := by kernel_rfl
theorem Tryd.cells_es : Tryd.prog.cellsOf 208 = 1 := by kernel_rfl
theorem Tryd.cells_u32 : Tryd.prog.cellsOf 29 = 1 := by kernel_rfl
theorem Tryd.rowES (u : TypeId) (h : Tryd.prog.typeName? 3 u = some "*errors.errorString") : u = 187 :=
  typeName_ptr_named (nm := "errors.errorString") (by kernel_rfl) (by kernel_rfl) (by decide) u h
theorem Tryd.gShape : Tryd.prog.globalNamed "changeling/api.ErrShape" = some 2 := by kernel_rfl
theorem Tryd.gAlign : Tryd.prog.globalNamed "changeling/api.ErrAlign" = some 3 := by kernel_rfl
theorem Tryd.gFar : Tryd.prog.globalNamed "changeling/api.ErrFar" = some 4 := by kernel_rfl
theorem Tryd.tShape : (Tryd.prog.globals[2]?).map (·.type) = some 26 := by kernel_rfl
theorem Tryd.tAlign : (Tryd.prog.globals[3]?).map (·.type) = some 26 := by kernel_rfl
theorem Tryd.tFar : (Tryd.prog.globals[4]?).map (·.type) = some 26 := by kernel_rfl

/-- one listed error: its variable's cell -/
theorem sentinel_cell {n : String} {text : List UInt8} {r : List (String × DataW Unit)} {W : World} {g : Nat}
    (h : laidMet Tryd.prog ((n, .iface "*errors.errorString" (.ptr (.agg [.lit (.string text)]))) :: r) W) (hg : Tryd.prog.globalNamed n = some g) (ht : (Tryd.prog.globals[g]?).map (·.type) = some 26) :
    ∃ a : Addr, W.cell? ⟨g, 0, none⟩ = some (.iface 187 (.pointer (some a))) := by
  obtain ⟨a, s, hv, _⟩ := laid_sentinel h hg ht Tryd.underlying26 Tryd.rowES Tryd.underlying187 Tryd.underlying208 rfl rfl Tryd.underlying9 Tryd.cells_es Tryd.cells_str
  exact ⟨a, by simpa using World.var?_cell hg hv 0⟩

theorem errs3 {W : World} (h : laidMetH Tryd.prog [("changeling/api.ErrShape", Rows.laid_changeling_api_ErrShape), ("changeling/api.ErrAlign", Rows.laid_changeling_api_ErrAlign), ("changeling/api.ErrFar", Rows.laid_changeling_api_ErrFar)] W) : ∃ ea, Errs3 W ea := by
  rw [MakeChecks.laidMetH_plain _ _ _ (by kernel_rfl)] at h
  obtain ⟨a3, h3⟩ := sentinel_cell h Tryd.gShape Tryd.tShape
  obtain ⟨a9, h9⟩ := sentinel_cell h.tail Tryd.gAlign Tryd.tAlign
  obtain ⟨a10, h10⟩ := sentinel_cell h.tail.tail Tryd.gFar Tryd.tFar
  exact ⟨fun c => if c = 3 then a3 else if c = 9 then a9 else a10, h3, h9, h10⟩
end Go.Proofs.YtlmnmncdoiealaaDoor
