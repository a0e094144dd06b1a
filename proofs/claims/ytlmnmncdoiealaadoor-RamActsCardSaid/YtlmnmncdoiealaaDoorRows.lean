/-
  NARROWER THAN 'FOR EVERY INPUT', by the rows' own cells (each row's printed sentence says how): KeepDrops: laid · RamActs: laid.
  DERIVED. THE GIVEN ROWS OF THIS SEAT. 2 by the template 'for every input the law returns true; each argument reads behind the call as it read before'; 0 by the template 'total and deterministic' (their statements: YtlmnmncdoiealaaDoorTotals.lean).
  GIVEN WITH THE SEED: the statements are not yours to turn. If you find one false, say at which input.
  Laid BY PROGRAM, IN A SANDBOX (cutbox-rows.mjs): the forced cells as the released guide's own fill.sh prints them over the translation 8f65048b5eebb05f… (all of the seat's roots in one cut). By AI agents, Wed Nov 11 2026. No macro, syntax, notation, axiom, sorry.
-/
import Derived.Test.YtlmnmncdoiealaaDoorChecked
import GoSem.Claim
import GoSem.ClaimJoined
import GoSem.ClaimMapViews
import Derived.JoinedTies
import Derived.KernelRfl
namespace Go.Proofs.YtlmnmncdoiealaaDoor
/- THE CELL 'sum', in the pinned program and in every row, IS THE sha256 OF THE DUMP (.gsa) THAT YtlmnmncdoiealaaDoorProg.lean LOADS. Nothing in Lean hashes anything: it is a label: what it is worth is what the hold of that sum in a sandbox is worth. -/
noncomputable def Tryd.pinned : Pinned := { name := "ytlmnmncdoiealaadoor", sum := "8f65048b5eebb05f5579134b6db4b342250e52e397b3180e10bd426badcf2135", checked := Tryd.checked }
namespace Rows
def none {H : Type} : Left H := { results := [], args := [] }

/- WHAT THE LISTED PACKAGE-LEVEL VARIABLES READ AS WHEN THE CALL BEGINS. Each datum BY PROGRAM (the guide's laid-datum.mjs) off the statement by which the dump's own 'gosem.cut.vars' lays the variable. In a bare row this is a premise. The card (YtlmnmncdoiealaaDoorCards.lean) ties it to the program's text. -/
def laid_changeling_api_ErrBound {H : Type} : DataW H := .iface "*errors.errorString" (.ptr (.agg [.lit (.string [99, 104, 97, 110, 103, 101, 108, 105, 110, 103, 58, 32, 98, 111, 117, 110, 100])]))
def laid_changeling_api_ErrShape {H : Type} : DataW H := .iface "*errors.errorString" (.ptr (.agg [.lit (.string [99, 104, 97, 110, 103, 101, 108, 105, 110, 103, 58, 32, 115, 104, 97, 112, 101])]))
def laid_changeling_api_ErrKind {H : Type} : DataW H := .iface "*errors.errorString" (.ptr (.agg [.lit (.string [99, 104, 97, 110, 103, 101, 108, 105, 110, 103, 58, 32, 107, 105, 110, 100])]))
def laid_changeling_api_ErrExist {H : Type} : DataW H := .iface "*errors.errorString" (.ptr (.agg [.lit (.string [99, 104, 97, 110, 103, 101, 108, 105, 110, 103, 58, 32, 101, 120, 105, 115, 116])]))
def laid_changeling_api_ErrFull {H : Type} : DataW H := .iface "*errors.errorString" (.ptr (.agg [.lit (.string [99, 104, 97, 110, 103, 101, 108, 105, 110, 103, 58, 32, 102, 117, 108, 108])]))
def laid_errors_errorType {H : Type} : DataW H := .iface "internal/reflectlite.rtype" (.agg [.ptr (.lit (.string [101, 114, 114, 111, 114]))])
def laid_changeling_api_ErrText {H : Type} : DataW H := .iface "*errors.errorString" (.ptr (.agg [.lit (.string [99, 104, 97, 110, 103, 101, 108, 105, 110, 103, 58, 32, 116, 101, 120, 116])]))
def laid_changeling_api_ErrName {H : Type} : DataW H := .iface "*errors.errorString" (.ptr (.agg [.lit (.string [99, 104, 97, 110, 103, 101, 108, 105, 110, 103, 58, 32, 110, 97, 109, 101])]))
def laid_changeling_api_ErrNone {H : Type} : DataW H := .iface "*errors.errorString" (.ptr (.agg [.lit (.string [99, 104, 97, 110, 103, 101, 108, 105, 110, 103, 58, 32, 110, 111, 110, 101])]))
def laid_changeling_api_ErrAlign {H : Type} : DataW H := .iface "*errors.errorString" (.ptr (.agg [.lit (.string [99, 104, 97, 110, 103, 101, 108, 105, 110, 103, 58, 32, 97, 108, 105, 103, 110])]))
def laid_changeling_api_ErrFar {H : Type} : DataW H := .iface "*errors.errorString" (.ptr (.agg [.lit (.string [99, 104, 97, 110, 103, 101, 108, 105, 110, 103, 58, 32, 102, 97, 114])]))

/-- 'changelinglaw3.KeepDrops': WHATEVER THE INPUT: true; the input reads as it did. -/
def keepDropsSpec : ChangeSpec := { name := "keepDrops", fn := fun _ => fun
  | [d1, d2, d3] => { results := [.lit (.bool true)], args := [d1, d2, d3] }
  | _ => none }
def keepDropsRow : OpenClaim := { program := "ytlmnmncdoiealaadoor", sum := "8f65048b5eebb05f5579134b6db4b342250e52e397b3180e10bd426badcf2135", func := "changeling/changelinglaw3.KeepDrops", spec := "keepDrops", inPlace := ["internal/bytealg.IndexByteString", "internal/bytealg.IndexString"], unfollowed := true, recurses := true, named := ["changeling/api.ErrBound", "changeling/api.ErrFull", "changeling/api.ErrShape", "changeling/api.ErrExist", "changeling/api.ErrKind", "internal/bytealg.MaxLen"], apart := false, laid := [("changeling/api.ErrBound", laid_changeling_api_ErrBound), ("changeling/api.ErrShape", laid_changeling_api_ErrShape), ("changeling/api.ErrKind", laid_changeling_api_ErrKind), ("changeling/api.ErrExist", laid_changeling_api_ErrExist), ("changeling/api.ErrFull", laid_changeling_api_ErrFull)] }
def KeepDropsSaid : Prop := keepDropsRow.holds Tryd.pinned (OpenSpec.ofChange keepDropsSpec)

/-- ITS FALSE NEIGHBOUR: 'it returns false'. Refute it at one input. -/
def keepDropsWrong : ChangeSpec := { name := "keepDrops", fn := fun _ => fun
  | [d1, d2, d3] => { results := [.lit (.bool false)], args := [d1, d2, d3] }
  | _ => none }
def KeepDropsWrongFalsely : Prop := keepDropsRow.holds Tryd.pinned (OpenSpec.ofChange keepDropsWrong)

/-- 'changelinglaw2.RamActs': WHATEVER THE INPUT: true; the input reads as it did. -/
def ramActsSpec : ChangeSpec := { name := "ramActs", fn := fun _ => fun
  | [d1, d2] => { results := [.lit (.bool true)], args := [d1, d2] }
  | _ => none }
def ramActsRow : OpenClaim := { program := "ytlmnmncdoiealaadoor", sum := "8f65048b5eebb05f5579134b6db4b342250e52e397b3180e10bd426badcf2135", func := "changeling/changelinglaw2.RamActs", spec := "ramActs", inPlace := ["internal/reflectlite.ValueOf", "(internal/reflectlite.Value).Type", "(internal/reflectlite.Value).IsNil", "internal/reflectlite.TypeOf", "(internal/reflectlite.Value).Elem", "(internal/reflectlite.Value).Set", "maps.clone"], unfollowed := true, recurses := true, named := ["changeling/api.ErrShape", "changeling/api.ErrAlign", "changeling/api.ErrFar", "changeling/api.ErrText", "changeling/api.ErrBound", "changeling/api.ErrKind", "changeling/api.ErrName", "changeling/api.ErrNone", "changeling/api.ErrExist", "changeling/api.ErrFull", "errors.errorType"], apart := false, laid := [("errors.errorType", laid_errors_errorType), ("changeling/api.ErrText", laid_changeling_api_ErrText), ("changeling/api.ErrBound", laid_changeling_api_ErrBound), ("changeling/api.ErrShape", laid_changeling_api_ErrShape), ("changeling/api.ErrKind", laid_changeling_api_ErrKind), ("changeling/api.ErrName", laid_changeling_api_ErrName), ("changeling/api.ErrNone", laid_changeling_api_ErrNone), ("changeling/api.ErrExist", laid_changeling_api_ErrExist), ("changeling/api.ErrFull", laid_changeling_api_ErrFull), ("changeling/api.ErrAlign", laid_changeling_api_ErrAlign), ("changeling/api.ErrFar", laid_changeling_api_ErrFar)] }
def RamActsSaid : Prop := ramActsRow.holds Tryd.pinned (OpenSpec.ofChange ramActsSpec)

/-- ITS FALSE NEIGHBOUR: 'it returns false'. Refute it at one input. -/
def ramActsWrong : ChangeSpec := { name := "ramActs", fn := fun _ => fun
  | [d1, d2] => { results := [.lit (.bool false)], args := [d1, d2] }
  | _ => none }
def RamActsWrongFalsely : Prop := ramActsRow.holds Tryd.pinned (OpenSpec.ofChange ramActsWrong)

/- THE SECOND FORM. 'bulk': how many values and letters a reading holds, each counted each time it is reached (what is shared counts as often as it is met; a slice's spare places count too). A statement '..UptoSaid' is the law's where the arguments, and the package variables that the reading takes, are together of bulk at most 1048576: NARROWER than '..Said'. Prove '..Said' where nothing that the law and all that it calls make is longer than what came in: it says more and counts as full. Else prove '..UptoSaid'. A law counts once. -/
mutual
def uptoBulk {H : Type} : DataW H → Nat
  | .lit (.string bytes) => bytes.length + 1
  | .lit _ => 1
  | .nil => 1
  | .ptr d => uptoBulk d + 1
  | .slice elems spare => uptoBulkAll elems + uptoBulkAll spare + 1
  | .agg parts => uptoBulkAll parts + 1
  | .iface _ d => uptoBulk d + 1
  | .map entries => uptoBulkEntries entries + 1
  | .held _ => 1
def uptoBulkAll {H : Type} : List (DataW H) → Nat
  | [] => 0
  | d :: r => uptoBulk d + uptoBulkAll r
def uptoBulkEntries {H : Type} : List (Lit × DataW H) → Nat
  | [] => 0
  | x :: r => uptoBulkEntry x + uptoBulkEntries r
def uptoBulkEntry {H : Type} : Lit × DataW H → Nat
  | (.string bytes, d) => bytes.length + uptoBulk d + 1
  | (_, d) => uptoBulk d + 1
 end
def uptoSmall : (H : Type) → List (DataW H) → Bool := fun _ ds => decide (uptoBulkAll ds ≤ 1048576)
def OpenSpec.upto (s : _root_.Go.ChangeSpec) : _root_.Go.OpenSpec := { _root_.Go.OpenSpec.ofChange s with cond := some uptoSmall }

/-- 'changelinglaw3.KeepDrops', WHERE WHAT IT READS IS OF BULK AT MOST 1048576: true; the input reads as it did. -/
def keepDropsUptoRow : OpenClaim := { program := "ytlmnmncdoiealaadoor", sum := "8f65048b5eebb05f5579134b6db4b342250e52e397b3180e10bd426badcf2135", func := "changeling/changelinglaw3.KeepDrops", spec := "keepDrops", inPlace := ["internal/bytealg.IndexByteString", "internal/bytealg.IndexString"], unfollowed := true, recurses := true, named := ["changeling/api.ErrBound", "changeling/api.ErrFull", "changeling/api.ErrShape", "changeling/api.ErrExist", "changeling/api.ErrKind", "internal/bytealg.MaxLen"], apart := false, laid := [("changeling/api.ErrBound", laid_changeling_api_ErrBound), ("changeling/api.ErrShape", laid_changeling_api_ErrShape), ("changeling/api.ErrKind", laid_changeling_api_ErrKind), ("changeling/api.ErrExist", laid_changeling_api_ErrExist), ("changeling/api.ErrFull", laid_changeling_api_ErrFull)], narrowed := true }
def KeepDropsUptoSaid : Prop := keepDropsUptoRow.holds Tryd.pinned (OpenSpec.upto keepDropsSpec)

/-- 'changelinglaw2.RamActs', WHERE WHAT IT READS IS OF BULK AT MOST 1048576: true; the input reads as it did. -/
def ramActsUptoRow : OpenClaim := { program := "ytlmnmncdoiealaadoor", sum := "8f65048b5eebb05f5579134b6db4b342250e52e397b3180e10bd426badcf2135", func := "changeling/changelinglaw2.RamActs", spec := "ramActs", inPlace := ["internal/reflectlite.ValueOf", "(internal/reflectlite.Value).Type", "(internal/reflectlite.Value).IsNil", "internal/reflectlite.TypeOf", "(internal/reflectlite.Value).Elem", "(internal/reflectlite.Value).Set", "maps.clone"], unfollowed := true, recurses := true, named := ["changeling/api.ErrShape", "changeling/api.ErrAlign", "changeling/api.ErrFar", "changeling/api.ErrText", "changeling/api.ErrBound", "changeling/api.ErrKind", "changeling/api.ErrName", "changeling/api.ErrNone", "changeling/api.ErrExist", "changeling/api.ErrFull", "errors.errorType"], apart := false, laid := [("errors.errorType", laid_errors_errorType), ("changeling/api.ErrText", laid_changeling_api_ErrText), ("changeling/api.ErrBound", laid_changeling_api_ErrBound), ("changeling/api.ErrShape", laid_changeling_api_ErrShape), ("changeling/api.ErrKind", laid_changeling_api_ErrKind), ("changeling/api.ErrName", laid_changeling_api_ErrName), ("changeling/api.ErrNone", laid_changeling_api_ErrNone), ("changeling/api.ErrExist", laid_changeling_api_ErrExist), ("changeling/api.ErrFull", laid_changeling_api_ErrFull), ("changeling/api.ErrAlign", laid_changeling_api_ErrAlign), ("changeling/api.ErrFar", laid_changeling_api_ErrFar)], narrowed := true }
def RamActsUptoSaid : Prop := ramActsUptoRow.holds Tryd.pinned (OpenSpec.upto ramActsSpec)

end Rows
end Go.Proofs.YtlmnmncdoiealaaDoor
