/-
  NARROWER THAN 'FOR EVERY INPUT', by the rows' own cells (each row's printed sentence says how): KeepActs: laid.
  DERIVED. THE GIVEN ROWS OF THIS SEAT. 1 by the template 'for every input the law returns true; each argument reads behind the call as it read before'; 0 by the template 'total and deterministic' (their statements: YtlmnmncdoiealaaGreatDoorTotals.lean).
  GIVEN WITH THE SEED: the statements are not yours to turn. If you find one false, say at which input.
  Laid BY PROGRAM, IN A SANDBOX (cutbox-rows.mjs): the forced cells as the released guide's own fill.sh prints them over the translation 08af644f21598378… (all of the seat's roots in one cut). By AI agents, Wed Nov 11 2026. No macro, syntax, notation, axiom, sorry.
-/
import Derived.Test.YtlmnmncdoiealaaGreatDoorChecked
import GoSem.Claim
import GoSem.ClaimJoined
import GoSem.ClaimMapViews
import Derived.JoinedTies
import Derived.KernelRfl
namespace Go.Proofs.YtlmnmncdoiealaaGreatDoor
/- THE CELL 'sum', in the pinned program and in every row, IS THE sha256 OF THE DUMP (.gsa) THAT YtlmnmncdoiealaaGreatDoorProg.lean LOADS. Nothing in Lean hashes anything: it is a label: what it is worth is what the hold of that sum in a sandbox is worth. -/
noncomputable def Tryz.pinned : Pinned := { name := "ytlmnmncdoiealaagreatdoor", sum := "08af644f21598378b2849a9ceaf6c57c495b6f062a25495ec6419db544105d69", checked := Tryz.checked }
namespace Rows
def none {H : Type} : Left H := { results := [], args := [] }

/- WHAT THE LISTED PACKAGE-LEVEL VARIABLES READ AS WHEN THE CALL BEGINS. Each datum BY PROGRAM (the guide's laid-datum.mjs) off the statement by which the dump's own 'gosem.cut.vars' lays the variable. In a bare row this is a premise. The card (YtlmnmncdoiealaaGreatDoorCards.lean) ties it to the program's text. -/
def laid_errors_errorType {H : Type} : DataW H := .iface "internal/reflectlite.rtype" (.agg [.ptr (.lit (.string [101, 114, 114, 111, 114]))])
def laid_changeling_api_ErrText {H : Type} : DataW H := .iface "*errors.errorString" (.ptr (.agg [.lit (.string [99, 104, 97, 110, 103, 101, 108, 105, 110, 103, 58, 32, 116, 101, 120, 116])]))
def laid_changeling_api_ErrBound {H : Type} : DataW H := .iface "*errors.errorString" (.ptr (.agg [.lit (.string [99, 104, 97, 110, 103, 101, 108, 105, 110, 103, 58, 32, 98, 111, 117, 110, 100])]))
def laid_changeling_api_ErrShape {H : Type} : DataW H := .iface "*errors.errorString" (.ptr (.agg [.lit (.string [99, 104, 97, 110, 103, 101, 108, 105, 110, 103, 58, 32, 115, 104, 97, 112, 101])]))
def laid_changeling_api_ErrKind {H : Type} : DataW H := .iface "*errors.errorString" (.ptr (.agg [.lit (.string [99, 104, 97, 110, 103, 101, 108, 105, 110, 103, 58, 32, 107, 105, 110, 100])]))
def laid_changeling_api_ErrName {H : Type} : DataW H := .iface "*errors.errorString" (.ptr (.agg [.lit (.string [99, 104, 97, 110, 103, 101, 108, 105, 110, 103, 58, 32, 110, 97, 109, 101])]))
def laid_changeling_api_ErrNone {H : Type} : DataW H := .iface "*errors.errorString" (.ptr (.agg [.lit (.string [99, 104, 97, 110, 103, 101, 108, 105, 110, 103, 58, 32, 110, 111, 110, 101])]))
def laid_changeling_api_ErrExist {H : Type} : DataW H := .iface "*errors.errorString" (.ptr (.agg [.lit (.string [99, 104, 97, 110, 103, 101, 108, 105, 110, 103, 58, 32, 101, 120, 105, 115, 116])]))
def laid_changeling_api_ErrFull {H : Type} : DataW H := .iface "*errors.errorString" (.ptr (.agg [.lit (.string [99, 104, 97, 110, 103, 101, 108, 105, 110, 103, 58, 32, 102, 117, 108, 108])]))
def laid_changeling_api_ErrAlign {H : Type} : DataW H := .iface "*errors.errorString" (.ptr (.agg [.lit (.string [99, 104, 97, 110, 103, 101, 108, 105, 110, 103, 58, 32, 97, 108, 105, 103, 110])]))
def laid_changeling_api_ErrFar {H : Type} : DataW H := .iface "*errors.errorString" (.ptr (.agg [.lit (.string [99, 104, 97, 110, 103, 101, 108, 105, 110, 103, 58, 32, 102, 97, 114])]))

/-- 'changelinglaw3.KeepActs': WHATEVER THE INPUT: true; the input reads as it did. -/
def keepActsSpec : ChangeSpec := { name := "keepActs", fn := fun _ => fun
  | [d1, d2] => { results := [.lit (.bool true)], args := [d1, d2] }
  | _ => none }
def keepActsRow : OpenClaim := { program := "ytlmnmncdoiealaagreatdoor", sum := "08af644f21598378b2849a9ceaf6c57c495b6f062a25495ec6419db544105d69", func := "changeling/changelinglaw3.KeepActs", spec := "keepActs", inPlace := ["internal/bytealg.IndexByteString", "internal/bytealg.IndexString", "internal/reflectlite.ValueOf", "(internal/reflectlite.Value).Type", "(internal/reflectlite.Value).IsNil", "internal/reflectlite.TypeOf", "(internal/reflectlite.Value).Elem", "(internal/reflectlite.Value).Set"], unfollowed := true, recurses := true, named := ["changeling/api.ErrBound", "changeling/api.ErrFull", "changeling/api.ErrShape", "changeling/api.ErrExist", "changeling/api.ErrKind", "internal/bytealg.MaxLen", "changeling/api.ErrText", "changeling/api.ErrName", "changeling/api.ErrNone", "changeling/api.ErrAlign", "changeling/api.ErrFar", "errors.errorType"], apart := false, laid := [("errors.errorType", laid_errors_errorType), ("changeling/api.ErrText", laid_changeling_api_ErrText), ("changeling/api.ErrBound", laid_changeling_api_ErrBound), ("changeling/api.ErrShape", laid_changeling_api_ErrShape), ("changeling/api.ErrKind", laid_changeling_api_ErrKind), ("changeling/api.ErrName", laid_changeling_api_ErrName), ("changeling/api.ErrNone", laid_changeling_api_ErrNone), ("changeling/api.ErrExist", laid_changeling_api_ErrExist), ("changeling/api.ErrFull", laid_changeling_api_ErrFull), ("changeling/api.ErrAlign", laid_changeling_api_ErrAlign), ("changeling/api.ErrFar", laid_changeling_api_ErrFar)] }
def KeepActsSaid : Prop := keepActsRow.holds Tryz.pinned (OpenSpec.ofChange keepActsSpec)

/-- ITS FALSE NEIGHBOUR: 'it returns false'. Refute it at one input. -/
def keepActsWrong : ChangeSpec := { name := "keepActs", fn := fun _ => fun
  | [d1, d2] => { results := [.lit (.bool false)], args := [d1, d2] }
  | _ => none }
def KeepActsWrongFalsely : Prop := keepActsRow.holds Tryz.pinned (OpenSpec.ofChange keepActsWrong)

/- THE SECOND FORM. 'bulk': how many values and letters a reading holds, each counted each time it is reached (what is shared counts as often as it is met; a slice's spare places count too). A statement '..UptoSaid' is the law's where the arguments, and the package variables that the reading takes, are together of bulk at most 1048576: NARROWER than '..Said'. Prove '..Said' where nothing that the law and all that it calls make is longer than what came in: it says more and counts as full. Else prove '..UptoSaid'. A law counts once. -/
mutual
def uptoBulk {H : Type} : DataW H → Nat
  | .lit (.string bytes) => bytes.length + 1
  | .lit _ => 1
  | .nil => 1
  | .ptr d => uptoBulk d + 1
  | .slice elems spare => uptoBulkAll elems + uptoBulkAll spare + 1
  | .agg parts => uptoBulkAll parts + 1
  | .iface _ d => uptoBulk d + 1
  | .map entries => uptoBulkEntries entries + 1
  | .held _ => 1
def uptoBulkAll {H : Type} : List (DataW H) → Nat
  | [] => 0
  | d :: r => uptoBulk d + uptoBulkAll r
def uptoBulkEntries {H : Type} : List (Lit × DataW H) → Nat
  | [] => 0
  | x :: r => uptoBulkEntry x + uptoBulkEntries r
def uptoBulkEntry {H : Type} : Lit × DataW H → Nat
  | (.string bytes, d) => bytes.length + uptoBulk d + 1
  | (_, d) => uptoBulk d + 1
 end
def uptoSmall : (H : Type) → List (DataW H) → Bool := fun _ ds => decide (uptoBulkAll ds ≤ 1048576)
def OpenSpec.upto (s : _root_.Go.ChangeSpec) : _root_.Go.OpenSpec := { _root_.Go.OpenSpec.ofChange s with cond := some uptoSmall }

/-- 'changelinglaw3.KeepActs', WHERE WHAT IT READS IS OF BULK AT MOST 1048576: true; the input reads as it did. -/
def keepActsUptoRow : OpenClaim := { program := "ytlmnmncdoiealaagreatdoor", sum := "08af644f21598378b2849a9ceaf6c57c495b6f062a25495ec6419db544105d69", func := "changeling/changelinglaw3.KeepActs", spec := "keepActs", inPlace := ["internal/bytealg.IndexByteString", "internal/bytealg.IndexString", "internal/reflectlite.ValueOf", "(internal/reflectlite.Value).Type", "(internal/reflectlite.Value).IsNil", "internal/reflectlite.TypeOf", "(internal/reflectlite.Value).Elem", "(internal/reflectlite.Value).Set"], unfollowed := true, recurses := true, named := ["changeling/api.ErrBound", "changeling/api.ErrFull", "changeling/api.ErrShape", "changeling/api.ErrExist", "changeling/api.ErrKind", "internal/bytealg.MaxLen", "changeling/api.ErrText", "changeling/api.ErrName", "changeling/api.ErrNone", "changeling/api.ErrAlign", "changeling/api.ErrFar", "errors.errorType"], apart := false, laid := [("errors.errorType", laid_errors_errorType), ("changeling/api.ErrText", laid_changeling_api_ErrText), ("changeling/api.ErrBound", laid_changeling_api_ErrBound), ("changeling/api.ErrShape", laid_changeling_api_ErrShape), ("changeling/api.ErrKind", laid_changeling_api_ErrKind), ("changeling/api.ErrName", laid_changeling_api_ErrName), ("changeling/api.ErrNone", laid_changeling_api_ErrNone), ("changeling/api.ErrExist", laid_changeling_api_ErrExist), ("changeling/api.ErrFull", laid_changeling_api_ErrFull), ("changeling/api.ErrAlign", laid_changeling_api_ErrAlign), ("changeling/api.ErrFar", laid_changeling_api_ErrFar)], narrowed := true }
def KeepActsUptoSaid : Prop := keepActsUptoRow.holds Tryz.pinned (OpenSpec.upto keepActsSpec)

end Rows
end Go.Proofs.YtlmnmncdoiealaaGreatDoor
