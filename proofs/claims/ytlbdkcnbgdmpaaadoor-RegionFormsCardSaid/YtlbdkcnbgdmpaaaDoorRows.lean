/-
  NARROWER THAN 'FOR EVERY INPUT', by the rows' own cells (each row's printed sentence says how): RegionJoins: laid · RegionForms: laid · CpuTakes: laid · CpuWaits: laid · CpuGoes: laid.
  DERIVED. THE GIVEN ROWS OF THIS SEAT. 5 by the template 'for every input the law returns true; each argument reads behind the call as it read before'; 0 by the template 'total and deterministic' (their statements: YtlbdkcnbgdmpaaaDoorTotals.lean).
  GIVEN WITH THE SEED: the statements are not yours to turn. If you find one false, say at which input.
  Laid BY PROGRAM, IN A SANDBOX (cutbox-rows.mjs): the forced cells as the released guide's own fill.sh prints them over the translation f00d63619e02d3fb… (all of the seat's roots in one cut). By AI agents, Wed Nov 11 2026. No macro, syntax, notation, axiom, sorry.
-/
import Derived.Test.YtlbdkcnbgdmpaaaDoorChecked
import GoSem.Claim
import GoSem.ClaimJoined
import GoSem.ClaimMapViews
import Derived.JoinedTies
import Derived.KernelRfl
namespace Go.Proofs.YtlbdkcnbgdmpaaaDoor
/- THE CELL 'sum', in the pinned program and in every row, IS THE sha256 OF THE DUMP (.gsa) THAT YtlbdkcnbgdmpaaaDoorProg.lean LOADS. Nothing in Lean hashes anything: it is a label: what it is worth is what the hold of that sum in a sandbox is worth. -/
noncomputable def Tryd.pinned : Pinned := { name := "ytlbdkcnbgdmpaaadoor", sum := "f00d63619e02d3fb337beef59c6e3191662a0d61de48f3e7cb5425311a13004f", checked := Tryd.checked }
namespace Rows
def none {H : Type} : Left H := { results := [], args := [] }

/- WHAT THE LISTED PACKAGE-LEVEL VARIABLES READ AS WHEN THE CALL BEGINS. Each datum BY PROGRAM (the guide's laid-datum.mjs) off the statement by which the dump's own 'gosem.cut.vars' lays the variable. In a bare row this is a premise. The card (YtlbdkcnbgdmpaaaDoorCards.lean) ties it to the program's text. -/
def laid_changeling_api_ErrBound {H : Type} : DataW H := .iface "*errors.errorString" (.ptr (.agg [.lit (.string [99, 104, 97, 110, 103, 101, 108, 105, 110, 103, 58, 32, 98, 111, 117, 110, 100])]))
def laid_changeling_api_ErrShape {H : Type} : DataW H := .iface "*errors.errorString" (.ptr (.agg [.lit (.string [99, 104, 97, 110, 103, 101, 108, 105, 110, 103, 58, 32, 115, 104, 97, 112, 101])]))
def laid_changeling_api_ErrNone {H : Type} : DataW H := .iface "*errors.errorString" (.ptr (.agg [.lit (.string [99, 104, 97, 110, 103, 101, 108, 105, 110, 103, 58, 32, 110, 111, 110, 101])]))
def laid_changeling_api_ErrAlign {H : Type} : DataW H := .iface "*errors.errorString" (.ptr (.agg [.lit (.string [99, 104, 97, 110, 103, 101, 108, 105, 110, 103, 58, 32, 97, 108, 105, 103, 110])]))
def laid_changeling_api_ErrFar {H : Type} : DataW H := .iface "*errors.errorString" (.ptr (.agg [.lit (.string [99, 104, 97, 110, 103, 101, 108, 105, 110, 103, 58, 32, 102, 97, 114])]))
def laid_errors_errorType {H : Type} : DataW H := .iface "internal/reflectlite.rtype" (.agg [.ptr (.lit (.string [101, 114, 114, 111, 114]))])
def laid_changeling_api_ErrText {H : Type} : DataW H := .iface "*errors.errorString" (.ptr (.agg [.lit (.string [99, 104, 97, 110, 103, 101, 108, 105, 110, 103, 58, 32, 116, 101, 120, 116])]))
def laid_changeling_api_ErrKind {H : Type} : DataW H := .iface "*errors.errorString" (.ptr (.agg [.lit (.string [99, 104, 97, 110, 103, 101, 108, 105, 110, 103, 58, 32, 107, 105, 110, 100])]))
def laid_changeling_api_ErrName {H : Type} : DataW H := .iface "*errors.errorString" (.ptr (.agg [.lit (.string [99, 104, 97, 110, 103, 101, 108, 105, 110, 103, 58, 32, 110, 97, 109, 101])]))
def laid_changeling_api_ErrExist {H : Type} : DataW H := .iface "*errors.errorString" (.ptr (.agg [.lit (.string [99, 104, 97, 110, 103, 101, 108, 105, 110, 103, 58, 32, 101, 120, 105, 115, 116])]))
def laid_changeling_api_ErrFull {H : Type} : DataW H := .iface "*errors.errorString" (.ptr (.agg [.lit (.string [99, 104, 97, 110, 103, 101, 108, 105, 110, 103, 58, 32, 102, 117, 108, 108])]))

/-- 'changelinglaw2.RegionJoins': WHATEVER THE INPUT: true; the input reads as it did. -/
def regionJoinsSpec : ChangeSpec := { name := "regionJoins", fn := fun _ => fun
  | [d1, d2, d3] => { results := [.lit (.bool true)], args := [d1, d2, d3] }
  | _ => none }
def regionJoinsRow : OpenClaim := { program := "ytlbdkcnbgdmpaaadoor", sum := "f00d63619e02d3fb337beef59c6e3191662a0d61de48f3e7cb5425311a13004f", func := "changeling/changelinglaw2.RegionJoins", spec := "regionJoins", named := ["changeling/api.ErrShape", "changeling/api.ErrBound", "changeling/api.ErrAlign", "changeling/api.ErrFar", "changeling/api.ErrNone"], apart := false, laid := [("changeling/api.ErrBound", laid_changeling_api_ErrBound), ("changeling/api.ErrShape", laid_changeling_api_ErrShape), ("changeling/api.ErrNone", laid_changeling_api_ErrNone), ("changeling/api.ErrAlign", laid_changeling_api_ErrAlign), ("changeling/api.ErrFar", laid_changeling_api_ErrFar)] }
def RegionJoinsSaid : Prop := regionJoinsRow.holds Tryd.pinned (OpenSpec.ofChange regionJoinsSpec)

/-- ITS FALSE NEIGHBOUR: 'it returns false'. Refute it at one input. -/
def regionJoinsWrong : ChangeSpec := { name := "regionJoins", fn := fun _ => fun
  | [d1, d2, d3] => { results := [.lit (.bool false)], args := [d1, d2, d3] }
  | _ => none }
def RegionJoinsWrongFalsely : Prop := regionJoinsRow.holds Tryd.pinned (OpenSpec.ofChange regionJoinsWrong)

/-- 'changelinglaw2.RegionForms': WHATEVER THE INPUT: true; the input reads as it did. -/
def regionFormsSpec : ChangeSpec := { name := "regionForms", fn := fun _ => fun
  | [d1, d2, d3] => { results := [.lit (.bool true)], args := [d1, d2, d3] }
  | _ => none }
def regionFormsRow : OpenClaim := { program := "ytlbdkcnbgdmpaaadoor", sum := "f00d63619e02d3fb337beef59c6e3191662a0d61de48f3e7cb5425311a13004f", func := "changeling/changelinglaw2.RegionForms", spec := "regionForms", inPlace := ["internal/reflectlite.ValueOf", "(internal/reflectlite.Value).Type", "(internal/reflectlite.Value).IsNil", "internal/reflectlite.TypeOf", "(internal/reflectlite.Value).Elem", "(internal/reflectlite.Value).Set"], unfollowed := true, recurses := true, named := ["changeling/api.ErrShape", "changeling/api.ErrBound", "changeling/api.ErrAlign", "changeling/api.ErrFar", "changeling/api.ErrNone", "changeling/api.ErrText", "changeling/api.ErrKind", "changeling/api.ErrName", "changeling/api.ErrExist", "changeling/api.ErrFull", "errors.errorType"], apart := false, laid := [("errors.errorType", laid_errors_errorType), ("changeling/api.ErrText", laid_changeling_api_ErrText), ("changeling/api.ErrBound", laid_changeling_api_ErrBound), ("changeling/api.ErrShape", laid_changeling_api_ErrShape), ("changeling/api.ErrKind", laid_changeling_api_ErrKind), ("changeling/api.ErrName", laid_changeling_api_ErrName), ("changeling/api.ErrNone", laid_changeling_api_ErrNone), ("changeling/api.ErrExist", laid_changeling_api_ErrExist), ("changeling/api.ErrFull", laid_changeling_api_ErrFull), ("changeling/api.ErrAlign", laid_changeling_api_ErrAlign), ("changeling/api.ErrFar", laid_changeling_api_ErrFar)] }
def RegionFormsSaid : Prop := regionFormsRow.holds Tryd.pinned (OpenSpec.ofChange regionFormsSpec)

/-- ITS FALSE NEIGHBOUR: 'it returns false'. Refute it at one input. -/
def regionFormsWrong : ChangeSpec := { name := "regionForms", fn := fun _ => fun
  | [d1, d2, d3] => { results := [.lit (.bool false)], args := [d1, d2, d3] }
  | _ => none }
def RegionFormsWrongFalsely : Prop := regionFormsRow.holds Tryd.pinned (OpenSpec.ofChange regionFormsWrong)

/-- 'changelinglaw2.CpuTakes': WHATEVER THE INPUT: true; the input reads as it did. -/
def cpuTakesSpec : ChangeSpec := { name := "cpuTakes", fn := fun _ => fun
  | [d1, d2, d3] => { results := [.lit (.bool true)], args := [d1, d2, d3] }
  | _ => none }
def cpuTakesRow : OpenClaim := { program := "ytlbdkcnbgdmpaaadoor", sum := "f00d63619e02d3fb337beef59c6e3191662a0d61de48f3e7cb5425311a13004f", func := "changeling/changelinglaw2.CpuTakes", spec := "cpuTakes", named := ["changeling/api.ErrShape", "changeling/api.ErrAlign", "changeling/api.ErrFar"], apart := false, laid := [("changeling/api.ErrShape", laid_changeling_api_ErrShape), ("changeling/api.ErrAlign", laid_changeling_api_ErrAlign), ("changeling/api.ErrFar", laid_changeling_api_ErrFar)] }
def CpuTakesSaid : Prop := cpuTakesRow.holds Tryd.pinned (OpenSpec.ofChange cpuTakesSpec)

/-- ITS FALSE NEIGHBOUR: 'it returns false'. Refute it at one input. -/
def cpuTakesWrong : ChangeSpec := { name := "cpuTakes", fn := fun _ => fun
  | [d1, d2, d3] => { results := [.lit (.bool false)], args := [d1, d2, d3] }
  | _ => none }
def CpuTakesWrongFalsely : Prop := cpuTakesRow.holds Tryd.pinned (OpenSpec.ofChange cpuTakesWrong)

/-- 'changelinglaw2.CpuWaits': WHATEVER THE INPUT: true; the input reads as it did. -/
def cpuWaitsSpec : ChangeSpec := { name := "cpuWaits", fn := fun _ => fun
  | [d1, d2, d3] => { results := [.lit (.bool true)], args := [d1, d2, d3] }
  | _ => none }
def cpuWaitsRow : OpenClaim := { program := "ytlbdkcnbgdmpaaadoor", sum := "f00d63619e02d3fb337beef59c6e3191662a0d61de48f3e7cb5425311a13004f", func := "changeling/changelinglaw2.CpuWaits", spec := "cpuWaits", named := ["changeling/api.ErrShape", "changeling/api.ErrAlign", "changeling/api.ErrFar"], apart := false, laid := [("changeling/api.ErrShape", laid_changeling_api_ErrShape), ("changeling/api.ErrAlign", laid_changeling_api_ErrAlign), ("changeling/api.ErrFar", laid_changeling_api_ErrFar)] }
def CpuWaitsSaid : Prop := cpuWaitsRow.holds Tryd.pinned (OpenSpec.ofChange cpuWaitsSpec)

/-- ITS FALSE NEIGHBOUR: 'it returns false'. Refute it at one input. -/
def cpuWaitsWrong : ChangeSpec := { name := "cpuWaits", fn := fun _ => fun
  | [d1, d2, d3] => { results := [.lit (.bool false)], args := [d1, d2, d3] }
  | _ => none }
def CpuWaitsWrongFalsely : Prop := cpuWaitsRow.holds Tryd.pinned (OpenSpec.ofChange cpuWaitsWrong)

/-- 'changelinglaw2.CpuGoes': WHATEVER THE INPUT: true; the input reads as it did. -/
def cpuGoesSpec : ChangeSpec := { name := "cpuGoes", fn := fun _ => fun
  | [d1, d2, d3, d4] => { results := [.lit (.bool true)], args := [d1, d2, d3, d4] }
  | _ => none }
def cpuGoesRow : OpenClaim := { program := "ytlbdkcnbgdmpaaadoor", sum := "f00d63619e02d3fb337beef59c6e3191662a0d61de48f3e7cb5425311a13004f", func := "changeling/changelinglaw2.CpuGoes", spec := "cpuGoes", named := ["changeling/api.ErrShape", "changeling/api.ErrAlign", "changeling/api.ErrFar"], apart := false, laid := [("changeling/api.ErrShape", laid_changeling_api_ErrShape), ("changeling/api.ErrAlign", laid_changeling_api_ErrAlign), ("changeling/api.ErrFar", laid_changeling_api_ErrFar)] }
def CpuGoesSaid : Prop := cpuGoesRow.holds Tryd.pinned (OpenSpec.ofChange cpuGoesSpec)

/-- ITS FALSE NEIGHBOUR: 'it returns false'. Refute it at one input. -/
def cpuGoesWrong : ChangeSpec := { name := "cpuGoes", fn := fun _ => fun
  | [d1, d2, d3, d4] => { results := [.lit (.bool false)], args := [d1, d2, d3, d4] }
  | _ => none }
def CpuGoesWrongFalsely : Prop := cpuGoesRow.holds Tryd.pinned (OpenSpec.ofChange cpuGoesWrong)

/- THE SECOND FORM. 'bulk': how many values and letters a reading holds, each counted each time it is reached (what is shared counts as often as it is met; a slice's spare places count too). A statement '..UptoSaid' is the law's where the arguments, and the package variables that the reading takes, are together of bulk at most 1048576: NARROWER than '..Said'. Prove '..Said' where nothing that the law and all that it calls make is longer than what came in: it says more and counts as full. Else prove '..UptoSaid'. A law counts once. -/
mutual
def uptoBulk {H : Type} : DataW H → Nat
  | .lit (.string bytes) => bytes.length + 1
  | .lit _ => 1
  | .nil => 1
  | .ptr d => uptoBulk d + 1
  | .slice elems spare => uptoBulkAll elems + uptoBulkAll spare + 1
  | .agg parts => uptoBulkAll parts + 1
  | .iface _ d => uptoBulk d + 1
  | .map entries => uptoBulkEntries entries + 1
  | .held _ => 1
def uptoBulkAll {H : Type} : List (DataW H) → Nat
  | [] => 0
  | d :: r => uptoBulk d + uptoBulkAll r
def uptoBulkEntries {H : Type} : List (Lit × DataW H) → Nat
  | [] => 0
  | x :: r => uptoBulkEntry x + uptoBulkEntries r
def uptoBulkEntry {H : Type} : Lit × DataW H → Nat
  | (.string bytes, d) => bytes.length + uptoBulk d + 1
  | (_, d) => uptoBulk d + 1
 end
def uptoSmall : (H : Type) → List (DataW H) → Bool := fun _ ds => decide (uptoBulkAll ds ≤ 1048576)
def OpenSpec.upto (s : _root_.Go.ChangeSpec) : _root_.Go.OpenSpec := { _root_.Go.OpenSpec.ofChange s with cond := some uptoSmall }

/-- 'changelinglaw2.RegionJoins', WHERE WHAT IT READS IS OF BULK AT MOST 1048576: true; the input reads as it did. -/
def regionJoinsUptoRow : OpenClaim := { program := "ytlbdkcnbgdmpaaadoor", sum := "f00d63619e02d3fb337beef59c6e3191662a0d61de48f3e7cb5425311a13004f", func := "changeling/changelinglaw2.RegionJoins", spec := "regionJoins", named := ["changeling/api.ErrShape", "changeling/api.ErrBound", "changeling/api.ErrAlign", "changeling/api.ErrFar", "changeling/api.ErrNone"], apart := false, laid := [("changeling/api.ErrBound", laid_changeling_api_ErrBound), ("changeling/api.ErrShape", laid_changeling_api_ErrShape), ("changeling/api.ErrNone", laid_changeling_api_ErrNone), ("changeling/api.ErrAlign", laid_changeling_api_ErrAlign), ("changeling/api.ErrFar", laid_changeling_api_ErrFar)], narrowed := true }
def RegionJoinsUptoSaid : Prop := regionJoinsUptoRow.holds Tryd.pinned (OpenSpec.upto regionJoinsSpec)

/-- 'changelinglaw2.RegionForms', WHERE WHAT IT READS IS OF BULK AT MOST 1048576: true; the input reads as it did. -/
def regionFormsUptoRow : OpenClaim := { program := "ytlbdkcnbgdmpaaadoor", sum := "f00d63619e02d3fb337beef59c6e3191662a0d61de48f3e7cb5425311a13004f", func := "changeling/changelinglaw2.RegionForms", spec := "regionForms", inPlace := ["internal/reflectlite.ValueOf", "(internal/reflectlite.Value).Type", "(internal/reflectlite.Value).IsNil", "internal/reflectlite.TypeOf", "(internal/reflectlite.Value).Elem", "(internal/reflectlite.Value).Set"], unfollowed := true, recurses := true, named := ["changeling/api.ErrShape", "changeling/api.ErrBound", "changeling/api.ErrAlign", "changeling/api.ErrFar", "changeling/api.ErrNone", "changeling/api.ErrText", "changeling/api.ErrKind", "changeling/api.ErrName", "changeling/api.ErrExist", "changeling/api.ErrFull", "errors.errorType"], apart := false, laid := [("errors.errorType", laid_errors_errorType), ("changeling/api.ErrText", laid_changeling_api_ErrText), ("changeling/api.ErrBound", laid_changeling_api_ErrBound), ("changeling/api.ErrShape", laid_changeling_api_ErrShape), ("changeling/api.ErrKind", laid_changeling_api_ErrKind), ("changeling/api.ErrName", laid_changeling_api_ErrName), ("changeling/api.ErrNone", laid_changeling_api_ErrNone), ("changeling/api.ErrExist", laid_changeling_api_ErrExist), ("changeling/api.ErrFull", laid_changeling_api_ErrFull), ("changeling/api.ErrAlign", laid_changeling_api_ErrAlign), ("changeling/api.ErrFar", laid_changeling_api_ErrFar)], narrowed := true }
def RegionFormsUptoSaid : Prop := regionFormsUptoRow.holds Tryd.pinned (OpenSpec.upto regionFormsSpec)

/-- 'changelinglaw2.CpuTakes', WHERE WHAT IT READS IS OF BULK AT MOST 1048576: true; the input reads as it did. -/
def cpuTakesUptoRow : OpenClaim := { program := "ytlbdkcnbgdmpaaadoor", sum := "f00d63619e02d3fb337beef59c6e3191662a0d61de48f3e7cb5425311a13004f", func := "changeling/changelinglaw2.CpuTakes", spec := "cpuTakes", named := ["changeling/api.ErrShape", "changeling/api.ErrAlign", "changeling/api.ErrFar"], apart := false, laid := [("changeling/api.ErrShape", laid_changeling_api_ErrShape), ("changeling/api.ErrAlign", laid_changeling_api_ErrAlign), ("changeling/api.ErrFar", laid_changeling_api_ErrFar)], narrowed := true }
def CpuTakesUptoSaid : Prop := cpuTakesUptoRow.holds Tryd.pinned (OpenSpec.upto cpuTakesSpec)

/-- 'changelinglaw2.CpuWaits', WHERE WHAT IT READS IS OF BULK AT MOST 1048576: true; the input reads as it did. -/
def cpuWaitsUptoRow : OpenClaim := { program := "ytlbdkcnbgdmpaaadoor", sum := "f00d63619e02d3fb337beef59c6e3191662a0d61de48f3e7cb5425311a13004f", func := "changeling/changelinglaw2.CpuWaits", spec := "cpuWaits", named := ["changeling/api.ErrShape", "changeling/api.ErrAlign", "changeling/api.ErrFar"], apart := false, laid := [("changeling/api.ErrShape", laid_changeling_api_ErrShape), ("changeling/api.ErrAlign", laid_changeling_api_ErrAlign), ("changeling/api.ErrFar", laid_changeling_api_ErrFar)], narrowed := true }
def CpuWaitsUptoSaid : Prop := cpuWaitsUptoRow.holds Tryd.pinned (OpenSpec.upto cpuWaitsSpec)

/-- 'changelinglaw2.CpuGoes', WHERE WHAT IT READS IS OF BULK AT MOST 1048576: true; the input reads as it did. -/
def cpuGoesUptoRow : OpenClaim := { program := "ytlbdkcnbgdmpaaadoor", sum := "f00d63619e02d3fb337beef59c6e3191662a0d61de48f3e7cb5425311a13004f", func := "changeling/changelinglaw2.CpuGoes", spec := "cpuGoes", named := ["changeling/api.ErrShape", "changeling/api.ErrAlign", "changeling/api.ErrFar"], apart := false, laid := [("changeling/api.ErrShape", laid_changeling_api_ErrShape), ("changeling/api.ErrAlign", laid_changeling_api_ErrAlign), ("changeling/api.ErrFar", laid_changeling_api_ErrFar)], narrowed := true }
def CpuGoesUptoSaid : Prop := cpuGoesUptoRow.holds Tryd.pinned (OpenSpec.upto cpuGoesSpec)

end Rows
end Go.Proofs.YtlbdkcnbgdmpaaaDoor
