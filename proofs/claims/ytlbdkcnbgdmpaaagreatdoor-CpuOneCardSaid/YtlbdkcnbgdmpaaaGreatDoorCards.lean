/-
  DERIVED. GIVEN WITH THE SEED: THE CARDS: each row of YtlbdkcnbgdmpaaaGreatDoorRows.lean that lists a variable, with what it lists TIED to the program's text (the seventh form; the later family's looks); each row that meets fmt, with fmt's text TOLD by the authors' own Lean function (tested against real Go, not proved from fmt's source: count such statements apart). THE CARD IS WHAT COUNTS. Prove the row's statement (the work); the ties are given (YtlbdkcnbgdmpaaaGreatDoorTie.lean); close each card by the builder's one call (the guide's Derived/Test/ToyasCard.lean, 'card_holds'). Laid BY PROGRAM, IN A SANDBOX (cutbox-door.mjs). By AI agents, Wed Nov 11 2026. No macro, syntax, notation, axiom, sorry.
-/
import Derived.Test.YtlbdkcnbgdmpaaaGreatDoorRows
import GoSem.ClaimSeven
namespace Go.Proofs.YtlbdkcnbgdmpaaaGreatDoor
namespace Rows

/-- THE TIED CARD OF 'changelinglaw2.CpuOne'. -/
def cpuOneCard : Claim7 := { stood := { row := cpuOneRow, standIns := [], harness := (true, "cc3f779af617a1bfa7765d92f339c67b65e344e1026610be0097ce3942d9e268"), looks := false }, kinds := [], alts := [], laidByText := true, laidKinds := [.sentinel, .sentinel, .sentinel], laidTests := true, laidLooks := .later }
def CpuOneCardSaid : Prop := Claim7.holds Tryz.pinned (.plain (OpenSpec.ofChange cpuOneSpec)) cpuOneCard

/-- THE TIED CARD OF 'changelinglaw2.CpuSteps'. -/
def cpuStepsCard : Claim7 := { stood := { row := cpuStepsRow, standIns := [], harness := (true, "cc3f779af617a1bfa7765d92f339c67b65e344e1026610be0097ce3942d9e268"), looks := false }, kinds := [], alts := [], laidByText := true, laidKinds := [.sentinel, .sentinel, .sentinel], laidTests := true, laidLooks := .later }
def CpuStepsCardSaid : Prop := Claim7.holds Tryz.pinned (.plain (OpenSpec.ofChange cpuStepsSpec)) cpuStepsCard

/-- THE SECOND FORM's CARD OF 'changelinglaw2.CpuOne'. -/
def cpuOneUptoCard : Claim7 := { stood := { row := cpuOneUptoRow, standIns := [], harness := (true, "cc3f779af617a1bfa7765d92f339c67b65e344e1026610be0097ce3942d9e268"), looks := false }, kinds := [], alts := [], laidByText := true, laidKinds := [.sentinel, .sentinel, .sentinel], laidTests := true, laidLooks := .later }
def CpuOneUptoCardSaid : Prop := Claim7.holds Tryz.pinned (.plain (OpenSpec.upto cpuOneSpec)) cpuOneUptoCard

/-- THE SECOND FORM's CARD OF 'changelinglaw2.CpuSteps'. -/
def cpuStepsUptoCard : Claim7 := { stood := { row := cpuStepsUptoRow, standIns := [], harness := (true, "cc3f779af617a1bfa7765d92f339c67b65e344e1026610be0097ce3942d9e268"), looks := false }, kinds := [], alts := [], laidByText := true, laidKinds := [.sentinel, .sentinel, .sentinel], laidTests := true, laidLooks := .later }
def CpuStepsUptoCardSaid : Prop := Claim7.holds Tryz.pinned (.plain (OpenSpec.upto cpuStepsSpec)) cpuStepsUptoCard
end Rows
end Go.Proofs.YtlbdkcnbgdmpaaaGreatDoor
