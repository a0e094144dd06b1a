/-
  DERIVED. GIVEN WITH THE SEED: THE CARDS: each row of YtgmbladcoikffaaGreatDoorRows.lean that lists a variable, with what it lists TIED to the program's text (the seventh form; the later family's looks); each row that meets fmt, with fmt's text TOLD by the authors' own Lean function (tested against real Go, not proved from fmt's source: count such statements apart). THE CARD IS WHAT COUNTS. Prove the row's statement (the work); the ties are given (YtgmbladcoikffaaGreatDoorTie.lean); close each card by the builder's one call (the guide's Derived/Test/ToyasCard.lean, 'card_holds'). Laid BY PROGRAM, IN A SANDBOX (cutbox-door.mjs). By AI agents, Wed Nov 11 2026. No macro, syntax, notation, axiom, sorry.
-/
import Derived.Test.YtgmbladcoikffaaGreatDoorRows
import GoSem.ClaimSeven
namespace Go.Proofs.YtgmbladcoikffaaGreatDoor
namespace Rows

/-- THE TIED CARD OF 'changelinglaw3.IrRuns'. -/
def irRunsCard : Claim7 := { stood := { row := irRunsRow, standIns := [], harness := (true, "08cd316cf0f9f60cc78090bdf847e93ab386818522c32eeda3649848aa0c9363"), looks := true }, kinds := [], alts := [], laidByText := true, laidKinds := [.handle, .sentinel, .sentinel, .sentinel, .sentinel, .sentinel, .sentinel, .sentinel, .sentinel, .sentinel, .sentinel], laidTests := true, laidLooks := .later }
def IrRunsCardSaid : Prop := Claim7.holds Tryz.pinned (.plain (OpenSpec.ofChange irRunsSpec)) irRunsCard

/-- THE TIED CARD OF 'changelinglaw3.OptEnds'. -/
def optEndsCard : Claim7 := { stood := { row := optEndsRow, standIns := [], harness := (true, "08cd316cf0f9f60cc78090bdf847e93ab386818522c32eeda3649848aa0c9363"), looks := true }, kinds := [], alts := [], laidByText := true, laidKinds := [.handle, .sentinel, .sentinel, .sentinel, .sentinel, .sentinel, .sentinel, .sentinel, .sentinel, .sentinel, .sentinel], laidTests := true, laidLooks := .later }
def OptEndsCardSaid : Prop := Claim7.holds Tryz.pinned (.plain (OpenSpec.ofChange optEndsSpec)) optEndsCard

/-- THE TIED CARD OF 'changelinglaw3.PlanEnds'. -/
def planEndsCard : Claim7 := { stood := { row := planEndsRow, standIns := [], harness := (true, "08cd316cf0f9f60cc78090bdf847e93ab386818522c32eeda3649848aa0c9363"), looks := true }, kinds := [], alts := [], laidByText := true, laidKinds := [.handle, .sentinel, .sentinel, .sentinel, .sentinel, .sentinel, .sentinel, .sentinel, .sentinel, .sentinel, .sentinel], laidTests := true, laidLooks := .later }
def PlanEndsCardSaid : Prop := Claim7.holds Tryz.pinned (.plain (OpenSpec.ofChange planEndsSpec)) planEndsCard

/-- THE TIED CARD OF 'changelinglaw3.HostRuns'. -/
def hostRunsCard : Claim7 := { stood := { row := hostRunsRow, standIns := [], harness := (true, "08cd316cf0f9f60cc78090bdf847e93ab386818522c32eeda3649848aa0c9363"), looks := true }, kinds := [], alts := [], laidByText := true, laidKinds := [.handle, .sentinel, .sentinel, .sentinel, .sentinel, .sentinel, .sentinel, .sentinel, .sentinel, .sentinel, .sentinel], laidTests := true, laidLooks := .later }
def HostRunsCardSaid : Prop := Claim7.holds Tryz.pinned (.plain (OpenSpec.ofChange hostRunsSpec)) hostRunsCard

/-- THE SECOND FORM's CARD OF 'changelinglaw3.IrRuns'. -/
def irRunsUptoCard : Claim7 := { stood := { row := irRunsUptoRow, standIns := [], harness := (true, "08cd316cf0f9f60cc78090bdf847e93ab386818522c32eeda3649848aa0c9363"), looks := true }, kinds := [], alts := [], laidByText := true, laidKinds := [.handle, .sentinel, .sentinel, .sentinel, .sentinel, .sentinel, .sentinel, .sentinel, .sentinel, .sentinel, .sentinel], laidTests := true, laidLooks := .later }
def IrRunsUptoCardSaid : Prop := Claim7.holds Tryz.pinned (.plain (OpenSpec.upto irRunsSpec)) irRunsUptoCard

/-- THE SECOND FORM's CARD OF 'changelinglaw3.OptEnds'. -/
def optEndsUptoCard : Claim7 := { stood := { row := optEndsUptoRow, standIns := [], harness := (true, "08cd316cf0f9f60cc78090bdf847e93ab386818522c32eeda3649848aa0c9363"), looks := true }, kinds := [], alts := [], laidByText := true, laidKinds := [.handle, .sentinel, .sentinel, .sentinel, .sentinel, .sentinel, .sentinel, .sentinel, .sentinel, .sentinel, .sentinel], laidTests := true, laidLooks := .later }
def OptEndsUptoCardSaid : Prop := Claim7.holds Tryz.pinned (.plain (OpenSpec.upto optEndsSpec)) optEndsUptoCard

/-- THE SECOND FORM's CARD OF 'changelinglaw3.PlanEnds'. -/
def planEndsUptoCard : Claim7 := { stood := { row := planEndsUptoRow, standIns := [], harness := (true, "08cd316cf0f9f60cc78090bdf847e93ab386818522c32eeda3649848aa0c9363"), looks := true }, kinds := [], alts := [], laidByText := true, laidKinds := [.handle, .sentinel, .sentinel, .sentinel, .sentinel, .sentinel, .sentinel, .sentinel, .sentinel, .sentinel, .sentinel], laidTests := true, laidLooks := .later }
def PlanEndsUptoCardSaid : Prop := Claim7.holds Tryz.pinned (.plain (OpenSpec.upto planEndsSpec)) planEndsUptoCard

/-- THE SECOND FORM's CARD OF 'changelinglaw3.HostRuns'. -/
def hostRunsUptoCard : Claim7 := { stood := { row := hostRunsUptoRow, standIns := [], harness := (true, "08cd316cf0f9f60cc78090bdf847e93ab386818522c32eeda3649848aa0c9363"), looks := true }, kinds := [], alts := [], laidByText := true, laidKinds := [.handle, .sentinel, .sentinel, .sentinel, .sentinel, .sentinel, .sentinel, .sentinel, .sentinel, .sentinel, .sentinel], laidTests := true, laidLooks := .later }
def HostRunsUptoCardSaid : Prop := Claim7.holds Tryz.pinned (.plain (OpenSpec.upto hostRunsSpec)) hostRunsUptoCard
end Rows
end Go.Proofs.YtgmbladcoikffaaGreatDoor
