/-
  DERIVED. GIVEN WITH THE SEED: THE CARDS: each row of YtknhfobcejpmeaaGreatDoorRows.lean that lists a variable, with what it lists TIED to the program's text (the seventh form; the later family's looks); each row that meets fmt, with fmt's text TOLD by the authors' own Lean function (tested against real Go, not proved from fmt's source: count such statements apart). THE CARD IS WHAT COUNTS. Prove the row's statement (the work); the ties are given (YtknhfobcejpmeaaGreatDoorTie.lean); close each card by the builder's one call (the guide's Derived/Test/ToyasCard.lean, 'card_holds'). Laid BY PROGRAM, IN A SANDBOX (cutbox-door.mjs). By AI agents, Wed Nov 11 2026. No macro, syntax, notation, axiom, sorry.
-/
import Derived.Test.YtknhfobcejpmeaaGreatDoorRows
import GoSem.ClaimSeven
namespace Go.Proofs.YtknhfobcejpmeaaGreatDoor
namespace Rows

/-- THE TIED CARD OF 'changelinglaw3.PlanEnds'. -/
def planEndsCard : Claim7 := { stood := { row := planEndsRow, standIns := [], harness := (true, "b20a1257129022b29a5919335ff6be74da9bfa09427c8fcfd50830cc4b3909ca"), looks := true }, kinds := [], alts := [], laidByText := true, laidKinds := [.handle, .sentinel, .sentinel, .sentinel, .sentinel, .sentinel, .sentinel, .sentinel, .sentinel, .sentinel, .sentinel], laidTests := true, laidLooks := .later }
def PlanEndsCardSaid : Prop := Claim7.holds Tryz.pinned (.plain (OpenSpec.ofChange planEndsSpec)) planEndsCard

/-- THE TIED CARD OF 'changelinglaw3.HostRuns'. -/
def hostRunsCard : Claim7 := { stood := { row := hostRunsRow, standIns := [], harness := (true, "b20a1257129022b29a5919335ff6be74da9bfa09427c8fcfd50830cc4b3909ca"), looks := true }, kinds := [], alts := [], laidByText := true, laidKinds := [.handle, .sentinel, .sentinel, .sentinel, .sentinel, .sentinel, .sentinel, .sentinel, .sentinel, .sentinel, .sentinel], laidTests := true, laidLooks := .later }
def HostRunsCardSaid : Prop := Claim7.holds Tryz.pinned (.plain (OpenSpec.ofChange hostRunsSpec)) hostRunsCard

/-- THE TIED CARD OF 'changelinglaw3.KeepActs'. -/
def keepActsCard : Claim7 := { stood := { row := keepActsRow, standIns := [], harness := (true, "b20a1257129022b29a5919335ff6be74da9bfa09427c8fcfd50830cc4b3909ca"), looks := true }, kinds := [], alts := [], laidByText := true, laidKinds := [.handle, .sentinel, .sentinel, .sentinel, .sentinel, .sentinel, .sentinel, .sentinel, .sentinel, .sentinel, .sentinel], laidTests := true, laidLooks := .later }
def KeepActsCardSaid : Prop := Claim7.holds Tryz.pinned (.plain (OpenSpec.ofChange keepActsSpec)) keepActsCard

/-- THE SECOND FORM's CARD OF 'changelinglaw3.PlanEnds'. -/
def planEndsUptoCard : Claim7 := { stood := { row := planEndsUptoRow, standIns := [], harness := (true, "b20a1257129022b29a5919335ff6be74da9bfa09427c8fcfd50830cc4b3909ca"), looks := true }, kinds := [], alts := [], laidByText := true, laidKinds := [.handle, .sentinel, .sentinel, .sentinel, .sentinel, .sentinel, .sentinel, .sentinel, .sentinel, .sentinel, .sentinel], laidTests := true, laidLooks := .later }
def PlanEndsUptoCardSaid : Prop := Claim7.holds Tryz.pinned (.plain (OpenSpec.upto planEndsSpec)) planEndsUptoCard

/-- THE SECOND FORM's CARD OF 'changelinglaw3.HostRuns'. -/
def hostRunsUptoCard : Claim7 := { stood := { row := hostRunsUptoRow, standIns := [], harness := (true, "b20a1257129022b29a5919335ff6be74da9bfa09427c8fcfd50830cc4b3909ca"), looks := true }, kinds := [], alts := [], laidByText := true, laidKinds := [.handle, .sentinel, .sentinel, .sentinel, .sentinel, .sentinel, .sentinel, .sentinel, .sentinel, .sentinel, .sentinel], laidTests := true, laidLooks := .later }
def HostRunsUptoCardSaid : Prop := Claim7.holds Tryz.pinned (.plain (OpenSpec.upto hostRunsSpec)) hostRunsUptoCard

/-- THE SECOND FORM's CARD OF 'changelinglaw3.KeepActs'. -/
def keepActsUptoCard : Claim7 := { stood := { row := keepActsUptoRow, standIns := [], harness := (true, "b20a1257129022b29a5919335ff6be74da9bfa09427c8fcfd50830cc4b3909ca"), looks := true }, kinds := [], alts := [], laidByText := true, laidKinds := [.handle, .sentinel, .sentinel, .sentinel, .sentinel, .sentinel, .sentinel, .sentinel, .sentinel, .sentinel, .sentinel], laidTests := true, laidLooks := .later }
def KeepActsUptoCardSaid : Prop := Claim7.holds Tryz.pinned (.plain (OpenSpec.upto keepActsSpec)) keepActsUptoCard
end Rows
end Go.Proofs.YtknhfobcejpmeaaGreatDoor
