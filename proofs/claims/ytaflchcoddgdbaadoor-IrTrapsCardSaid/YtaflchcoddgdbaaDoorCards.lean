/-
  DERIVED. GIVEN WITH THE SEED: THE CARDS: each row of YtaflchcoddgdbaaDoorRows.lean that lists a variable, with what it lists TIED to the program's text (the seventh form; the later family's looks); each row that meets fmt, with fmt's text TOLD by the authors' own Lean function (tested against real Go, not proved from fmt's source: count such statements apart). THE CARD IS WHAT COUNTS. Prove the row's statement (the work); the ties are given (YtaflchcoddgdbaaDoorTie.lean); close each card by the builder's one call (the guide's Derived/Test/ToyasCard.lean, 'card_holds'). Laid BY PROGRAM, IN A SANDBOX (cutbox-door.mjs). By AI agents, Wed Nov 11 2026. No macro, syntax, notation, axiom, sorry.
-/
import Derived.Test.YtaflchcoddgdbaaDoorRows
import GoSem.ClaimSeven
namespace Go.Proofs.YtaflchcoddgdbaaDoor
namespace Rows

/-- THE TIED CARD OF 'changelinglaw3.IrTraps'. -/
def irTrapsCard : Claim7 := { stood := { row := irTrapsRow, standIns := [], harness := (true, "1766299c6d5bb8aa910c4bde3d4251d3aa5922c4f968e5947d7ed46a6648383d"), looks := true }, kinds := [], alts := [], laidByText := true, laidKinds := [.sentinel, .sentinel, .sentinel, .sentinel, .sentinel, .sentinel], laidTests := true, laidLooks := .later }
def IrTrapsCardSaid : Prop := Claim7.holds Tryd.pinned (.plain (OpenSpec.ofChange irTrapsSpec)) irTrapsCard

/-- THE TIED CARD OF 'changelinglaw3.OptCounts'. -/
def optCountsCard : Claim7 := { stood := { row := optCountsRow, standIns := [], harness := (true, "1766299c6d5bb8aa910c4bde3d4251d3aa5922c4f968e5947d7ed46a6648383d"), looks := true }, kinds := [], alts := [], laidByText := true, laidKinds := [.sentinel, .sentinel, .sentinel, .sentinel], laidTests := true, laidLooks := .later }
def OptCountsCardSaid : Prop := Claim7.holds Tryd.pinned (.plain (OpenSpec.ofChange optCountsSpec)) optCountsCard

/-- THE TIED CARD OF 'changelinglaw3.OptAgain'. -/
def optAgainCard : Claim7 := { stood := { row := optAgainRow, standIns := [], harness := (true, "1766299c6d5bb8aa910c4bde3d4251d3aa5922c4f968e5947d7ed46a6648383d"), looks := true }, kinds := [], alts := [], laidByText := true, laidKinds := [.sentinel, .sentinel, .sentinel, .sentinel], laidTests := true, laidLooks := .later }
def OptAgainCardSaid : Prop := Claim7.holds Tryd.pinned (.plain (OpenSpec.ofChange optAgainSpec)) optAgainCard

/-- THE TIED CARD OF 'changelinglaw3.PlanChecks'. -/
def planChecksCard : Claim7 := { stood := { row := planChecksRow, standIns := [], harness := (true, "1766299c6d5bb8aa910c4bde3d4251d3aa5922c4f968e5947d7ed46a6648383d"), looks := true }, kinds := [], alts := [], laidByText := true, laidKinds := [.handle, .sentinel, .sentinel, .sentinel, .sentinel, .sentinel, .sentinel, .sentinel, .sentinel, .sentinel, .sentinel], laidTests := true, laidLooks := .later }
def PlanChecksCardSaid : Prop := Claim7.holds Tryd.pinned (.plain (OpenSpec.ofChange planChecksSpec)) planChecksCard

/-- THE SECOND FORM's CARD OF 'changelinglaw3.IrTraps'. -/
def irTrapsUptoCard : Claim7 := { stood := { row := irTrapsUptoRow, standIns := [], harness := (true, "1766299c6d5bb8aa910c4bde3d4251d3aa5922c4f968e5947d7ed46a6648383d"), looks := true }, kinds := [], alts := [], laidByText := true, laidKinds := [.sentinel, .sentinel, .sentinel, .sentinel, .sentinel, .sentinel], laidTests := true, laidLooks := .later }
def IrTrapsUptoCardSaid : Prop := Claim7.holds Tryd.pinned (.plain (OpenSpec.upto irTrapsSpec)) irTrapsUptoCard

/-- THE SECOND FORM's CARD OF 'changelinglaw3.OptCounts'. -/
def optCountsUptoCard : Claim7 := { stood := { row := optCountsUptoRow, standIns := [], harness := (true, "1766299c6d5bb8aa910c4bde3d4251d3aa5922c4f968e5947d7ed46a6648383d"), looks := true }, kinds := [], alts := [], laidByText := true, laidKinds := [.sentinel, .sentinel, .sentinel, .sentinel], laidTests := true, laidLooks := .later }
def OptCountsUptoCardSaid : Prop := Claim7.holds Tryd.pinned (.plain (OpenSpec.upto optCountsSpec)) optCountsUptoCard

/-- THE SECOND FORM's CARD OF 'changelinglaw3.OptAgain'. -/
def optAgainUptoCard : Claim7 := { stood := { row := optAgainUptoRow, standIns := [], harness := (true, "1766299c6d5bb8aa910c4bde3d4251d3aa5922c4f968e5947d7ed46a6648383d"), looks := true }, kinds := [], alts := [], laidByText := true, laidKinds := [.sentinel, .sentinel, .sentinel, .sentinel], laidTests := true, laidLooks := .later }
def OptAgainUptoCardSaid : Prop := Claim7.holds Tryd.pinned (.plain (OpenSpec.upto optAgainSpec)) optAgainUptoCard

/-- THE SECOND FORM's CARD OF 'changelinglaw3.PlanChecks'. -/
def planChecksUptoCard : Claim7 := { stood := { row := planChecksUptoRow, standIns := [], harness := (true, "1766299c6d5bb8aa910c4bde3d4251d3aa5922c4f968e5947d7ed46a6648383d"), looks := true }, kinds := [], alts := [], laidByText := true, laidKinds := [.handle, .sentinel, .sentinel, .sentinel, .sentinel, .sentinel, .sentinel, .sentinel, .sentinel, .sentinel, .sentinel], laidTests := true, laidLooks := .later }
def PlanChecksUptoCardSaid : Prop := Claim7.holds Tryd.pinned (.plain (OpenSpec.upto planChecksSpec)) planChecksUptoCard
end Rows
end Go.Proofs.YtaflchcoddgdbaaDoor
