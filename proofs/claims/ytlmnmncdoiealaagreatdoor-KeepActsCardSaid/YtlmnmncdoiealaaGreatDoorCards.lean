/-
  DERIVED. GIVEN WITH THE SEED: THE CARDS: each row of YtlmnmncdoiealaaGreatDoorRows.lean that lists a variable, with what it lists TIED to the program's text (the seventh form; the later family's looks); each row that meets fmt, with fmt's text TOLD by the authors' own Lean function (tested against real Go, not proved from fmt's source: count such statements apart). THE CARD IS WHAT COUNTS. Prove the row's statement (the work); the ties are given (YtlmnmncdoiealaaGreatDoorTie.lean); close each card by the builder's one call (the guide's Derived/Test/ToyasCard.lean, 'card_holds'). Laid BY PROGRAM, IN A SANDBOX (cutbox-door.mjs). By AI agents, Wed Nov 11 2026. No macro, syntax, notation, axiom, sorry.
-/
import Derived.Test.YtlmnmncdoiealaaGreatDoorRows
import GoSem.ClaimSeven
namespace Go.Proofs.YtlmnmncdoiealaaGreatDoor
namespace Rows

/-- THE TIED CARD OF 'changelinglaw3.KeepActs'. -/
def keepActsCard : Claim7 := { stood := { row := keepActsRow, standIns := [], harness := (true, "5fcfe278194ecbbc6ec1149941a47eea76ea2fadc0cc176b1c88f342742d3427"), looks := true }, kinds := [], alts := [], laidByText := true, laidKinds := [.handle, .sentinel, .sentinel, .sentinel, .sentinel, .sentinel, .sentinel, .sentinel, .sentinel, .sentinel, .sentinel], laidTests := true, laidLooks := .later }
def KeepActsCardSaid : Prop := Claim7.holds Tryz.pinned (.plain (OpenSpec.ofChange keepActsSpec)) keepActsCard

/-- THE SECOND FORM's CARD OF 'changelinglaw3.KeepActs'. -/
def keepActsUptoCard : Claim7 := { stood := { row := keepActsUptoRow, standIns := [], harness := (true, "5fcfe278194ecbbc6ec1149941a47eea76ea2fadc0cc176b1c88f342742d3427"), looks := true }, kinds := [], alts := [], laidByText := true, laidKinds := [.handle, .sentinel, .sentinel, .sentinel, .sentinel, .sentinel, .sentinel, .sentinel, .sentinel, .sentinel, .sentinel], laidTests := true, laidLooks := .later }
def KeepActsUptoCardSaid : Prop := Claim7.holds Tryz.pinned (.plain (OpenSpec.upto keepActsSpec)) keepActsUptoCard
end Rows
end Go.Proofs.YtlmnmncdoiealaaGreatDoor
