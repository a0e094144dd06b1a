/-
  DERIVED. GIVEN WITH THE SEED: THE CARDS: each row of YtchleihlnpplkaaDoorRows.lean that lists a variable, with what it lists TIED to the program's text (the seventh form; the later family's looks); each row that meets fmt, with fmt's text TOLD by the authors' own Lean function (tested against real Go, not proved from fmt's source: count such statements apart). THE CARD IS WHAT COUNTS. Prove the row's statement (the work); the ties are given (YtchleihlnpplkaaDoorTie.lean); close each card by the builder's one call (the guide's Derived/Test/ToyasCard.lean, 'card_holds'). Laid BY PROGRAM, IN A SANDBOX (cutbox-door.mjs). By AI agents, Wed Nov 11 2026. No macro, syntax, notation, axiom, sorry.
-/
import Derived.Test.YtchleihlnpplkaaDoorRows
import GoSem.ClaimSeven
namespace Go.Proofs.YtchleihlnpplkaaDoor
namespace Rows

/-- THE TIED CARD OF 'changelinglaw2.RamParts'. -/
def ramPartsCard : Claim7 := { stood := { row := ramPartsRow, standIns := [], harness := (true, "8e85d49dccb71470006c9c32b20a836f26bfeeeea276e8c2ef107c8ee53191c1"), looks := true }, kinds := [], alts := [], laidByText := true, laidKinds := [.sentinel, .sentinel, .sentinel], laidTests := true, laidLooks := .later }
def RamPartsCardSaid : Prop := Claim7.holds Tryd.pinned (.plain (OpenSpec.ofChange ramPartsSpec)) ramPartsCard

/-- THE TIED CARD OF 'changelinglaw2.RamKeeps'. -/
def ramKeepsCard : Claim7 := { stood := { row := ramKeepsRow, standIns := [], harness := (true, "8e85d49dccb71470006c9c32b20a836f26bfeeeea276e8c2ef107c8ee53191c1"), looks := true }, kinds := [], alts := [], laidByText := true, laidKinds := [.sentinel, .sentinel, .sentinel], laidTests := true, laidLooks := .later }
def RamKeepsCardSaid : Prop := Claim7.holds Tryd.pinned (.plain (OpenSpec.ofChange ramKeepsSpec)) ramKeepsCard

/-- THE TIED CARD OF 'changelinglaw2.BusApart'. -/
def busApartCard : Claim7 := { stood := { row := busApartRow, standIns := [], harness := (true, "8e85d49dccb71470006c9c32b20a836f26bfeeeea276e8c2ef107c8ee53191c1"), looks := true }, kinds := [], alts := [], laidByText := true, laidKinds := [.sentinel, .sentinel, .sentinel], laidTests := true, laidLooks := .later }
def BusApartCardSaid : Prop := Claim7.holds Tryd.pinned (.plain (OpenSpec.ofChange busApartSpec)) busApartCard

/-- THE TIED CARD OF 'changelinglaw2.BusActs'. -/
def busActsCard : Claim7 := { stood := { row := busActsRow, standIns := [], harness := (true, "8e85d49dccb71470006c9c32b20a836f26bfeeeea276e8c2ef107c8ee53191c1"), looks := true }, kinds := [], alts := [], laidByText := true, laidKinds := [.handle, .sentinel, .sentinel, .sentinel, .sentinel, .sentinel, .sentinel, .sentinel, .sentinel, .sentinel, .sentinel], laidTests := true, laidLooks := .later }
def BusActsCardSaid : Prop := Claim7.holds Tryd.pinned (.plain (OpenSpec.ofChange busActsSpec)) busActsCard

/-- THE TIED CARD OF 'changelinglaw2.RamActs'. -/
def ramActsCard : Claim7 := { stood := { row := ramActsRow, standIns := [], harness := (true, "8e85d49dccb71470006c9c32b20a836f26bfeeeea276e8c2ef107c8ee53191c1"), looks := true }, kinds := [], alts := [], laidByText := true, laidKinds := [.handle, .sentinel, .sentinel, .sentinel, .sentinel, .sentinel, .sentinel, .sentinel, .sentinel, .sentinel, .sentinel], laidTests := true, laidLooks := .later }
def RamActsCardSaid : Prop := Claim7.holds Tryd.pinned (.plain (OpenSpec.ofChange ramActsSpec)) ramActsCard

/-- THE SECOND FORM's CARD OF 'changelinglaw2.RamParts'. -/
def ramPartsUptoCard : Claim7 := { stood := { row := ramPartsUptoRow, standIns := [], harness := (true, "8e85d49dccb71470006c9c32b20a836f26bfeeeea276e8c2ef107c8ee53191c1"), looks := true }, kinds := [], alts := [], laidByText := true, laidKinds := [.sentinel, .sentinel, .sentinel], laidTests := true, laidLooks := .later }
def RamPartsUptoCardSaid : Prop := Claim7.holds Tryd.pinned (.plain (OpenSpec.upto ramPartsSpec)) ramPartsUptoCard

/-- THE SECOND FORM's CARD OF 'changelinglaw2.RamKeeps'. -/
def ramKeepsUptoCard : Claim7 := { stood := { row := ramKeepsUptoRow, standIns := [], harness := (true, "8e85d49dccb71470006c9c32b20a836f26bfeeeea276e8c2ef107c8ee53191c1"), looks := true }, kinds := [], alts := [], laidByText := true, laidKinds := [.sentinel, .sentinel, .sentinel], laidTests := true, laidLooks := .later }
def RamKeepsUptoCardSaid : Prop := Claim7.holds Tryd.pinned (.plain (OpenSpec.upto ramKeepsSpec)) ramKeepsUptoCard

/-- THE SECOND FORM's CARD OF 'changelinglaw2.BusApart'. -/
def busApartUptoCard : Claim7 := { stood := { row := busApartUptoRow, standIns := [], harness := (true, "8e85d49dccb71470006c9c32b20a836f26bfeeeea276e8c2ef107c8ee53191c1"), looks := true }, kinds := [], alts := [], laidByText := true, laidKinds := [.sentinel, .sentinel, .sentinel], laidTests := true, laidLooks := .later }
def BusApartUptoCardSaid : Prop := Claim7.holds Tryd.pinned (.plain (OpenSpec.upto busApartSpec)) busApartUptoCard

/-- THE SECOND FORM's CARD OF 'changelinglaw2.BusActs'. -/
def busActsUptoCard : Claim7 := { stood := { row := busActsUptoRow, standIns := [], harness := (true, "8e85d49dccb71470006c9c32b20a836f26bfeeeea276e8c2ef107c8ee53191c1"), looks := true }, kinds := [], alts := [], laidByText := true, laidKinds := [.handle, .sentinel, .sentinel, .sentinel, .sentinel, .sentinel, .sentinel, .sentinel, .sentinel, .sentinel, .sentinel], laidTests := true, laidLooks := .later }
def BusActsUptoCardSaid : Prop := Claim7.holds Tryd.pinned (.plain (OpenSpec.upto busActsSpec)) busActsUptoCard

/-- THE SECOND FORM's CARD OF 'changelinglaw2.RamActs'. -/
def ramActsUptoCard : Claim7 := { stood := { row := ramActsUptoRow, standIns := [], harness := (true, "8e85d49dccb71470006c9c32b20a836f26bfeeeea276e8c2ef107c8ee53191c1"), looks := true }, kinds := [], alts := [], laidByText := true, laidKinds := [.handle, .sentinel, .sentinel, .sentinel, .sentinel, .sentinel, .sentinel, .sentinel, .sentinel, .sentinel, .sentinel], laidTests := true, laidLooks := .later }
def RamActsUptoCardSaid : Prop := Claim7.holds Tryd.pinned (.plain (OpenSpec.upto ramActsSpec)) ramActsUptoCard
end Rows
end Go.Proofs.YtchleihlnpplkaaDoor
