/-
  DERIVED. GIVEN WITH THE SEED: THE CARDS: each row of YtlmnmncdoiealaaDoorRows.lean that lists a variable, with what it lists TIED to the program's text (the seventh form; the later family's looks); each row that meets fmt, with fmt's text TOLD by the authors' own Lean function (tested against real Go, not proved from fmt's source: count such statements apart). THE CARD IS WHAT COUNTS. Prove the row's statement (the work); the ties are given (YtlmnmncdoiealaaDoorTie.lean); close each card by the builder's one call (the guide's Derived/Test/ToyasCard.lean, 'card_holds'). Laid BY PROGRAM, IN A SANDBOX (cutbox-door.mjs). By AI agents, Wed Nov 11 2026. No macro, syntax, notation, axiom, sorry.
-/
import Derived.Test.YtlmnmncdoiealaaDoorRows
import GoSem.ClaimSeven
namespace Go.Proofs.YtlmnmncdoiealaaDoor
namespace Rows

/-- THE TIED CARD OF 'changelinglaw3.KeepDrops'. -/
def keepDropsCard : Claim7 := { stood := { row := keepDropsRow, standIns := [], harness := (true, "f18064e679da0e8f780d1711f6102d03e6b04f82710d619caa1c84d510df9d32"), looks := true }, kinds := [], alts := [], laidByText := true, laidKinds := [.sentinel, .sentinel, .sentinel, .sentinel, .sentinel], laidTests := true, laidLooks := .later }
def KeepDropsCardSaid : Prop := Claim7.holds Tryd.pinned (.plain (OpenSpec.ofChange keepDropsSpec)) keepDropsCard

/-- THE TIED CARD OF 'changelinglaw2.RamActs'. -/
def ramActsCard : Claim7 := { stood := { row := ramActsRow, standIns := [], harness := (true, "f18064e679da0e8f780d1711f6102d03e6b04f82710d619caa1c84d510df9d32"), looks := true }, kinds := [], alts := [], laidByText := true, laidKinds := [.handle, .sentinel, .sentinel, .sentinel, .sentinel, .sentinel, .sentinel, .sentinel, .sentinel, .sentinel, .sentinel], laidTests := true, laidLooks := .later }
def RamActsCardSaid : Prop := Claim7.holds Tryd.pinned (.plain (OpenSpec.ofChange ramActsSpec)) ramActsCard

/-- THE SECOND FORM's CARD OF 'changelinglaw3.KeepDrops'. -/
def keepDropsUptoCard : Claim7 := { stood := { row := keepDropsUptoRow, standIns := [], harness := (true, "f18064e679da0e8f780d1711f6102d03e6b04f82710d619caa1c84d510df9d32"), looks := true }, kinds := [], alts := [], laidByText := true, laidKinds := [.sentinel, .sentinel, .sentinel, .sentinel, .sentinel], laidTests := true, laidLooks := .later }
def KeepDropsUptoCardSaid : Prop := Claim7.holds Tryd.pinned (.plain (OpenSpec.upto keepDropsSpec)) keepDropsUptoCard

/-- THE SECOND FORM's CARD OF 'changelinglaw2.RamActs'. -/
def ramActsUptoCard : Claim7 := { stood := { row := ramActsUptoRow, standIns := [], harness := (true, "f18064e679da0e8f780d1711f6102d03e6b04f82710d619caa1c84d510df9d32"), looks := true }, kinds := [], alts := [], laidByText := true, laidKinds := [.handle, .sentinel, .sentinel, .sentinel, .sentinel, .sentinel, .sentinel, .sentinel, .sentinel, .sentinel, .sentinel], laidTests := true, laidLooks := .later }
def RamActsUptoCardSaid : Prop := Claim7.holds Tryd.pinned (.plain (OpenSpec.upto ramActsSpec)) ramActsUptoCard
end Rows
end Go.Proofs.YtlmnmncdoiealaaDoor
