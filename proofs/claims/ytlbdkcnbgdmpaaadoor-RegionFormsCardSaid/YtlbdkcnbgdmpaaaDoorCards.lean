/-
  DERIVED. GIVEN WITH THE SEED: THE CARDS: each row of YtlbdkcnbgdmpaaaDoorRows.lean that lists a variable, with what it lists TIED to the program's text (the seventh form; the later family's looks); each row that meets fmt, with fmt's text TOLD by the authors' own Lean function (tested against real Go, not proved from fmt's source: count such statements apart). THE CARD IS WHAT COUNTS. Prove the row's statement (the work); the ties are given (YtlbdkcnbgdmpaaaDoorTie.lean); close each card by the builder's one call (the guide's Derived/Test/ToyasCard.lean, 'card_holds'). Laid BY PROGRAM, IN A SANDBOX (cutbox-door.mjs). By AI agents, Wed Nov 11 2026. No macro, syntax, notation, axiom, sorry.
-/
import Derived.Test.YtlbdkcnbgdmpaaaDoorRows
import GoSem.ClaimSeven
namespace Go.Proofs.YtlbdkcnbgdmpaaaDoor
namespace Rows

/-- THE TIED CARD OF 'changelinglaw2.RegionJoins'. -/
def regionJoinsCard : Claim7 := { stood := { row := regionJoinsRow, standIns := [], harness := (true, "23bc0afdd74f71eedafa037be5d8a52543ea5ee4350e96ef5e088fe9a49439df"), looks := true }, kinds := [], alts := [], laidByText := true, laidKinds := [.sentinel, .sentinel, .sentinel, .sentinel, .sentinel], laidTests := true, laidLooks := .later }
def RegionJoinsCardSaid : Prop := Claim7.holds Tryd.pinned (.plain (OpenSpec.ofChange regionJoinsSpec)) regionJoinsCard

/-- THE TIED CARD OF 'changelinglaw2.RegionForms'. -/
def regionFormsCard : Claim7 := { stood := { row := regionFormsRow, standIns := [], harness := (true, "23bc0afdd74f71eedafa037be5d8a52543ea5ee4350e96ef5e088fe9a49439df"), looks := true }, kinds := [], alts := [], laidByText := true, laidKinds := [.handle, .sentinel, .sentinel, .sentinel, .sentinel, .sentinel, .sentinel, .sentinel, .sentinel, .sentinel, .sentinel], laidTests := true, laidLooks := .later }
def RegionFormsCardSaid : Prop := Claim7.holds Tryd.pinned (.plain (OpenSpec.ofChange regionFormsSpec)) regionFormsCard

/-- THE TIED CARD OF 'changelinglaw2.CpuTakes'. -/
def cpuTakesCard : Claim7 := { stood := { row := cpuTakesRow, standIns := [], harness := (true, "23bc0afdd74f71eedafa037be5d8a52543ea5ee4350e96ef5e088fe9a49439df"), looks := true }, kinds := [], alts := [], laidByText := true, laidKinds := [.sentinel, .sentinel, .sentinel], laidTests := true, laidLooks := .later }
def CpuTakesCardSaid : Prop := Claim7.holds Tryd.pinned (.plain (OpenSpec.ofChange cpuTakesSpec)) cpuTakesCard

/-- THE TIED CARD OF 'changelinglaw2.CpuWaits'. -/
def cpuWaitsCard : Claim7 := { stood := { row := cpuWaitsRow, standIns := [], harness := (true, "23bc0afdd74f71eedafa037be5d8a52543ea5ee4350e96ef5e088fe9a49439df"), looks := true }, kinds := [], alts := [], laidByText := true, laidKinds := [.sentinel, .sentinel, .sentinel], laidTests := true, laidLooks := .later }
def CpuWaitsCardSaid : Prop := Claim7.holds Tryd.pinned (.plain (OpenSpec.ofChange cpuWaitsSpec)) cpuWaitsCard

/-- THE TIED CARD OF 'changelinglaw2.CpuGoes'. -/
def cpuGoesCard : Claim7 := { stood := { row := cpuGoesRow, standIns := [], harness := (true, "23bc0afdd74f71eedafa037be5d8a52543ea5ee4350e96ef5e088fe9a49439df"), looks := true }, kinds := [], alts := [], laidByText := true, laidKinds := [.sentinel, .sentinel, .sentinel], laidTests := true, laidLooks := .later }
def CpuGoesCardSaid : Prop := Claim7.holds Tryd.pinned (.plain (OpenSpec.ofChange cpuGoesSpec)) cpuGoesCard

/-- THE SECOND FORM's CARD OF 'changelinglaw2.RegionJoins'. -/
def regionJoinsUptoCard : Claim7 := { stood := { row := regionJoinsUptoRow, standIns := [], harness := (true, "23bc0afdd74f71eedafa037be5d8a52543ea5ee4350e96ef5e088fe9a49439df"), looks := true }, kinds := [], alts := [], laidByText := true, laidKinds := [.sentinel, .sentinel, .sentinel, .sentinel, .sentinel], laidTests := true, laidLooks := .later }
def RegionJoinsUptoCardSaid : Prop := Claim7.holds Tryd.pinned (.plain (OpenSpec.upto regionJoinsSpec)) regionJoinsUptoCard

/-- THE SECOND FORM's CARD OF 'changelinglaw2.RegionForms'. -/
def regionFormsUptoCard : Claim7 := { stood := { row := regionFormsUptoRow, standIns := [], harness := (true, "23bc0afdd74f71eedafa037be5d8a52543ea5ee4350e96ef5e088fe9a49439df"), looks := true }, kinds := [], alts := [], laidByText := true, laidKinds := [.handle, .sentinel, .sentinel, .sentinel, .sentinel, .sentinel, .sentinel, .sentinel, .sentinel, .sentinel, .sentinel], laidTests := true, laidLooks := .later }
def RegionFormsUptoCardSaid : Prop := Claim7.holds Tryd.pinned (.plain (OpenSpec.upto regionFormsSpec)) regionFormsUptoCard

/-- THE SECOND FORM's CARD OF 'changelinglaw2.CpuTakes'. -/
def cpuTakesUptoCard : Claim7 := { stood := { row := cpuTakesUptoRow, standIns := [], harness := (true, "23bc0afdd74f71eedafa037be5d8a52543ea5ee4350e96ef5e088fe9a49439df"), looks := true }, kinds := [], alts := [], laidByText := true, laidKinds := [.sentinel, .sentinel, .sentinel], laidTests := true, laidLooks := .later }
def CpuTakesUptoCardSaid : Prop := Claim7.holds Tryd.pinned (.plain (OpenSpec.upto cpuTakesSpec)) cpuTakesUptoCard

/-- THE SECOND FORM's CARD OF 'changelinglaw2.CpuWaits'. -/
def cpuWaitsUptoCard : Claim7 := { stood := { row := cpuWaitsUptoRow, standIns := [], harness := (true, "23bc0afdd74f71eedafa037be5d8a52543ea5ee4350e96ef5e088fe9a49439df"), looks := true }, kinds := [], alts := [], laidByText := true, laidKinds := [.sentinel, .sentinel, .sentinel], laidTests := true, laidLooks := .later }
def CpuWaitsUptoCardSaid : Prop := Claim7.holds Tryd.pinned (.plain (OpenSpec.upto cpuWaitsSpec)) cpuWaitsUptoCard

/-- THE SECOND FORM's CARD OF 'changelinglaw2.CpuGoes'. -/
def cpuGoesUptoCard : Claim7 := { stood := { row := cpuGoesUptoRow, standIns := [], harness := (true, "23bc0afdd74f71eedafa037be5d8a52543ea5ee4350e96ef5e088fe9a49439df"), looks := true }, kinds := [], alts := [], laidByText := true, laidKinds := [.sentinel, .sentinel, .sentinel], laidTests := true, laidLooks := .later }
def CpuGoesUptoCardSaid : Prop := Claim7.holds Tryd.pinned (.plain (OpenSpec.upto cpuGoesSpec)) cpuGoesUptoCard
end Rows
end Go.Proofs.YtlbdkcnbgdmpaaaDoor
