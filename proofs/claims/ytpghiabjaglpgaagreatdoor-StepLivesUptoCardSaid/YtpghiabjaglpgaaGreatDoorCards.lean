/-
  DERIVED. GIVEN WITH THE SEED: THE CARDS: each row of YtpghiabjaglpgaaGreatDoorRows.lean that lists a variable, with what it lists TIED to the program's text (the seventh form; the later family's looks); each row that meets fmt, with fmt's text TOLD by the authors' own Lean function (tested against real Go, not proved from fmt's source: count such statements apart). THE CARD IS WHAT COUNTS. Prove the row's statement (the work); the ties are given (YtpghiabjaglpgaaGreatDoorTie.lean); close each card by the builder's one call (the guide's Derived/Test/ToyasCard.lean, 'card_holds'). Laid BY PROGRAM, IN A SANDBOX (cutbox-door.mjs). By AI agents, Wed Nov 11 2026. No macro, syntax, notation, axiom, sorry.
-/
import Derived.Test.YtpghiabjaglpgaaGreatDoorRows
import GoSem.ClaimSeven
namespace Go.Proofs.YtpghiabjaglpgaaGreatDoor
namespace Rows

/-- THE TIED CARD OF 'restitchlaw07.StepNumbers'. -/
def stepNumbersCard : Claim7 := { stood := { row := stepNumbersRow, standIns := [], harness := (true, "5fa42890ccb6948ec356cb0ca13311e20047b6434a2746704528841ed8b87c66"), looks := true }, kinds := [], alts := [], laidByText := true, laidKinds := [.data, .data, .data, .data, .sentinel, .sentinel, .pinned], laidTests := true, laidLooks := .later }
def StepNumbersCardSaid : Prop := Claim7.holds Tryz.pinned (.plain (OpenSpec.ofChange stepNumbersSpec)) stepNumbersCard

/-- THE TIED CARD OF 'restitchlaw07.StepMany'. -/
def stepManyCard : Claim7 := { stood := { row := stepManyRow, standIns := [], harness := (true, "5fa42890ccb6948ec356cb0ca13311e20047b6434a2746704528841ed8b87c66"), looks := true }, kinds := [], alts := [], laidByText := true, laidKinds := [.data, .data, .data, .data, .sentinel, .sentinel, .pinned], laidTests := true, laidLooks := .later }
def StepManyCardSaid : Prop := Claim7.holds Tryz.pinned (.plain (OpenSpec.ofChange stepManySpec)) stepManyCard

/-- THE TIED CARD OF 'restitchlaw07.StepStarts'. -/
def stepStartsCard : Claim7 := { stood := { row := stepStartsRow, standIns := [], harness := (true, "5fa42890ccb6948ec356cb0ca13311e20047b6434a2746704528841ed8b87c66"), looks := true }, kinds := [], alts := [], laidByText := true, laidKinds := [.data, .data, .data, .data, .sentinel, .sentinel, .pinned], laidTests := true, laidLooks := .later }
def StepStartsCardSaid : Prop := Claim7.holds Tryz.pinned (.plain (OpenSpec.ofChange stepStartsSpec)) stepStartsCard

/-- THE TIED CARD OF 'restitchlaw07.StepOnes'. -/
def stepOnesCard : Claim7 := { stood := { row := stepOnesRow, standIns := [], harness := (true, "5fa42890ccb6948ec356cb0ca13311e20047b6434a2746704528841ed8b87c66"), looks := true }, kinds := [], alts := [], laidByText := true, laidKinds := [.data, .data, .data, .data, .sentinel, .sentinel, .pinned], laidTests := true, laidLooks := .later }
def StepOnesCardSaid : Prop := Claim7.holds Tryz.pinned (.plain (OpenSpec.ofChange stepOnesSpec)) stepOnesCard

/-- THE TIED CARD OF 'restitchlaw07.StepChecks'. -/
def stepChecksCard : Claim7 := { stood := { row := stepChecksRow, standIns := [], harness := (true, "5fa42890ccb6948ec356cb0ca13311e20047b6434a2746704528841ed8b87c66"), looks := true }, kinds := [], alts := [], laidByText := true, laidKinds := [.data, .data, .data, .data, .sentinel, .sentinel, .pinned], laidTests := true, laidLooks := .later }
def StepChecksCardSaid : Prop := Claim7.holds Tryz.pinned (.plain (OpenSpec.ofChange stepChecksSpec)) stepChecksCard

/-- THE TIED CARD OF 'restitchlaw07.StepLives'. -/
def stepLivesCard : Claim7 := { stood := { row := stepLivesRow, standIns := [], harness := (true, "5fa42890ccb6948ec356cb0ca13311e20047b6434a2746704528841ed8b87c66"), looks := true }, kinds := [], alts := [], laidByText := true, laidKinds := [.data, .data, .data, .data, .sentinel, .sentinel, .pinned], laidTests := true, laidLooks := .later }
def StepLivesCardSaid : Prop := Claim7.holds Tryz.pinned (.plain (OpenSpec.ofChange stepLivesSpec)) stepLivesCard

/-- THE SECOND FORM's CARD OF 'restitchlaw07.StepNumbers'. -/
def stepNumbersUptoCard : Claim7 := { stood := { row := stepNumbersUptoRow, standIns := [], harness := (true, "5fa42890ccb6948ec356cb0ca13311e20047b6434a2746704528841ed8b87c66"), looks := true }, kinds := [], alts := [], laidByText := true, laidKinds := [.data, .data, .data, .data, .sentinel, .sentinel, .pinned], laidTests := true, laidLooks := .later }
def StepNumbersUptoCardSaid : Prop := Claim7.holds Tryz.pinned (.plain (OpenSpec.upto stepNumbersSpec)) stepNumbersUptoCard

/-- THE SECOND FORM's CARD OF 'restitchlaw07.StepMany'. -/
def stepManyUptoCard : Claim7 := { stood := { row := stepManyUptoRow, standIns := [], harness := (true, "5fa42890ccb6948ec356cb0ca13311e20047b6434a2746704528841ed8b87c66"), looks := true }, kinds := [], alts := [], laidByText := true, laidKinds := [.data, .data, .data, .data, .sentinel, .sentinel, .pinned], laidTests := true, laidLooks := .later }
def StepManyUptoCardSaid : Prop := Claim7.holds Tryz.pinned (.plain (OpenSpec.upto stepManySpec)) stepManyUptoCard

/-- THE SECOND FORM's CARD OF 'restitchlaw07.StepStarts'. -/
def stepStartsUptoCard : Claim7 := { stood := { row := stepStartsUptoRow, standIns := [], harness := (true, "5fa42890ccb6948ec356cb0ca13311e20047b6434a2746704528841ed8b87c66"), looks := true }, kinds := [], alts := [], laidByText := true, laidKinds := [.data, .data, .data, .data, .sentinel, .sentinel, .pinned], laidTests := true, laidLooks := .later }
def StepStartsUptoCardSaid : Prop := Claim7.holds Tryz.pinned (.plain (OpenSpec.upto stepStartsSpec)) stepStartsUptoCard

/-- THE SECOND FORM's CARD OF 'restitchlaw07.StepOnes'. -/
def stepOnesUptoCard : Claim7 := { stood := { row := stepOnesUptoRow, standIns := [], harness := (true, "5fa42890ccb6948ec356cb0ca13311e20047b6434a2746704528841ed8b87c66"), looks := true }, kinds := [], alts := [], laidByText := true, laidKinds := [.data, .data, .data, .data, .sentinel, .sentinel, .pinned], laidTests := true, laidLooks := .later }
def StepOnesUptoCardSaid : Prop := Claim7.holds Tryz.pinned (.plain (OpenSpec.upto stepOnesSpec)) stepOnesUptoCard

/-- THE SECOND FORM's CARD OF 'restitchlaw07.StepChecks'. -/
def stepChecksUptoCard : Claim7 := { stood := { row := stepChecksUptoRow, standIns := [], harness := (true, "5fa42890ccb6948ec356cb0ca13311e20047b6434a2746704528841ed8b87c66"), looks := true }, kinds := [], alts := [], laidByText := true, laidKinds := [.data, .data, .data, .data, .sentinel, .sentinel, .pinned], laidTests := true, laidLooks := .later }
def StepChecksUptoCardSaid : Prop := Claim7.holds Tryz.pinned (.plain (OpenSpec.upto stepChecksSpec)) stepChecksUptoCard

/-- THE SECOND FORM's CARD OF 'restitchlaw07.StepLives'. -/
def stepLivesUptoCard : Claim7 := { stood := { row := stepLivesUptoRow, standIns := [], harness := (true, "5fa42890ccb6948ec356cb0ca13311e20047b6434a2746704528841ed8b87c66"), looks := true }, kinds := [], alts := [], laidByText := true, laidKinds := [.data, .data, .data, .data, .sentinel, .sentinel, .pinned], laidTests := true, laidLooks := .later }
def StepLivesUptoCardSaid : Prop := Claim7.holds Tryz.pinned (.plain (OpenSpec.upto stepLivesSpec)) stepLivesUptoCard
end Rows
end Go.Proofs.YtpghiabjaglpgaaGreatDoor
