/-
  DERIVED. GIVEN WITH THE SEED: THE CARDS: each row of YtjbplagjmopllaaGreatDoorRows.lean that lists a variable, with what it lists TIED to the program's text (the seventh form; the later family's looks); each row that meets fmt, with fmt's text TOLD by the authors' own Lean function (tested against real Go, not proved from fmt's source: count such statements apart). THE CARD IS WHAT COUNTS. Prove the row's statement (the work); the ties are given (YtjbplagjmopllaaGreatDoorTie.lean); close each card by the builder's one call (the guide's Derived/Test/ToyasCard.lean, 'card_holds'). Laid BY PROGRAM, IN A SANDBOX (cutbox-door.mjs). By AI agents, Wed Nov 11 2026. No macro, syntax, notation, axiom, sorry.
-/
import Derived.Test.YtjbplagjmopllaaGreatDoorRows
import GoSem.ClaimSeven
namespace Go.Proofs.YtjbplagjmopllaaGreatDoor
namespace Rows

/-- THE TIED CARD OF 'restitchlaw07.StepTails'. -/
def stepTailsCard : Claim7 := { stood := { row := stepTailsRow, standIns := [], harness := (true, "6518a683d45eca59af86c18d02afd60457b213df0d065aaf2c134b4fd06b186e"), looks := true }, kinds := [], alts := [], laidByText := true, laidKinds := [.data, .data, .data, .data, .sentinel, .sentinel, .pinned], laidTests := true, laidLooks := .later }
def StepTailsCardSaid : Prop := Claim7.holds Tryz.pinned (.plain (OpenSpec.ofChange stepTailsSpec)) stepTailsCard

/-- THE TIED CARD OF 'restitchlaw07.StepCollected'. -/
def stepCollectedCard : Claim7 := { stood := { row := stepCollectedRow, standIns := [], harness := (true, "6518a683d45eca59af86c18d02afd60457b213df0d065aaf2c134b4fd06b186e"), looks := true }, kinds := [], alts := [], laidByText := true, laidKinds := [.data, .data, .data, .data, .sentinel, .sentinel, .pinned], laidTests := true, laidLooks := .later }
def StepCollectedCardSaid : Prop := Claim7.holds Tryz.pinned (.plain (OpenSpec.ofChange stepCollectedSpec)) stepCollectedCard

/-- THE TIED CARD OF 'restitchlaw07.StepSplits'. -/
def stepSplitsCard : Claim7 := { stood := { row := stepSplitsRow, standIns := [], harness := (true, "6518a683d45eca59af86c18d02afd60457b213df0d065aaf2c134b4fd06b186e"), looks := true }, kinds := [], alts := [], laidByText := true, laidKinds := [.data, .data, .data, .data, .sentinel, .sentinel, .pinned], laidTests := true, laidLooks := .later }
def StepSplitsCardSaid : Prop := Claim7.holds Tryz.pinned (.plain (OpenSpec.ofChange stepSplitsSpec)) stepSplitsCard

/-- THE SECOND FORM's CARD OF 'restitchlaw07.StepTails'. -/
def stepTailsUptoCard : Claim7 := { stood := { row := stepTailsUptoRow, standIns := [], harness := (true, "6518a683d45eca59af86c18d02afd60457b213df0d065aaf2c134b4fd06b186e"), looks := true }, kinds := [], alts := [], laidByText := true, laidKinds := [.data, .data, .data, .data, .sentinel, .sentinel, .pinned], laidTests := true, laidLooks := .later }
def StepTailsUptoCardSaid : Prop := Claim7.holds Tryz.pinned (.plain (OpenSpec.upto stepTailsSpec)) stepTailsUptoCard

/-- THE SECOND FORM's CARD OF 'restitchlaw07.StepCollected'. -/
def stepCollectedUptoCard : Claim7 := { stood := { row := stepCollectedUptoRow, standIns := [], harness := (true, "6518a683d45eca59af86c18d02afd60457b213df0d065aaf2c134b4fd06b186e"), looks := true }, kinds := [], alts := [], laidByText := true, laidKinds := [.data, .data, .data, .data, .sentinel, .sentinel, .pinned], laidTests := true, laidLooks := .later }
def StepCollectedUptoCardSaid : Prop := Claim7.holds Tryz.pinned (.plain (OpenSpec.upto stepCollectedSpec)) stepCollectedUptoCard

/-- THE SECOND FORM's CARD OF 'restitchlaw07.StepSplits'. -/
def stepSplitsUptoCard : Claim7 := { stood := { row := stepSplitsUptoRow, standIns := [], harness := (true, "6518a683d45eca59af86c18d02afd60457b213df0d065aaf2c134b4fd06b186e"), looks := true }, kinds := [], alts := [], laidByText := true, laidKinds := [.data, .data, .data, .data, .sentinel, .sentinel, .pinned], laidTests := true, laidLooks := .later }
def StepSplitsUptoCardSaid : Prop := Claim7.holds Tryz.pinned (.plain (OpenSpec.upto stepSplitsSpec)) stepSplitsUptoCard
end Rows
end Go.Proofs.YtjbplagjmopllaaGreatDoor
