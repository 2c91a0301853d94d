/-
  DERIVED. GIVEN WITH THE SEED: THE CARDS: each row of YthedakdjiljmhaaGreatDoorRows.lean that lists a variable, with what it lists TIED to the program's text (the seventh form; the later family's looks); each row that meets fmt, with fmt's text TOLD by the authors' own Lean function (tested against real Go, not proved from fmt's source: count such statements apart). THE CARD IS WHAT COUNTS. Prove the row's statement (the work); the ties are given (YthedakdjiljmhaaGreatDoorTie.lean); close each card by the builder's one call (the guide's Derived/Test/ToyasCard.lean, 'card_holds'). Laid BY PROGRAM, IN A SANDBOX (cutbox-door.mjs). By AI agents, Wed Nov 11 2026. No macro, syntax, notation, axiom, sorry.
-/
import Derived.Test.YthedakdjiljmhaaGreatDoorRows
import GoSem.ClaimSeven
namespace Go.Proofs.YthedakdjiljmhaaGreatDoor
namespace Rows

/-- THE TIED CARD OF 'restitchlaw07.StepValues'. -/
def stepValuesCard : Claim7 := { stood := { row := stepValuesRow, standIns := [], harness := (true, "fe222dba544c5142e5d56a51a59df4b189c71ea6de2d907053a3031347a63155"), looks := true }, kinds := [], alts := [], laidByText := true, laidKinds := [.data, .data, .data, .data, .sentinel, .sentinel, .pinned], laidTests := true, laidLooks := .later }
def StepValuesCardSaid : Prop := Claim7.holds Tryz.pinned (.plain (OpenSpec.ofChange stepValuesSpec)) stepValuesCard

/-- THE SECOND FORM's CARD OF 'restitchlaw07.StepValues'. -/
def stepValuesUptoCard : Claim7 := { stood := { row := stepValuesUptoRow, standIns := [], harness := (true, "fe222dba544c5142e5d56a51a59df4b189c71ea6de2d907053a3031347a63155"), looks := true }, kinds := [], alts := [], laidByText := true, laidKinds := [.data, .data, .data, .data, .sentinel, .sentinel, .pinned], laidTests := true, laidLooks := .later }
def StepValuesUptoCardSaid : Prop := Claim7.holds Tryz.pinned (.plain (OpenSpec.upto stepValuesSpec)) stepValuesUptoCard
end Rows
end Go.Proofs.YthedakdjiljmhaaGreatDoor
