/-
  DERIVED. GIVEN WITH THE SEED: THE CARDS: each row of YtenibcfppefobaaGreatDoorRows.lean that lists a variable, with what it lists TIED to the program's text (the seventh form; the later family's looks); each row that meets fmt, with fmt's text TOLD by the authors' own Lean function (tested against real Go, not proved from fmt's source: count such statements apart). THE CARD IS WHAT COUNTS. Prove the row's statement (the work); the ties are given (YtenibcfppefobaaGreatDoorTie.lean); close each card by the builder's one call (the guide's Derived/Test/ToyasCard.lean, 'card_holds'). Laid BY PROGRAM, IN A SANDBOX (cutbox-door.mjs). By AI agents, Wed Nov 11 2026. No macro, syntax, notation, axiom, sorry.
-/
import Derived.Test.YtenibcfppefobaaGreatDoorRows
import GoSem.ClaimSeven
namespace Go.Proofs.YtenibcfppefobaaGreatDoor
namespace Rows

/-- THE TIED CARD OF 'restitchlaw03.InferGeneral'. -/
def inferGeneralCard : Claim7 := { stood := { row := inferGeneralRow, standIns := [], harness := (true, "fe81b6774907dede7b640826310ebf74b7c84b1eb78678838a86e339c1ea1af5"), looks := true }, kinds := [], alts := [], laidByText := true, laidKinds := [.data, .data, .data, .data, .sentinel, .sentinel, .pinned], laidTests := true, laidLooks := .later }
def InferGeneralCardSaid : Prop := Claim7.holds Tryz.pinned (.plain (OpenSpec.ofChange inferGeneralSpec)) inferGeneralCard

/-- THE TIED CARD OF 'restitchlaw03.InferOrder'. -/
def inferOrderCard : Claim7 := { stood := { row := inferOrderRow, standIns := [], harness := (true, "fe81b6774907dede7b640826310ebf74b7c84b1eb78678838a86e339c1ea1af5"), looks := true }, kinds := [], alts := [], laidByText := true, laidKinds := [.data, .data, .data, .data, .sentinel, .sentinel, .pinned], laidTests := true, laidLooks := .later }
def InferOrderCardSaid : Prop := Claim7.holds Tryz.pinned (.plain (OpenSpec.ofChange inferOrderSpec)) inferOrderCard

/-- THE TIED CARD OF 'restitchlaw03.InferSolves'. -/
def inferSolvesCard : Claim7 := { stood := { row := inferSolvesRow, standIns := [], harness := (true, "fe81b6774907dede7b640826310ebf74b7c84b1eb78678838a86e339c1ea1af5"), looks := true }, kinds := [], alts := [], laidByText := true, laidKinds := [.data, .data, .data, .data, .sentinel, .sentinel, .pinned], laidTests := true, laidLooks := .later }
def InferSolvesCardSaid : Prop := Claim7.holds Tryz.pinned (.plain (OpenSpec.ofChange inferSolvesSpec)) inferSolvesCard

/-- THE SECOND FORM's CARD OF 'restitchlaw03.InferGeneral'. -/
def inferGeneralUptoCard : Claim7 := { stood := { row := inferGeneralUptoRow, standIns := [], harness := (true, "fe81b6774907dede7b640826310ebf74b7c84b1eb78678838a86e339c1ea1af5"), looks := true }, kinds := [], alts := [], laidByText := true, laidKinds := [.data, .data, .data, .data, .sentinel, .sentinel, .pinned], laidTests := true, laidLooks := .later }
def InferGeneralUptoCardSaid : Prop := Claim7.holds Tryz.pinned (.plain (OpenSpec.upto inferGeneralSpec)) inferGeneralUptoCard

/-- THE SECOND FORM's CARD OF 'restitchlaw03.InferOrder'. -/
def inferOrderUptoCard : Claim7 := { stood := { row := inferOrderUptoRow, standIns := [], harness := (true, "fe81b6774907dede7b640826310ebf74b7c84b1eb78678838a86e339c1ea1af5"), looks := true }, kinds := [], alts := [], laidByText := true, laidKinds := [.data, .data, .data, .data, .sentinel, .sentinel, .pinned], laidTests := true, laidLooks := .later }
def InferOrderUptoCardSaid : Prop := Claim7.holds Tryz.pinned (.plain (OpenSpec.upto inferOrderSpec)) inferOrderUptoCard

/-- THE SECOND FORM's CARD OF 'restitchlaw03.InferSolves'. -/
def inferSolvesUptoCard : Claim7 := { stood := { row := inferSolvesUptoRow, standIns := [], harness := (true, "fe81b6774907dede7b640826310ebf74b7c84b1eb78678838a86e339c1ea1af5"), looks := true }, kinds := [], alts := [], laidByText := true, laidKinds := [.data, .data, .data, .data, .sentinel, .sentinel, .pinned], laidTests := true, laidLooks := .later }
def InferSolvesUptoCardSaid : Prop := Claim7.holds Tryz.pinned (.plain (OpenSpec.upto inferSolvesSpec)) inferSolvesUptoCard
end Rows
end Go.Proofs.YtenibcfppefobaaGreatDoor
