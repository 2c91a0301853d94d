/-
  DERIVED. GIVEN WITH THE SEED: THE CARDS: each row of YtkeaedhoaamfnaaGreatDoorRows.lean that lists a variable, with what it lists TIED to the program's text (the seventh form; the later family's looks); each row that meets fmt, with fmt's text TOLD by the authors' own Lean function (tested against real Go, not proved from fmt's source: count such statements apart). THE CARD IS WHAT COUNTS. Prove the row's statement (the work); the ties are given (YtkeaedhoaamfnaaGreatDoorTie.lean); close each card by the builder's one call (the guide's Derived/Test/ToyasCard.lean, 'card_holds'). Laid BY PROGRAM, IN A SANDBOX (cutbox-door.mjs). By AI agents, Wed Nov 11 2026. No macro, syntax, notation, axiom, sorry.
-/
import Derived.Test.YtkeaedhoaamfnaaGreatDoorRows
import GoSem.ClaimSeven
namespace Go.Proofs.YtkeaedhoaamfnaaGreatDoor
namespace Rows

/-- THE TIED CARD OF 'restitchlaw03.InferTypes'. -/
def inferTypesCard : Claim7 := { stood := { row := inferTypesRow, standIns := [], harness := (true, "01c3704c562988d72f825a3c2f81c9e92b64e1fddd6b8824ca66e096b5bf248c"), looks := true }, kinds := [], alts := [], laidByText := true, laidKinds := [.data, .data, .data, .data, .sentinel, .sentinel, .pinned], laidTests := true, laidLooks := .later }
def InferTypesCardSaid : Prop := Claim7.holds Tryz.pinned (.plain (OpenSpec.ofChange inferTypesSpec)) inferTypesCard

/-- THE TIED CARD OF 'restitchlaw03.InferApplies'. -/
def inferAppliesCard : Claim7 := { stood := { row := inferAppliesRow, standIns := [], harness := (true, "01c3704c562988d72f825a3c2f81c9e92b64e1fddd6b8824ca66e096b5bf248c"), looks := true }, kinds := [], alts := [], laidByText := true, laidKinds := [.data, .data, .data, .data, .sentinel, .sentinel, .pinned], laidTests := true, laidLooks := .later }
def InferAppliesCardSaid : Prop := Claim7.holds Tryz.pinned (.plain (OpenSpec.ofChange inferAppliesSpec)) inferAppliesCard

/-- THE TIED CARD OF 'restitchlaw03.InferSchemes'. -/
def inferSchemesCard : Claim7 := { stood := { row := inferSchemesRow, standIns := [], harness := (true, "01c3704c562988d72f825a3c2f81c9e92b64e1fddd6b8824ca66e096b5bf248c"), looks := true }, kinds := [], alts := [], laidByText := true, laidKinds := [.data, .data, .data, .data, .sentinel, .sentinel, .pinned], laidTests := true, laidLooks := .later }
def InferSchemesCardSaid : Prop := Claim7.holds Tryz.pinned (.plain (OpenSpec.ofChange inferSchemesSpec)) inferSchemesCard

/-- THE TIED CARD OF 'restitchlaw03.InferInstances'. -/
def inferInstancesCard : Claim7 := { stood := { row := inferInstancesRow, standIns := [], harness := (true, "01c3704c562988d72f825a3c2f81c9e92b64e1fddd6b8824ca66e096b5bf248c"), looks := true }, kinds := [], alts := [], laidByText := true, laidKinds := [.data, .data, .data, .data, .sentinel, .sentinel, .pinned], laidTests := true, laidLooks := .later }
def InferInstancesCardSaid : Prop := Claim7.holds Tryz.pinned (.plain (OpenSpec.ofChange inferInstancesSpec)) inferInstancesCard

/-- THE SECOND FORM's CARD OF 'restitchlaw03.InferTypes'. -/
def inferTypesUptoCard : Claim7 := { stood := { row := inferTypesUptoRow, standIns := [], harness := (true, "01c3704c562988d72f825a3c2f81c9e92b64e1fddd6b8824ca66e096b5bf248c"), looks := true }, kinds := [], alts := [], laidByText := true, laidKinds := [.data, .data, .data, .data, .sentinel, .sentinel, .pinned], laidTests := true, laidLooks := .later }
def InferTypesUptoCardSaid : Prop := Claim7.holds Tryz.pinned (.plain (OpenSpec.upto inferTypesSpec)) inferTypesUptoCard

/-- THE SECOND FORM's CARD OF 'restitchlaw03.InferApplies'. -/
def inferAppliesUptoCard : Claim7 := { stood := { row := inferAppliesUptoRow, standIns := [], harness := (true, "01c3704c562988d72f825a3c2f81c9e92b64e1fddd6b8824ca66e096b5bf248c"), looks := true }, kinds := [], alts := [], laidByText := true, laidKinds := [.data, .data, .data, .data, .sentinel, .sentinel, .pinned], laidTests := true, laidLooks := .later }
def InferAppliesUptoCardSaid : Prop := Claim7.holds Tryz.pinned (.plain (OpenSpec.upto inferAppliesSpec)) inferAppliesUptoCard

/-- THE SECOND FORM's CARD OF 'restitchlaw03.InferSchemes'. -/
def inferSchemesUptoCard : Claim7 := { stood := { row := inferSchemesUptoRow, standIns := [], harness := (true, "01c3704c562988d72f825a3c2f81c9e92b64e1fddd6b8824ca66e096b5bf248c"), looks := true }, kinds := [], alts := [], laidByText := true, laidKinds := [.data, .data, .data, .data, .sentinel, .sentinel, .pinned], laidTests := true, laidLooks := .later }
def InferSchemesUptoCardSaid : Prop := Claim7.holds Tryz.pinned (.plain (OpenSpec.upto inferSchemesSpec)) inferSchemesUptoCard

/-- THE SECOND FORM's CARD OF 'restitchlaw03.InferInstances'. -/
def inferInstancesUptoCard : Claim7 := { stood := { row := inferInstancesUptoRow, standIns := [], harness := (true, "01c3704c562988d72f825a3c2f81c9e92b64e1fddd6b8824ca66e096b5bf248c"), looks := true }, kinds := [], alts := [], laidByText := true, laidKinds := [.data, .data, .data, .data, .sentinel, .sentinel, .pinned], laidTests := true, laidLooks := .later }
def InferInstancesUptoCardSaid : Prop := Claim7.holds Tryz.pinned (.plain (OpenSpec.upto inferInstancesSpec)) inferInstancesUptoCard
end Rows
end Go.Proofs.YtkeaedhoaamfnaaGreatDoor
