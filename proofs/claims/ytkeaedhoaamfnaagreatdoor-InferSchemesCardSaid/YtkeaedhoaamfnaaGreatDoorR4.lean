/- From the row to the evaluator: part 4. No conditions beyond those of the row. -/
import Derived.Test.YtkeaedhoaamfnaaGreatDoorRows
import Derived.JoinedCond
import Derived.KernelRfl
set_option linter.unusedVariables false
set_option linter.unusedSimpArgs false
noncomputable section
namespace Go.Proofs.YtkeaedhoaamfnaaGreatDoor.inferSchemes
open Go
theorem UW : ((Rows.inferSchemesRow.recurses == Tryz.prog.recurses 5)) = true := by kernel_rfl
theorem US : ((Rows.inferSchemesRow.named == Tryz.prog.varsNamed 5)) = true := by kernel_rfl
theorem UQ : ((Rows.inferSchemesRow.maps == (Tryz.f5.params.toList ++ (OpenSpec.ofChange Rows.inferSchemesSpec).bare.plain.varTypes Tryz.prog).any (Tryz.prog.mapsRec ·))) = true := by kernel_rfl
theorem UP : ((Rows.inferSchemesRow.ifaces == (Tryz.f5.params.toList ++ (OpenSpec.ofChange Rows.inferSchemesSpec).bare.plain.varTypes Tryz.prog).any (Tryz.prog.ifacesRec ·))) = true := by kernel_rfl
theorem UN : ((Rows.inferSchemesRow.mapsOut == Tryz.prog.mapsAmong Tryz.f5.resultTypes.toList)) = true := by kernel_rfl
theorem UL : ((Rows.inferSchemesRow.loops == (Tryz.f5.params.toList ++ (OpenSpec.ofChange Rows.inferSchemesSpec).bare.plain.varTypes Tryz.prog).any (Tryz.prog.loopsFrom ·))) = true := by kernel_rfl
theorem UK : ((Rows.inferSchemesRow.wideKeys == (Tryz.f5.params.toList ++ (OpenSpec.ofChange Rows.inferSchemesSpec).bare.plain.varTypes Tryz.prog ++ Tryz.f5.resultTypes.toList).any (Tryz.prog.wideKeysFrom ·))) = true := by kernel_rfl
theorem UJ : ((OpenSpec.ofChange Rows.inferSchemesSpec).bare.vars.all (Tryz.prog.varReadable ·)) = true := by kernel_rfl
theorem UI : (Tryz.f5.resultTypes.all (fun t => Tryz.prog.readableRec t && decide (t < Tryz.prog.types.size))) = true := by kernel_rfl
theorem UH : ((Rows.inferSchemesRow.ifacesOut == Tryz.f5.resultTypes.toList.any (Tryz.prog.ifacesRec ·))) = true := by kernel_rfl
theorem UG : ((Rows.inferSchemesRow.loopsOut == Tryz.f5.resultTypes.toList.any (Tryz.prog.loopsFrom ·))) = true := by kernel_rfl
theorem UF : ((Rows.inferSchemesRow.plainKeys == Tryz.prog.plainKeys)) = true := by kernel_rfl
theorem UE : (Rows.inferSchemesRow.shortTexts.isNone) = true := by kernel_rfl
theorem UD : (Tryz.prog.stopsHeard) = true := by kernel_rfl
theorem UC : (Tryz.prog.mayEnter) = true := by kernel_rfl
theorem UB : ((Rows.inferSchemesRow.lifted == Tryz.prog.liftsFinal)) = true := by kernel_rfl
theorem UA : ((Tryz.prog.make == some Rows.inferSchemesRow.make)) = true := by kernel_rfl
theorem Uz : ((Rows.inferSchemesRow.kinds == (if Rows.inferSchemesRow.domain.isEmpty then [] else Tryz.f5.params.toList.map fun t => match Tryz.prog.underlying t with | some (.int k) => some k | _ => none))) = true := by kernel_rfl
theorem Uy : ((Rows.inferSchemesRow.pinned == Rows.inferSchemesRow.pinnedBy)) = true := by kernel_rfl
theorem Ux : ((Rows.inferSchemesRow.veiled == (Tryz.f5.params.toList ++ (OpenSpec.ofChange Rows.inferSchemesSpec).bare.plain.varTypes Tryz.prog ++ Tryz.f5.resultTypes.toList).any (Tryz.prog.veiledRec ·))) = true := by kernel_rfl
theorem Uw : (Rows.inferSchemesRow.veiledFits Tryz.prog Tryz.f5.params.toList (Tryz.f5.params.toList ++ (OpenSpec.ofChange Rows.inferSchemesSpec).bare.plain.varTypes Tryz.prog ++ Tryz.f5.resultTypes.toList)) = true := by kernel_rfl
end Go.Proofs.YtkeaedhoaamfnaaGreatDoor.inferSchemes
