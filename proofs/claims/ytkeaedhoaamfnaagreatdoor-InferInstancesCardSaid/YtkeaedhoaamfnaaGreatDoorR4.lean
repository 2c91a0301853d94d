/- From the row to the evaluator: part 4. No conditions beyond those of the row. -/
import Derived.Test.YtkeaedhoaamfnaaGreatDoorRows
import Derived.JoinedCond
import Derived.KernelRfl
set_option linter.unusedVariables false
set_option linter.unusedSimpArgs false
noncomputable section
namespace Go.Proofs.YtkeaedhoaamfnaaGreatDoor.inferInstances
open Go
theorem Rf : ((Rows.inferInstancesRow.recurses == Tryz.prog.recurses 6)) = true := by kernel_rfl
theorem Re : ((Rows.inferInstancesRow.named == Tryz.prog.varsNamed 6)) = true := by kernel_rfl
theorem Rd : ((Rows.inferInstancesRow.maps == (Tryz.f6.params.toList ++ (OpenSpec.ofChange Rows.inferInstancesSpec).bare.plain.varTypes Tryz.prog).any (Tryz.prog.mapsRec ·))) = true := by kernel_rfl
theorem Rc : ((Rows.inferInstancesRow.ifaces == (Tryz.f6.params.toList ++ (OpenSpec.ofChange Rows.inferInstancesSpec).bare.plain.varTypes Tryz.prog).any (Tryz.prog.ifacesRec ·))) = true := by kernel_rfl
theorem Rb : ((Rows.inferInstancesRow.mapsOut == Tryz.prog.mapsAmong Tryz.f6.resultTypes.toList)) = true := by kernel_rfl
theorem Ra : ((Rows.inferInstancesRow.loops == (Tryz.f6.params.toList ++ (OpenSpec.ofChange Rows.inferInstancesSpec).bare.plain.varTypes Tryz.prog).any (Tryz.prog.loopsFrom ·))) = true := by kernel_rfl
theorem QZ : ((Rows.inferInstancesRow.wideKeys == (Tryz.f6.params.toList ++ (OpenSpec.ofChange Rows.inferInstancesSpec).bare.plain.varTypes Tryz.prog ++ Tryz.f6.resultTypes.toList).any (Tryz.prog.wideKeysFrom ·))) = true := by kernel_rfl
theorem QY : ((OpenSpec.ofChange Rows.inferInstancesSpec).bare.vars.all (Tryz.prog.varReadable ·)) = true := by kernel_rfl
theorem QX : (Tryz.f6.resultTypes.all (fun t => Tryz.prog.readableRec t && decide (t < Tryz.prog.types.size))) = true := by kernel_rfl
theorem QW : ((Rows.inferInstancesRow.ifacesOut == Tryz.f6.resultTypes.toList.any (Tryz.prog.ifacesRec ·))) = true := by kernel_rfl
theorem QV : ((Rows.inferInstancesRow.loopsOut == Tryz.f6.resultTypes.toList.any (Tryz.prog.loopsFrom ·))) = true := by kernel_rfl
theorem QU : ((Rows.inferInstancesRow.plainKeys == Tryz.prog.plainKeys)) = true := by kernel_rfl
theorem QR : (Rows.inferInstancesRow.shortTexts.isNone) = true := by kernel_rfl
theorem QQ : (Tryz.prog.stopsHeard) = true := by kernel_rfl
theorem QP : (Tryz.prog.mayEnter) = true := by kernel_rfl
theorem QO : ((Rows.inferInstancesRow.lifted == Tryz.prog.liftsFinal)) = true := by kernel_rfl
theorem QM : ((Tryz.prog.make == some Rows.inferInstancesRow.make)) = true := by kernel_rfl
theorem QL : ((Rows.inferInstancesRow.kinds == (if Rows.inferInstancesRow.domain.isEmpty then [] else Tryz.f6.params.toList.map fun t => match Tryz.prog.underlying t with | some (.int k) => some k | _ => none))) = true := by kernel_rfl
theorem QJ : ((Rows.inferInstancesRow.pinned == Rows.inferInstancesRow.pinnedBy)) = true := by kernel_rfl
theorem QH : ((Rows.inferInstancesRow.veiled == (Tryz.f6.params.toList ++ (OpenSpec.ofChange Rows.inferInstancesSpec).bare.plain.varTypes Tryz.prog ++ Tryz.f6.resultTypes.toList).any (Tryz.prog.veiledRec ·))) = true := by kernel_rfl
theorem QG : (Rows.inferInstancesRow.veiledFits Tryz.prog Tryz.f6.params.toList (Tryz.f6.params.toList ++ (OpenSpec.ofChange Rows.inferInstancesSpec).bare.plain.varTypes Tryz.prog ++ Tryz.f6.resultTypes.toList)) = true := by kernel_rfl
end Go.Proofs.YtkeaedhoaamfnaaGreatDoor.inferInstances
