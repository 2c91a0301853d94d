/- From the row to the evaluator: part 2. No conditions beyond those of the row. -/
import Derived.Test.YtkeaedhoaamfnaaGreatDoorRows
import Derived.JoinedCond
import Derived.KernelRfl
set_option linter.unusedVariables false
set_option linter.unusedSimpArgs false
noncomputable section
/- Closed facts of the row, by the kernel. -/
namespace Go.Proofs.YtkeaedhoaamfnaaGreatDoor.inferTypes
open Go
theorem fact0 : (Rows.inferTypesRow.wf (OpenSpec.ofChange (OpenSpec.ofChange Rows.inferTypesSpec).bare)) = true := by kernel_rfl
theorem fact1 : (laidOutB Tryz.prog) = true := by kernel_rfl
theorem fact2 : (mapsRowed Tryz.prog) = true := by kernel_rfl
theorem fact3 : (Tryz.f3.params.all (Tryz.prog.readableRec ·)) = true := by kernel_rfl
theorem fact4 : (namedTie Tryz.prog Rows.inferTypesRow.named (OpenSpec.ofChange Rows.inferTypesSpec).bare.vars) = true := by kernel_rfl
theorem fact5 : ((Rows.inferTypesRow.stops == [])) = true := by kernel_rfl
theorem fact6 : ((Tryz.prog.stops == [])) = true := by kernel_rfl
theorem fact7 : ((Rows.inferTypesRow.knobs == [])) = true := by kernel_rfl
theorem fact8 : ((Tryz.prog.stopKnobs == [])) = true := by kernel_rfl
theorem fact9 : ((Rows.inferTypesRow.inPlace == Tryz.prog.inPlace 3)) = true := by kernel_rfl
theorem fact10 : ((Rows.inferTypesRow.unfollowed == Tryz.prog.unfollowed 3)) = true := by kernel_rfl
end Go.Proofs.YtkeaedhoaamfnaaGreatDoor.inferTypes
