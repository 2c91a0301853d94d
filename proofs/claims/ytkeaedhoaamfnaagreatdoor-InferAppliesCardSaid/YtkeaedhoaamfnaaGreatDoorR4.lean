/- From the row to the evaluator: part 4. No conditions beyond those of the row. -/
import Derived.Test.YtkeaedhoaamfnaaGreatDoorRows
import Derived.JoinedCond
import Derived.KernelRfl
set_option linter.unusedVariables false
set_option linter.unusedSimpArgs false
noncomputable section
/- Closed facts of the row, by the kernel. -/
namespace Go.Proofs.YtkeaedhoaamfnaaGreatDoor.inferApplies
open Go
theorem fact0 : (Rows.inferAppliesRow.wf (OpenSpec.ofChange (OpenSpec.ofChange Rows.inferAppliesSpec).bare)) = true := by kernel_rfl
theorem fact1 : (laidOutB Tryz.prog) = true := by kernel_rfl
theorem fact2 : (mapsRowed Tryz.prog) = true := by kernel_rfl
theorem fact3 : (Tryz.f4.params.all (Tryz.prog.readableRec ·)) = true := by kernel_rfl
theorem fact4 : (namedTie Tryz.prog Rows.inferAppliesRow.named (OpenSpec.ofChange Rows.inferAppliesSpec).bare.vars) = true := by kernel_rfl
theorem fact5 : ((Rows.inferAppliesRow.stops == [])) = true := by kernel_rfl
theorem fact6 : ((Tryz.prog.stops == [])) = true := by kernel_rfl
theorem fact7 : ((Rows.inferAppliesRow.knobs == [])) = true := by kernel_rfl
theorem fact8 : ((Tryz.prog.stopKnobs == [])) = true := by kernel_rfl
theorem fact9 : ((Rows.inferAppliesRow.inPlace == Tryz.prog.inPlace 4)) = true := by kernel_rfl
theorem fact10 : ((Rows.inferAppliesRow.unfollowed == Tryz.prog.unfollowed 4)) = true := by kernel_rfl
end Go.Proofs.YtkeaedhoaamfnaaGreatDoor.inferApplies
