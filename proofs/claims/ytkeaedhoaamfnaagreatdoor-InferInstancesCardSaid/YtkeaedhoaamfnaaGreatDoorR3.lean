/- From the row to the evaluator: part 3. No conditions beyond those of the row. -/
import Derived.Test.YtkeaedhoaamfnaaGreatDoorRows
import Derived.JoinedCond
import Derived.KernelRfl
set_option linter.unusedVariables false
set_option linter.unusedSimpArgs false
noncomputable section
namespace Go.Proofs.YtkeaedhoaamfnaaGreatDoor.inferInstances
open Go
theorem Sz : (Rows.inferInstancesRow.wf (OpenSpec.ofChange (OpenSpec.ofChange Rows.inferInstancesSpec).bare)) = true := by kernel_rfl
theorem Sy : (laidOutB Tryz.prog) = true := by kernel_rfl
theorem Sx : (mapsRowed Tryz.prog) = true := by kernel_rfl
theorem Sw : (Tryz.f6.params.all (Tryz.prog.readableRec ·)) = true := by kernel_rfl
theorem Sv : (namedTie Tryz.prog Rows.inferInstancesRow.named (OpenSpec.ofChange Rows.inferInstancesSpec).bare.vars) = true := by kernel_rfl
theorem Su : ((Rows.inferInstancesRow.stops == [])) = true := by kernel_rfl
theorem Ss : ((Tryz.prog.stops == [])) = true := by kernel_rfl
theorem Sr : ((Rows.inferInstancesRow.knobs == [])) = true := by kernel_rfl
theorem Sq : ((Tryz.prog.stopKnobs == [])) = true := by kernel_rfl
theorem Sp : ((Rows.inferInstancesRow.inPlace == Tryz.prog.inPlace 6)) = true := by kernel_rfl
theorem Rg : ((Rows.inferInstancesRow.unfollowed == Tryz.prog.unfollowed 6)) = true := by kernel_rfl
end Go.Proofs.YtkeaedhoaamfnaaGreatDoor.inferInstances
