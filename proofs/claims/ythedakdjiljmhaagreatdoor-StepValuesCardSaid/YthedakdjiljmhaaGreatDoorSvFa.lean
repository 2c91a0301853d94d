/- Closed facts of the row, first part. No conditions. -/
import Derived.Test.YthedakdjiljmhaaGreatDoorRows
import Derived.JoinedCond
import Derived.KernelRfl
set_option linter.unusedVariables false
set_option linter.unusedSimpArgs false
noncomputable section
/- Closed facts of the row, by the kernel. -/
namespace Go.Proofs.YthedakdjiljmhaaGreatDoor.stepValues
open Go
theorem fact0 : (Rows.stepValuesRow.wf (OpenSpec.ofChange (OpenSpec.ofChange Rows.stepValuesSpec).bare)) = true := by kernel_rfl
theorem fact1 : (laidOutB Tryz.prog) = true := by kernel_rfl
theorem fact2 : (mapsRowed Tryz.prog) = true := by kernel_rfl
theorem fact3 : (Tryz.f3.params.all (Tryz.prog.readableRec ·)) = true := by kernel_rfl
theorem fact4 : (namedTie Tryz.prog Rows.stepValuesRow.named (OpenSpec.ofChange Rows.stepValuesSpec).bare.vars) = true := by kernel_rfl
theorem fact5 : ((Rows.stepValuesRow.stops == [])) = true := by kernel_rfl
theorem fact6 : ((Tryz.prog.stops == [])) = true := by kernel_rfl
theorem fact7 : ((Rows.stepValuesRow.knobs == [])) = true := by kernel_rfl
theorem fact8 : ((Tryz.prog.stopKnobs == [])) = true := by kernel_rfl
theorem fact9 : ((Rows.stepValuesRow.inPlace == Tryz.prog.inPlace 3)) = true := by kernel_rfl
theorem fact10 : ((Rows.stepValuesRow.unfollowed == Tryz.prog.unfollowed 3)) = true := by kernel_rfl
end Go.Proofs.YthedakdjiljmhaaGreatDoor.stepValues
