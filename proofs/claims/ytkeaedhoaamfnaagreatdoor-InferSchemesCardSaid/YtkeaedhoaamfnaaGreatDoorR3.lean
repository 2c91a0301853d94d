/- From the row to the evaluator: part 3. No conditions beyond those of the row. -/
import Derived.Test.YtkeaedhoaamfnaaGreatDoorRows
import Derived.JoinedCond
import Derived.KernelRfl
set_option linter.unusedVariables false
set_option linter.unusedSimpArgs false
noncomputable section
namespace Go.Proofs.YtkeaedhoaamfnaaGreatDoor.inferSchemes
open Go
theorem Wv : (Rows.inferSchemesRow.wf (OpenSpec.ofChange (OpenSpec.ofChange Rows.inferSchemesSpec).bare)) = true := by kernel_rfl
theorem Wu : (laidOutB Tryz.prog) = true := by kernel_rfl
theorem Ws : (mapsRowed Tryz.prog) = true := by kernel_rfl
theorem Wr : (Tryz.f5.params.all (Tryz.prog.readableRec ·)) = true := by kernel_rfl
theorem Wq : (namedTie Tryz.prog Rows.inferSchemesRow.named (OpenSpec.ofChange Rows.inferSchemesSpec).bare.vars) = true := by kernel_rfl
theorem Wo : ((Rows.inferSchemesRow.stops == [])) = true := by kernel_rfl
theorem Wn : ((Tryz.prog.stops == [])) = true := by kernel_rfl
theorem Wm : ((Rows.inferSchemesRow.knobs == [])) = true := by kernel_rfl
theorem Wl : ((Tryz.prog.stopKnobs == [])) = true := by kernel_rfl
theorem Wk : ((Rows.inferSchemesRow.inPlace == Tryz.prog.inPlace 5)) = true := by kernel_rfl
theorem UX : ((Rows.inferSchemesRow.unfollowed == Tryz.prog.unfollowed 5)) = true := by kernel_rfl
end Go.Proofs.YtkeaedhoaamfnaaGreatDoor.inferSchemes
