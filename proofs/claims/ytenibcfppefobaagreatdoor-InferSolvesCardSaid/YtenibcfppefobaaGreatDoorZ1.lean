/- The card: part 1. No conditions beyond those of the row. -/
import Derived.Test.YtenibcfppefobaaGreatDoorCards
import Derived.JoinedCond
import Derived.KernelRfl
set_option linter.all false
noncomputable section
namespace Go.Proofs.YtenibcfppefobaaGreatDoor.inferSolves
theorem c1:Rows.inferSolvesRow.wfByText (OpenSpec.ofChange Rows.inferSolvesSpec)=true:=by kernel_rfl
end Go.Proofs.YtenibcfppefobaaGreatDoor.inferSolves
