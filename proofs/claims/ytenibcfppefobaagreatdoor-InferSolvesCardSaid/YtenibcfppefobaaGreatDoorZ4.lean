/- The card: part 4. No conditions beyond those of the row. -/
import Derived.Test.YtenibcfppefobaaGreatDoorCards
import Derived.JoinedCond
import Derived.KernelRfl
set_option linter.all false
noncomputable section
namespace Go.Proofs.YtenibcfppefobaaGreatDoor.inferSolves
theorem c3:false=Rows.inferSolvesRow.goesBy Tryz.pinned.checked.prog:=by kernel_rfl
end Go.Proofs.YtenibcfppefobaaGreatDoor.inferSolves
