/- The card: part 2. No conditions beyond those of the row. -/
import Derived.Test.YtenibcfppefobaaGreatDoorCards
import Derived.JoinedCond
import Derived.KernelRfl
set_option linter.all false
noncomputable section
namespace Go.Proofs.YtenibcfppefobaaGreatDoor.inferSolves
theorem c2:Tryz.pinned.checked.prog.mainIs=some (Rows.inferSolvesCard.stood.harness.1,Rows.inferSolvesCard.stood.harness.2.toList):=by kernel_rfl
end Go.Proofs.YtenibcfppefobaaGreatDoor.inferSolves
