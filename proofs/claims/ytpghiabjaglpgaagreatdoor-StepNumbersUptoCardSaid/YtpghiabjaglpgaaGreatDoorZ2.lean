/- The card: part 2. No conditions beyond those of the row. -/
import Derived.Test.YtpghiabjaglpgaaGreatDoorCards
import Derived.JoinedCond
import Derived.KernelRfl
set_option linter.all false
noncomputable section
namespace Go.Proofs.YtpghiabjaglpgaaGreatDoor.stepNumbers
theorem c2:Tryz.pinned.checked.prog.mainIs=some (Rows.stepNumbersUptoCard.stood.harness.1,Rows.stepNumbersUptoCard.stood.harness.2.toList):=by kernel_rfl
end Go.Proofs.YtpghiabjaglpgaaGreatDoor.stepNumbers
