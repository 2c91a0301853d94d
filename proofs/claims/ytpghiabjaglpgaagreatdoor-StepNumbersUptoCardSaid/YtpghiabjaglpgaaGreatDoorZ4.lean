/- The card: part 4. No conditions beyond those of the row. -/
import Derived.Test.YtpghiabjaglpgaaGreatDoorCards
import Derived.JoinedCond
import Derived.KernelRfl
set_option linter.all false
noncomputable section
namespace Go.Proofs.YtpghiabjaglpgaaGreatDoor.stepNumbers
theorem c3:false=Rows.stepNumbersUptoRow.goesBy Tryz.pinned.checked.prog:=by kernel_rfl
end Go.Proofs.YtpghiabjaglpgaaGreatDoor.stepNumbers
