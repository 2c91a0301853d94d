/- The card: part 1. No conditions beyond those of the row. -/
import Derived.Test.YtpghiabjaglpgaaGreatDoorCards
import Derived.JoinedCond
import Derived.KernelRfl
set_option linter.all false
noncomputable section
namespace Go.Proofs.YtpghiabjaglpgaaGreatDoor.stepNumbers
theorem c1:Rows.stepNumbersUptoRow.wfByText (Rows.OpenSpec.upto Rows.stepNumbersSpec)=true:=by kernel_rfl
end Go.Proofs.YtpghiabjaglpgaaGreatDoor.stepNumbers
