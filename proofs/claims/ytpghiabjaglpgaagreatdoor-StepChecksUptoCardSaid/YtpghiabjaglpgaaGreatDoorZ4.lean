/- Lemmas. No conditions. -/
import Derived.Test.YtpghiabjaglpgaaGreatDoorCards
import Derived.JoinedCond
import Derived.KernelRfl
set_option linter.all false
noncomputable section
namespace Go.Proofs.YtpghiabjaglpgaaGreatDoor.stepChecks
theorem c3:false=Rows.stepChecksUptoRow.goesBy Tryz.pinned.checked.prog:=by kernel_rfl
end Go.Proofs.YtpghiabjaglpgaaGreatDoor.stepChecks
