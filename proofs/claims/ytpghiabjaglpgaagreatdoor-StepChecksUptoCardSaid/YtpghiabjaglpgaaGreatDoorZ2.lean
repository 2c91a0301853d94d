/- Lemmas. No conditions. -/
import Derived.Test.YtpghiabjaglpgaaGreatDoorCards
import Derived.JoinedCond
import Derived.KernelRfl
set_option linter.all false
noncomputable section
namespace Go.Proofs.YtpghiabjaglpgaaGreatDoor.stepChecks
theorem c2:Tryz.pinned.checked.prog.mainIs=some (Rows.stepChecksUptoCard.stood.harness.1,Rows.stepChecksUptoCard.stood.harness.2.toList):=by kernel_rfl
end Go.Proofs.YtpghiabjaglpgaaGreatDoor.stepChecks
