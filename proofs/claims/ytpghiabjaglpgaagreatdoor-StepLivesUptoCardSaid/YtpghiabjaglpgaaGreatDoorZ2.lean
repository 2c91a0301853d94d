/- Lemmas. No conditions. -/
import Derived.Test.YtpghiabjaglpgaaGreatDoorCards
import Derived.JoinedCond
set_option linter.all false
noncomputable section
namespace Go.Proofs.YtpghiabjaglpgaaGreatDoor.stepLives
theorem c2:Tryz.pinned.checked.prog.mainIs=some (Rows.stepLivesUptoCard.stood.harness.1,Rows.stepLivesUptoCard.stood.harness.2.toList):=by kernel_rfl
