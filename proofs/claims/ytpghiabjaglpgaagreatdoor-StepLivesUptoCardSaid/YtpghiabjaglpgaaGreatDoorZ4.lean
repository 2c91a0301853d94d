/- Lemmas. No conditions. -/
import Derived.Test.YtpghiabjaglpgaaGreatDoorCards
import Derived.JoinedCond
set_option linter.all false
noncomputable section
namespace Go.Proofs.YtpghiabjaglpgaaGreatDoor.stepLives
theorem c3:false=Rows.stepLivesUptoRow.goesBy Tryz.pinned.checked.prog:=by kernel_rfl
