/- Lemmas. No conditions. -/
import Derived.Test.YtpghiabjaglpgaaGreatDoorCards
import Derived.JoinedCond
set_option linter.all false
noncomputable section
namespace Go.Proofs.YtpghiabjaglpgaaGreatDoor.stepLives
theorem c1:Rows.stepLivesUptoRow.wfByText (Rows.OpenSpec.upto Rows.stepLivesSpec)=true:=by kernel_rfl
