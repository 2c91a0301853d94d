/- Lemmas. No conditions. -/
import Derived.Test.YtjbplagjmopllaaGreatDoorCards
import Derived.JoinedCond
set_option linter.all false
noncomputable section
namespace Go.Proofs.YtjbplagjmopllaaGreatDoor.stepTails
theorem c1:Rows.stepTailsUptoRow.wfByText (Rows.OpenSpec.upto Rows.stepTailsSpec)=true:=by kernel_rfl
