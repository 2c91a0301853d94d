/- Lemmas. No conditions. -/
import Derived.Test.YtjbplagjmopllaaGreatDoorCards
import Derived.JoinedCond
set_option linter.all false
noncomputable section
namespace Go.Proofs.YtjbplagjmopllaaGreatDoor.stepTails
theorem c3:false=Rows.stepTailsUptoRow.goesBy Tryz.pinned.checked.prog:=by kernel_rfl
