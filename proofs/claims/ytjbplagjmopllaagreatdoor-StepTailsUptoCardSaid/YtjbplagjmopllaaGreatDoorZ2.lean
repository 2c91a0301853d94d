/- Lemmas. No conditions. -/
import Derived.Test.YtjbplagjmopllaaGreatDoorCards
import Derived.JoinedCond
set_option linter.all false
noncomputable section
namespace Go.Proofs.YtjbplagjmopllaaGreatDoor.stepTails
theorem c2:Tryz.pinned.checked.prog.mainIs=some (Rows.stepTailsUptoCard.stood.harness.1,Rows.stepTailsUptoCard.stood.harness.2.toList):=by kernel_rfl
