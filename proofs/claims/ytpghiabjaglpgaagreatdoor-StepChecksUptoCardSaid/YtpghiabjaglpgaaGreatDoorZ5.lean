/- StepChecks answers true at all arguments that hold together at most 1048576 values and letters. No conditions beyond those of the row. -/
import Derived.Test.YtpghiabjaglpgaaGreatDoorR3
import Derived.Test.YtpghiabjaglpgaaGreatDoorZ2
import Derived.Test.YtpghiabjaglpgaaGreatDoorZ3
import Derived.Test.YtpghiabjaglpgaaGreatDoorZ4
set_option linter.all false
noncomputable section
namespace Go.Proofs.YtpghiabjaglpgaaGreatDoor.stepChecks
open Go Go.ChangeShapes
theorem card:Rows.StepChecksUptoCardSaid :=
 Claim7.holds_tied_plain_at .later [] _ _ _ _ aeT (fun _ h=>by cases h) c1 (fun _ h=>by cases h) stepChecksUpto_row_tie rfl ⟨rfl,rfl⟩ c2 rfl plain c3
end Go.Proofs.YtpghiabjaglpgaaGreatDoor.stepChecks
