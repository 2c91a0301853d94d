/- The card: part 5. No conditions beyond those of the row. -/
import Derived.Test.YtpghiabjaglpgaaGreatDoorR3
import Derived.Test.YtpghiabjaglpgaaGreatDoorZ1
import Derived.Test.YtpghiabjaglpgaaGreatDoorZ2
import Derived.Test.YtpghiabjaglpgaaGreatDoorZ3
import Derived.Test.YtpghiabjaglpgaaGreatDoorZ4
set_option linter.all false
noncomputable section
namespace Go.Proofs.YtpghiabjaglpgaaGreatDoor.stepNumbers
open Go Go.ChangeShapes
theorem card:Rows.StepNumbersUptoCardSaid :=
 Claim7.holds_tied_plain_at .later [] _ _ _ _ XZ (fun _ h=>by cases h) c1 (fun _ h=>by cases h) stepNumbersUpto_row_tie rfl ⟨rfl,rfl⟩ c2 rfl plain c3
end Go.Proofs.YtpghiabjaglpgaaGreatDoor.stepNumbers
