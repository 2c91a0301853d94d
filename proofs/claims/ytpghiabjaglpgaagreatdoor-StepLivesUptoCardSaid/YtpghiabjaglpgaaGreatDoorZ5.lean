/- Lemmas. No conditions. -/
import Derived.Test.YtpghiabjaglpgaaGreatDoorR3
import Derived.Test.YtpghiabjaglpgaaGreatDoorZ1
import Derived.Test.YtpghiabjaglpgaaGreatDoorZ2
import Derived.Test.YtpghiabjaglpgaaGreatDoorZ3
import Derived.Test.YtpghiabjaglpgaaGreatDoorZ4
set_option linter.all false
noncomputable section
namespace Go.Proofs.YtpghiabjaglpgaaGreatDoor.stepLives
open Go Go.ChangeShapes
theorem card:Rows.StepLivesUptoCardSaid :=
 Claim7.holds_tied_plain_at .later [] _ _ _ _ ajV (λ_ h=>by cases h) c1 (λ_ h=>by cases h) stepLivesUpto_row_tie rfl ⟨rfl,rfl⟩ c2 rfl plain c3
