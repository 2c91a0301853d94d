/- Lemmas. No conditions. -/
import Derived.Test.YtjbplagjmopllaaGreatDoorR3
import Derived.Test.YtjbplagjmopllaaGreatDoorZ1
import Derived.Test.YtjbplagjmopllaaGreatDoorZ2
import Derived.Test.YtjbplagjmopllaaGreatDoorZ3
import Derived.Test.YtjbplagjmopllaaGreatDoorZ4
set_option linter.all false
noncomputable section
namespace Go.Proofs.YtjbplagjmopllaaGreatDoor.stepTails
open Go Go.ChangeShapes
theorem card:Rows.StepTailsUptoCardSaid :=
 Claim7.holds_tied_plain_at .later [] _ _ _ _ afK (λ_ h=>by cases h) c1 (λ_ h=>by cases h) stepTailsUpto_row_tie rfl ⟨rfl,rfl⟩ c2 rfl plain c3
