/- The card: part 5. No conditions beyond those of the row. -/
import Derived.Test.YtenibcfppefobaaGreatDoorR3
import Derived.Test.YtenibcfppefobaaGreatDoorZ1
import Derived.Test.YtenibcfppefobaaGreatDoorZ2
import Derived.Test.YtenibcfppefobaaGreatDoorZ3
import Derived.Test.YtenibcfppefobaaGreatDoorZ4
set_option linter.all false
noncomputable section
namespace Go.Proofs.YtenibcfppefobaaGreatDoor.inferSolves
open Go Go.ChangeShapes
theorem card:Rows.InferSolvesCardSaid :=
 Claim7.holds_tied_plain_at .later [] _ _ _ _ Xf (fun _ h=>by cases h) c1 (fun _ h=>by cases h) inferSolves_row_tie rfl ⟨rfl,rfl⟩ c2 rfl plain c3
end Go.Proofs.YtenibcfppefobaaGreatDoor.inferSolves
