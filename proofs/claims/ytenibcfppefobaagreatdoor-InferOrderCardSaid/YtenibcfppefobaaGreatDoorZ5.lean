/- The card: part 5. No conditions beyond those of the row. -/
import Derived.Test.YtenibcfppefobaaGreatDoorR3
import Derived.Test.YtenibcfppefobaaGreatDoorZ1
import Derived.Test.YtenibcfppefobaaGreatDoorZ2
import Derived.Test.YtenibcfppefobaaGreatDoorZ3
import Derived.Test.YtenibcfppefobaaGreatDoorZ4
set_option linter.all false
noncomputable section
namespace Go.Proofs.YtenibcfppefobaaGreatDoor.inferOrder
open Go Go.ChangeShapes
theorem card:Rows.InferOrderCardSaid :=
 Claim7.holds_tied_plain_at .later [] _ _ _ _ Ux (fun _ h=>by cases h) c1 (fun _ h=>by cases h) inferOrder_row_tie rfl ⟨rfl,rfl⟩ c2 rfl plain c3
end Go.Proofs.YtenibcfppefobaaGreatDoor.inferOrder
