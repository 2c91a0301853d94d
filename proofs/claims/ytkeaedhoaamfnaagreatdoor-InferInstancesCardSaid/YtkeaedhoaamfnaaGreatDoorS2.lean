/- The fixed examples with which the law begins come out true: part 2. No conditions beyond those of the row. -/
import Derived.Test.YtkeaedhoaamfnaaGreatDoorS1
set_option linter.unusedVariables false
set_option linter.unusedSimpArgs false
noncomputable section
namespace Go.Proofs.YtkeaedhoaamfnaaGreatDoor
open Go.AI
def rK : kc := { f := 30, args := [.agg [.str [45, 62], .slice ⟨5, 0, 0⟩ 0 2 (some 2) 2], .agg [.str [45, 62], .slice ⟨11, 0, 0⟩ 0 2 (some 2) 2]], a := ⟨(n4 (n4 (n4 (n3 (cB 25 [.str [39, 97], nS])) (cB 25 [.str [39, 98], nS]) (n3 (cB 25 [.str [73, 110, 116], nS, .str [39, 97], nS]))) (cB 25 [.str [39, 98], nS]) (n4 (n3 (cB 25 [.str [39, 97], nS])) (cB 25 [.str [39, 97], nS, .str [39, 98], nS]) lf)) (cB 25 [.str [39, 97], nS]) (n4 (n4 (n3 (cB 25 [.str [73, 110, 116], nS])) (cB 25 [.str [45, 62], .slice ⟨5, 0, 0⟩ 0 2 (some 2) 2]) lf) (cB 25 [.str [39, 97], nS]) (n4 (n3 (cB 25 [.str [45, 62], .slice ⟨11, 0, 0⟩ 0 2 (some 2) 2])) (cB 25 [.str [73, 110, 116], nS]) lf))), 12⟩, v := .tuple [.slice ⟨60, 1, 0⟩ 0 2 none 3, .int .i64 0], b := ⟨(n4 (n4 (n4 (n3 (cB 25 [.str [39, 97], nS])) (cB 25 [.str [39, 98], nS]) (n3 (cB 25 [.str [73, 110, 116], nS, .str [39, 97], nS]))) (cB 25 [.str [39, 98], nS]) (n4 (n3 (cB 25 [.str [39, 97], nS])) (cB 25 [.str [39, 97], nS, .str [39, 98], nS]) lf)) (cB 25 [.str [39, 97], nS]) (n4 (n4 (n3 (cB 25 [.str [73, 110, 116], nS])) (cB 25 [.str [45, 62], .slice ⟨5, 0, 0⟩ 0 2 (some 2) 2]) (n2 (n2 (n3 (.cells 56 false 2 [⟨1, 0, [.str [39, 97], .str [73, 110, 116], nS, .str [39, 98], .str [73, 110, 116], nS]⟩, ⟨0, 0, [.str [39, 97], .str [73, 110, 116], nS]⟩]))))) (cB 25 [.str [39, 97], nS]) (n4 (n3 (cB 25 [.str [45, 62], .slice ⟨11, 0, 0⟩ 0 2 (some 2) 2])) (cB 25 [.str [73, 110, 116], nS]) lf))), 66⟩ }
theorem Tm : jK mi 32000 rK.f rK.args rK.a rK.v rK.b = true := by kernel_rfl
end Go.Proofs.YtkeaedhoaamfnaaGreatDoor
