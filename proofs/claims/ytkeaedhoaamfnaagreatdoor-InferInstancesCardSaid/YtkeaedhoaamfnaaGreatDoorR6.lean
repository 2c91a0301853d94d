/- From the row to the evaluator: part 6. No conditions beyond those of the row. -/
import Derived.Test.YtkeaedhoaamfnaaGreatDoorR5
set_option linter.unusedVariables false
set_option linter.unusedSimpArgs false
noncomputable section
namespace Go.Proofs.YtkeaedhoaamfnaaGreatDoor.inferInstances
open Go.ChangeShapes Go.WideShapes Go.ChangeAt Go.RowKit
open Go.AI
theorem plain (f : FuncId) (fn : Func) (hf : Tryz.pinned.checked.prog.funcNamed Rows.inferInstancesRow.func = some f) (hfn : Tryz.pinned.checked.prog.funcs[f]? = some fn) :
 true = Tryz.pinned.checked.prog.looks [] ∧ ∀ (j : Nat) t, fn.params[j]? = some t → Tryz.pinned.checked.prog.wantsStandIn t = false := by
 obtain rfl : f = 6 := Option.some.inj ((show Tryz.prog.funcNamed Rows.inferInstancesRow.func = some 6 by kernel_rfl).symm.trans hf) |>.symm
 obtain rfl : fn = Tryz.f6 := (Option.some.inj (Tryz.func6.symm.trans hfn)).symm
 refine ⟨by kernel_rfl, fun j t ht => ?_⟩
 rw [Tryz.params6] at ht
 have hm : t ∈ [27, 27, 27] := by simpa using Array.mem_of_getElem? ht
 have hall : ([27, 27, 27].all fun u => !Tryz.prog.wantsStandIn u) = true := by kernel_rfl
 exact (show Tryz.prog.wantsStandIn t = false by simpa using List.all_eq_true.1 hall t hm)
theorem card : Rows.InferInstancesCardSaid :=
 Claim7.holds_tied_plain_at .later [] _ _ _ _ Tb (fun _ h => by cases h) (by kernel_rfl) (fun _ h => by cases h) inferInstances_row_tie rfl ⟨rfl, rfl⟩ (by kernel_rfl) rfl plain (by kernel_rfl)
end Go.Proofs.YtkeaedhoaamfnaaGreatDoor.inferInstances
