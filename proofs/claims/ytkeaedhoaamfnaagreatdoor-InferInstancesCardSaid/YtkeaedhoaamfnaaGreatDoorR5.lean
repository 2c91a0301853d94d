/- From the row to the evaluator: part 5. No conditions beyond those of the row. -/
import Derived.Test.YtkeaedhoaamfnaaGreatDoorR2
import Derived.Test.YtkeaedhoaamfnaaGreatDoorR3
import Derived.Test.YtkeaedhoaamfnaaGreatDoorR4
set_option linter.unusedVariables false
set_option linter.unusedSimpArgs false
noncomputable section
namespace Go.Proofs.YtkeaedhoaamfnaaGreatDoor.inferInstances
open Go.ChangeShapes Go.WideShapes Go.ChangeAt Go.RowKit
open Go.AI
theorem gh {a b : Bool} (ha : a = true) (hb : b = true) : (a && b) = true := by rw [ha, hb]; rfl
set_option maxRecDepth 100000 in
theorem Rn : joinedFacts Tryz.prog 6 Tryz.f6 (OpenSpec.ofChange Rows.inferInstancesSpec).bare Rows.inferInstancesRow = true := gh (gh (gh (gh (gh (gh (gh (gh (gh (gh (gh (gh (gh (gh (gh (gh (gh (gh (gh (gh (gh (gh (gh (gh (gh (gh (gh (gh (gh (gh (gh Sz Sy) Sx) Sw) Sv) Su) Ss) Sr) Sq) Sp) Rg) Rf) Re) Rd) Rc) Rb) Ra) QZ) QY) QX) QW) QV) QU) QR) QQ) QP) QO) QM) QL) QJ) QH) QG
theorem Tb : Rows.InferInstancesSaid :=
 OpenClaim.holds_of_cond 6 Tryz.f6 rfl rfl rfl rfl rfl rfl rfl ⟨rfl, rfl, rfl, rfl, rfl⟩ rfl rfl rfl rfl rfl (by kernel_rfl) Tryz.func6 Rn
  (of_decide_eq_true (by kernel_rfl)) (by unfold Func.isWrapper; first | (rw [if_pos (by decide +kernel)]; kernel_rfl) | (rw [if_neg (by decide +kernel)]; exact ⟨rfl, rfl⟩))
  (fun os started H enc _ F => by rw [OpenClaim.pre_eq_preRow]; exact lifted os started H enc F)
end Go.Proofs.YtkeaedhoaamfnaaGreatDoor.inferInstances
