/- From the row to the evaluator: part 3. No conditions beyond those of the row. -/
import Derived.Test.YtpghiabjaglpgaaGreatDoorE6
import Derived.Test.YtpghiabjaglpgaaGreatDoorR1
import Derived.Test.YtpghiabjaglpgaaGreatDoorR2
set_option linter.all false
noncomputable section
namespace Go.Proofs.YtpghiabjaglpgaaGreatDoor.stepNumbers
open Go.ChangeShapes Go.WideShapes Go.ChangeAt Go.RowKit
open Go.AI
theorem fA{a b:Bool}(ha:a=true)(hb:b=true):(a&&b)=true:=by rw[ha,hb];rfl
set_option maxRecDepth 100000 in
theorem Vh:joinedFacts Tryz.prog 3 Tryz.f3 (Rows.OpenSpec.upto Rows.stepNumbersSpec).bare Rows.stepNumbersUptoRow=true:=fA (fA (fA (fA (fA (fA (fA (fA (fA (fA (fA (fA (fA (fA (fA (fA (fA (fA (fA (fA (fA (fA (fA (fA (fA (fA (fA (fA (fA (fA (fA Xl Xk) Xj) Xi) Xh) Xg) Xf) Xe) Xd) Xc) UM) UL) UK) UJ) UI) UH) UG) UF) UE) UD) UC) UB) UA) Uz) Uy) Ux) Uw) Uv) Uu) Ut) Us) Ur
theorem XZ:Rows.StepNumbersUptoSaid :=
 OpenClaim.holds_of_cond 3 Tryz.f3 rfl rfl rfl rfl rfl rfl rfl ⟨rfl,rfl,rfl,rfl,rfl⟩ rfl rfl rfl rfl rfl (by kernel_rfl) Tryz.func3 Vh
  (of_decide_eq_true (by kernel_rfl)) (by unfold Func.isWrapper;first|(rw[if_pos (by decide +kernel)];kernel_rfl)|(rw[if_neg (by decide +kernel)];exact⟨rfl,rfl⟩))
  (fun os started H enc _ F=>by rw[OpenClaim.pre_eq_preRow];exact lifted os started H enc F)
end Go.Proofs.YtpghiabjaglpgaaGreatDoor.stepNumbers
