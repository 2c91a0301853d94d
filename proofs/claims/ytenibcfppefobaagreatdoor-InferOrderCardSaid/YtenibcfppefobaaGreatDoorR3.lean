/- Closed facts of the row: part 3. No conditions beyond those of the row. -/
import Derived.Test.YtenibcfppefobaaGreatDoorA6
import Derived.Test.YtenibcfppefobaaGreatDoorR1
import Derived.Test.YtenibcfppefobaaGreatDoorR2
set_option linter.all false
noncomputable section
namespace Go.Proofs.YtenibcfppefobaaGreatDoor.inferOrder
open Go.ChangeShapes Go.WideShapes Go.ChangeAt Go.RowKit
open Go.AI
theorem fH{a b:Bool}(ha:a=true)(hb:b=true):(a&&b)=true:=by rw[ha,hb];rfl
set_option maxRecDepth 100000 in
theorem So:joinedFacts Tryz.prog 4 Tryz.f4 (OpenSpec.ofChange Rows.inferOrderSpec).bare Rows.inferOrderRow=true:=fH (fH (fH (fH (fH (fH (fH (fH (fH (fH (fH (fH (fH (fH (fH (fH (fH (fH (fH (fH (fH (fH (fH (fH (fH (fH (fH (fH (fH (fH (fH TU TT) TS) TQ) TP) TO) TN) TM) TL) TK) Sc) Sb) Sa) RZ) RY) RX) RW) RV) RU) RT) RQ) RP) RO) RN) RM) RJ) RI) RH) RG) RF) RE) RC
theorem Ux:Rows.InferOrderSaid :=
 OpenClaim.holds_of_cond 4 Tryz.f4 rfl rfl rfl rfl rfl rfl rfl ⟨rfl,rfl,rfl,rfl,rfl⟩ rfl rfl rfl rfl rfl (by kernel_rfl) Tryz.func4 So
  (of_decide_eq_true (by kernel_rfl)) (by unfold Func.isWrapper;first|(rw[if_pos (by decide +kernel)];kernel_rfl)|(rw[if_neg (by decide +kernel)];exact⟨rfl,rfl⟩))
  (fun os started H enc _ F=>by rw[OpenClaim.pre_eq_preRow];exact lifted os started H enc F)
end Go.Proofs.YtenibcfppefobaaGreatDoor.inferOrder
