/- Closed facts of the row: part 3. No conditions beyond those of the row. -/
import Derived.Test.YtenibcfppefobaaGreatDoorA6
import Derived.Test.YtenibcfppefobaaGreatDoorR1
import Derived.Test.YtenibcfppefobaaGreatDoorR2
set_option linter.all false
noncomputable section
namespace Go.Proofs.YtenibcfppefobaaGreatDoor.inferSolves
open Go.ChangeShapes Go.WideShapes Go.ChangeAt Go.RowKit
open Go.AI
theorem fT{a b:Bool}(ha:a=true)(hb:b=true):(a&&b)=true:=by rw[ha,hb];rfl
set_option maxRecDepth 100000 in
theorem Uz:joinedFacts Tryz.prog 5 Tryz.f5 (OpenSpec.ofChange Rows.inferSolvesSpec).bare Rows.inferSolvesRow=true:=fT (fT (fT (fT (fT (fT (fT (fT (fT (fT (fT (fT (fT (fT (fT (fT (fT (fT (fT (fT (fT (fT (fT (fT (fT (fT (fT (fT (fT (fT (fT Wq Wp) Wo) Wn) Wm) Wl) Wk) Wj) Wi) Wh) Ul) Uk) Uj) Ui) Uh) Ug) Uf) Ue) Ud) Uc) Ub) Ua) TZ) TY) TX) TW) TV) TU) TT) TS) TQ) TP
theorem Xf:Rows.InferSolvesSaid :=
 OpenClaim.holds_of_cond 5 Tryz.f5 rfl rfl rfl rfl rfl rfl rfl ⟨rfl,rfl,rfl,rfl,rfl⟩ rfl rfl rfl rfl rfl (by kernel_rfl) Tryz.func5 Uz
  (of_decide_eq_true (by kernel_rfl)) (by unfold Func.isWrapper;first|(rw[if_pos (by decide +kernel)];kernel_rfl)|(rw[if_neg (by decide +kernel)];exact⟨rfl,rfl⟩))
  (fun os started H enc _ F=>by rw[OpenClaim.pre_eq_preRow];exact lifted os started H enc F)
end Go.Proofs.YtenibcfppefobaaGreatDoor.inferSolves
