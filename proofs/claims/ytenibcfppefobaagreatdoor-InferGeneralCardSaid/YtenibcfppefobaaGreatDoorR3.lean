/- Closed facts of the row: part 3. No conditions beyond those of the row. -/
import Derived.Test.YtenibcfppefobaaGreatDoorA6
import Derived.Test.YtenibcfppefobaaGreatDoorR1
import Derived.Test.YtenibcfppefobaaGreatDoorR2
set_option linter.all false
noncomputable section
namespace Go.Proofs.YtenibcfppefobaaGreatDoor.inferGeneral
open Go.ChangeShapes Go.WideShapes Go.ChangeAt Go.RowKit
open Go.AI
theorem fD{a b:Bool}(ha:a=true)(hb:b=true):(a&&b)=true:=by rw[ha,hb];rfl
set_option maxRecDepth 100000 in
theorem Qs:joinedFacts Tryz.prog 3 Tryz.f3 (OpenSpec.ofChange Rows.inferGeneralSpec).bare Rows.inferGeneralRow=true:=fD (fD (fD (fD (fD (fD (fD (fD (fD (fD (fD (fD (fD (fD (fD (fD (fD (fD (fD (fD (fD (fD (fD (fD (fD (fD (fD (fD (fD (fD (fD RZ RY) RX) RW) RV) RU) RT) RQ) RP) RO) Qf) Qe) Qd) Qc) Qb) Qa) PZ) PY) PX) PW) PV) PU) PT) PS) PR) PQ) PP) PO) PN) PM) PL) PK
theorem SB:Rows.InferGeneralSaid :=
 OpenClaim.holds_of_cond 3 Tryz.f3 rfl rfl rfl rfl rfl rfl rfl ⟨rfl,rfl,rfl,rfl,rfl⟩ rfl rfl rfl rfl rfl (by kernel_rfl) Tryz.func3 Qs
  (of_decide_eq_true (by kernel_rfl)) (by unfold Func.isWrapper;first|(rw[if_pos (by decide +kernel)];kernel_rfl)|(rw[if_neg (by decide +kernel)];exact⟨rfl,rfl⟩))
  (fun os started H enc _ F=>by rw[OpenClaim.pre_eq_preRow];exact lifted os started H enc F)
end Go.Proofs.YtenibcfppefobaaGreatDoor.inferGeneral
