/- Lemmas. No conditions. -/
import Derived.Test.YtpghiabjaglpgaaGreatDoorA6
import Derived.Test.YtpghiabjaglpgaaGreatDoorR1
import Derived.Test.YtpghiabjaglpgaaGreatDoorR2
set_option linter.all false
noncomputable section
namespace Go.Proofs.YtpghiabjaglpgaaGreatDoor.stepLives
open Go.ChangeShapes Go.WideShapes Go.ChangeAt Go.RowKit
open Go.AI
theorem gO{a b:Bool}(c:a=true)(hb:b=true):(a&&b)=true:=by rw[c,hb];rfl
set_option maxRecDepth 100000 in
theorem afx:joinedFacts Tryz.prog 8 Tryz.f8 (Rows.OpenSpec.upto Rows.stepLivesSpec).bare Rows.stepLivesUptoRow=true:=gO (gO (gO (gO (gO (gO (gO (gO (gO (gO (gO (gO (gO (gO (gO (gO (gO (gO (gO (gO (gO (gO (gO (gO (gO (gO (gO (gO (gO (gO (gO aiQ aiP) aiO) aiN) aiM) aiL) aiK) aiJ) aiI) aiH) aeX) aeW) aeV) aeU) aeT) aeS) aeR) aeQ) aeP) aeO) aeN) aeM) aeL) aeK) aeJ) aeI) aeH) aeG) aeF) aeE) aeD) aeC
theorem ajV:Rows.StepLivesUptoSaid :=
 OpenClaim.holds_of_cond 8 Tryz.f8 rfl rfl rfl rfl rfl rfl rfl ⟨rfl,rfl,rfl,rfl,rfl⟩ rfl rfl rfl rfl rfl (by kernel_rfl) Tryz.func8 afx
  (akM (by kernel_rfl)) (by unfold Func.isWrapper;first|(rw[akJ (by decide +kernel)];kernel_rfl)|(rw[ajD (by decide +kernel)];exact⟨rfl,rfl⟩))
  (λos started H enc _ F=>by rw[OpenClaim.pre_eq_preRow];exact lifted os started H enc F)
