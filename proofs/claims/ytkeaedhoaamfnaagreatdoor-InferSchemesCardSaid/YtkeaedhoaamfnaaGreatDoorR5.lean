/- From the row to the evaluator: part 5. No conditions beyond those of the row. -/
import Derived.Test.YtkeaedhoaamfnaaGreatDoorR2
import Derived.Test.YtkeaedhoaamfnaaGreatDoorR3
import Derived.Test.YtkeaedhoaamfnaaGreatDoorR4
set_option linter.unusedVariables false
set_option linter.unusedSimpArgs false
noncomputable section
namespace Go.Proofs.YtkeaedhoaamfnaaGreatDoor.inferSchemes
open Go.ChangeShapes Go.WideShapes Go.ChangeAt Go.RowKit
open Go.AI
theorem gM {a b : Bool} (ha : a = true) (hb : b = true) : (a && b) = true := by rw [ha, hb]; rfl
set_option maxRecDepth 100000 in
theorem Vf : joinedFacts Tryz.prog 5 Tryz.f5 (OpenSpec.ofChange Rows.inferSchemesSpec).bare Rows.inferSchemesRow = true := gM (gM (gM (gM (gM (gM (gM (gM (gM (gM (gM (gM (gM (gM (gM (gM (gM (gM (gM (gM (gM (gM (gM (gM (gM (gM (gM (gM (gM (gM (gM Wv Wu) Ws) Wr) Wq) Wo) Wn) Wm) Wl) Wk) UX) UW) US) UQ) UP) UN) UL) UK) UJ) UI) UH) UG) UF) UE) UD) UC) UB) UA) Uz) Uy) Ux) Uw
theorem Xc : Rows.InferSchemesSaid :=
 OpenClaim.holds_of_cond 5 Tryz.f5 rfl rfl rfl rfl rfl rfl rfl ⟨rfl, rfl, rfl, rfl, rfl⟩ rfl rfl rfl rfl rfl (by kernel_rfl) Tryz.func5 Vf
  (of_decide_eq_true (by kernel_rfl)) (by unfold Func.isWrapper; first | (rw [if_pos (by decide +kernel)]; kernel_rfl) | (rw [if_neg (by decide +kernel)]; exact ⟨rfl, rfl⟩))
  (fun os started H enc _ F => by rw [OpenClaim.pre_eq_preRow]; exact lifted os started H enc F)
end Go.Proofs.YtkeaedhoaamfnaaGreatDoor.inferSchemes
