/- The fixed examples with which the law begins come out true: part 11. No conditions beyond those of the row. -/
import Derived.Test.YtkeaedhoaamfnaaGreatDoorS2
import Derived.Test.YtkeaedhoaamfnaaGreatDoorS3
import Derived.Test.YtkeaedhoaamfnaaGreatDoorS4
import Derived.Test.YtkeaedhoaamfnaaGreatDoorS5
import Derived.Test.YtkeaedhoaamfnaaGreatDoorS6
import Derived.Test.YtkeaedhoaamfnaaGreatDoorS7
import Derived.Test.YtkeaedhoaamfnaaGreatDoorS8
import Derived.Test.YtkeaedhoaamfnaaGreatDoorS9
import Derived.Test.YtkeaedhoaamfnaaGreatDoorS10
set_option linter.unusedVariables false
set_option linter.unusedSimpArgs false
noncomputable section
namespace Go.Proofs.YtkeaedhoaamfnaaGreatDoor
open Go.AI
def LC : List kc := [rK, rJ, rI, rH, rG, rF, rE, rD, rC]
def Oi : cg := { P := Tryz.prog, ext := kV.ext, orc := fun f args s => match il 69 kinds f args s with | some x => some x | none => tK LC f args s }
theorem To : qX Oi := by
 refine ⟨fun f args s v s' h => ?_⟩
 simp only [Oi] at h
 split at h
 ·rename_i x hx
  cases h
  exact wZ.call f args s v s' hx
 ·obtain ⟨k, hm, rfl, rfl, hs, rfl, rfl⟩ := qt h
  simp only [LC, List.mem_cons, List.mem_nil_iff, or_false] at hm
  rcases hm with rfl | rfl | rfl | rfl | rfl | rfl | rfl | rfl | rfl
  ·exact dF (E := mi) (dB rfl rfl) wZ (bO rfl rfl) Tm hs
  ·exact dF (E := mi) (dB rfl rfl) wZ (bO rfl rfl) Tk hs
  ·exact dF (E := mi) (dB rfl rfl) wZ (bO rfl rfl) Tj hs
  ·exact dF (E := mi) (dB rfl rfl) wZ (bO rfl rfl) Ti hs
  ·exact dF (E := mi) (dB rfl rfl) wZ (bO rfl rfl) Th hs
  ·exact dF (E := mi) (dB rfl rfl) wZ (bO rfl rfl) Tg hs
  ·exact dF (E := mi) (dB rfl rfl) wZ (bO rfl rfl) Tf hs
  ·exact dF (E := mi) (dB rfl rfl) wZ (bO rfl rfl) Te hs
  ·exact dF (E := mi) (dB rfl rfl) wZ (bO rfl rfl) Tc hs
theorem KH : fM Oi 4000 7 [] (.bool true) = true := by kernel_rfl
theorem EM (s : S) : fN Tryz.prog 7 [] none s ⟨.returned (.bool true), none, s⟩ := bL (E := Oi) (dB rfl rfl) To (bO rfl rfl) KH rfl rfl s
end Go.Proofs.YtkeaedhoaamfnaaGreatDoor
