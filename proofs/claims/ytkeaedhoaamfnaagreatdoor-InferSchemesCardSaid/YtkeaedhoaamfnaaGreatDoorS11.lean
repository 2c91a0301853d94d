/- The fixed examples with which the law begins come out true: part 11. No conditions beyond those of the row. -/
import Derived.Test.YtkeaedhoaamfnaaGreatDoorS2
import Derived.Test.YtkeaedhoaamfnaaGreatDoorS3
import Derived.Test.YtkeaedhoaamfnaaGreatDoorS4
import Derived.Test.YtkeaedhoaamfnaaGreatDoorS5
import Derived.Test.YtkeaedhoaamfnaaGreatDoorS6
import Derived.Test.YtkeaedhoaamfnaaGreatDoorS7
import Derived.Test.YtkeaedhoaamfnaaGreatDoorS8
import Derived.Test.YtkeaedhoaamfnaaGreatDoorS9
import Derived.Test.YtkeaedhoaamfnaaGreatDoorS10
set_option linter.unusedVariables false
set_option linter.unusedSimpArgs false
noncomputable section
namespace Go.Proofs.YtkeaedhoaamfnaaGreatDoor
open Go.AI
def Pw : List kA := [tg, tf, td, tc, sZ, sY, sX, sW, sV]
def RZ : cx := { P := Tryz.prog, ext := lA.ext, orc := fun f args s => match iL 69 kinds f args s with | some x => some x | none => vw Pw f args s }
theorem Xn : sn RZ := by
 refine ⟨fun f args s v s' h => ?_⟩
 simp only [RZ] at h
 split at h
 ·rename_i x hx
  cases h
  exact yP.call f args s v s' hx
 ·obtain ⟨k, hm, rfl, rfl, hs, rfl, rfl⟩ := rz h
  simp only [Pw, List.mem_cons, List.mem_nil_iff, or_false] at hm
  rcases hm with rfl | rfl | rfl | rfl | rfl | rfl | rfl | rfl | rfl
  ·exact dU (E := mW) (dO rfl rfl) yP (bY rfl rfl) Xl hs
  ·exact dU (E := mW) (dO rfl rfl) yP (bY rfl rfl) Xk hs
  ·exact dU (E := mW) (dO rfl rfl) yP (bY rfl rfl) Xj hs
  ·exact dU (E := mW) (dO rfl rfl) yP (bY rfl rfl) Xi hs
  ·exact dU (E := mW) (dO rfl rfl) yP (bY rfl rfl) Xh hs
  ·exact dU (E := mW) (dO rfl rfl) yP (bY rfl rfl) Xg hs
  ·exact dU (E := mW) (dO rfl rfl) yP (bY rfl rfl) Xf hs
  ·exact dU (E := mW) (dO rfl rfl) yP (bY rfl rfl) Xe hs
  ·exact dU (E := mW) (dO rfl rfl) yP (bY rfl rfl) Xd hs
theorem OG : gg RZ 4000 7 [] (.bool true) = true := by kernel_rfl
theorem Id (s : S) : gk Tryz.prog 7 [] none s ⟨.returned (.bool true), none, s⟩ := bW (E := RZ) (dO rfl rfl) Xn (bY rfl rfl) OG rfl rfl s
end Go.Proofs.YtkeaedhoaamfnaaGreatDoor
