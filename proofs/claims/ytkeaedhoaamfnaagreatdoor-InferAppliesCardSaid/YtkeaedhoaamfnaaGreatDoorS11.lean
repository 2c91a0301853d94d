/- The fixed examples with which the law begins come out true: part 11. No conditions beyond those of the row. -/
import Derived.Test.YtkeaedhoaamfnaaGreatDoorS2
import Derived.Test.YtkeaedhoaamfnaaGreatDoorS3
import Derived.Test.YtkeaedhoaamfnaaGreatDoorS4
import Derived.Test.YtkeaedhoaamfnaaGreatDoorS5
import Derived.Test.YtkeaedhoaamfnaaGreatDoorS6
import Derived.Test.YtkeaedhoaamfnaaGreatDoorS7
import Derived.Test.YtkeaedhoaamfnaaGreatDoorS8
import Derived.Test.YtkeaedhoaamfnaaGreatDoorS9
import Derived.Test.YtkeaedhoaamfnaaGreatDoorS10
set_option linter.unusedVariables false
set_option linter.unusedSimpArgs false
noncomputable section
/- The fixed examples come out true, in every world, on every tape. -/
namespace Go.Proofs.YtkeaedhoaamfnaaGreatDoor
open Go.AI
noncomputable def knowns : List Known := [known0, known1, known2, known3, known4, known5, known6, known7, known8]
noncomputable def env3 : Env := { P := Tryz.prog, ext := env1.ext, orc := fun f args s => match knownText 69 kinds f args s with | some x => some x | none => knownIn knowns f args s }
theorem orc3 : OrcOk env3 := by
  refine ⟨fun f args s v s' h => ?_⟩
  simp only [env3] at h
  split at h
  · rename_i x hx
    cases h
    exact orc2.call f args s v s' hx
  · obtain ⟨k, hm, rfl, rfl, hs, rfl, rfl⟩ := knownIn_spec h
    simp only [knowns, List.mem_cons, List.mem_nil_iff, or_false] at hm
    rcases hm with rfl | rfl | rfl | rfl | rfl | rfl | rfl | rfl | rfl
    · exact okCall_sound (E := env2) (env_ok rfl rfl) orc2 (drawn_ok rfl rfl) run0 hs
    · exact okCall_sound (E := env2) (env_ok rfl rfl) orc2 (drawn_ok rfl rfl) run1 hs
    · exact okCall_sound (E := env2) (env_ok rfl rfl) orc2 (drawn_ok rfl rfl) run2 hs
    · exact okCall_sound (E := env2) (env_ok rfl rfl) orc2 (drawn_ok rfl rfl) run3 hs
    · exact okCall_sound (E := env2) (env_ok rfl rfl) orc2 (drawn_ok rfl rfl) run4 hs
    · exact okCall_sound (E := env2) (env_ok rfl rfl) orc2 (drawn_ok rfl rfl) run5 hs
    · exact okCall_sound (E := env2) (env_ok rfl rfl) orc2 (drawn_ok rfl rfl) run6 hs
    · exact okCall_sound (E := env2) (env_ok rfl rfl) orc2 (drawn_ok rfl rfl) run7 hs
    · exact okCall_sound (E := env2) (env_ok rfl rfl) orc2 (drawn_ok rfl rfl) run8 hs
theorem run_sane : okPure env3 4000 7 [] (.bool true) = true := by kernel_rfl
theorem sane_sound (s : S) : SoundC Tryz.prog 7 [] none s ⟨.returned (.bool true), none, s⟩ := okPure_sound (E := env3) (env_ok rfl rfl) orc3 (drawn_ok rfl rfl) run_sane rfl rfl s
end Go.Proofs.YtkeaedhoaamfnaaGreatDoor
