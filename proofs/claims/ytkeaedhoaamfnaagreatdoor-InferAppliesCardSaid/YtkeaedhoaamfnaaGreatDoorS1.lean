/- The fixed examples with which the law begins come out true: part 1. No conditions beyond those of the row. -/
import Derived.Test.YtkeaedhoaamfnaaGreatDoorA8
import Derived.Test.YtkeaedhoaamfnaaGreatDoorChecked
import Derived.KernelRfl
set_option linter.unusedVariables false
set_option linter.unusedSimpArgs false
noncomputable section
/- The fixed examples with which the law begins come out true, in every world, on every tape: their calls, by the kernel. -/
namespace Go.Proofs.YtkeaedhoaamfnaaGreatDoor
open Go.AI
noncomputable def env1 : Env := { P := Tryz.prog, ext := fun f => bif Nat.beq f 290 then some .indexByte else bif Nat.beq f 311 then some .count else none, orc := fun _ _ _ => none }
noncomputable def kinds : List (List Nat × V) := [([39, 97], .int .i64 4), ([39, 98], .int .i64 4), ([39, 99], .int .i64 4), ([39, 120], .int .i64 4), ([73, 110, 116], .int .i64 3), ([66, 111, 111, 108], .int .i64 3), ([76, 105, 115, 116], .int .i64 3), ([45, 62], .int .i64 6), ([105, 100], .int .i64 2), ([120], .int .i64 2), ([102], .int .i64 2), ([111], .int .i64 2)]
noncomputable def env2 : Env := { P := Tryz.prog, ext := env1.ext, orc := knownText 69 kinds }
theorem mixed : Tryz.prog.follows .mixedOrders = true := by kernel_rfl
theorem ext_ib : (Tryz.f290.name == "runtime.NumGoroutine") = false ∧ Extern.findNext Tryz.f290 = none ∧ Extern.find Tryz.f290 = some ExtK.indexByte.entry := ⟨by kernel_rfl, by kernel_rfl, by kernel_rfl⟩
theorem ext_cb : (Tryz.f311.name == "runtime.NumGoroutine") = false ∧ Extern.findNext Tryz.f311 = none ∧ Extern.find Tryz.f311 = some ExtK.count.entry := ⟨by kernel_rfl, by kernel_rfl, by kernel_rfl⟩
theorem env_ok {E : Env} (hP : E.P = Tryz.prog) (hx : E.ext = env1.ext) : EnvOk E := by
  refine ⟨fun f k fn h hf _ => ?_⟩
  rw [hx] at h
  rw [hP] at hf
  simp only [env1] at h
  cases h1 : Nat.beq f 290 with
  | true =>
    rw [h1] at h; cases h
    have := Nat.eq_of_beq_eq_true h1; subst this
    rw [Tryz.func290] at hf; cases hf
    exact ext_ib
  | false =>
    rw [h1] at h
    cases h2 : Nat.beq f 311 with
    | true =>
      rw [h2] at h; cases h
      have := Nat.eq_of_beq_eq_true h2; subst this
      rw [Tryz.func311] at hf; cases hf
      exact ext_cb
    | false => rw [h2] at h; cases h
theorem drawn_ok {E : Env} (hP : E.P = Tryz.prog) (hx : E.ext = env1.ext) : DrawnSound E := drawn_sound (env_ok hP hx) (by rw [hP]; exact mixed)
theorem orc1 : OrcOk env1 := ⟨fun _ _ _ _ _ h => by cases h⟩
theorem kind0 : okPure env1 4000 69 [.str [39, 97]] (.int .i64 4) = true := by kernel_rfl
theorem kind1 : okPure env1 4000 69 [.str [39, 98]] (.int .i64 4) = true := by kernel_rfl
theorem kind2 : okPure env1 4000 69 [.str [39, 99]] (.int .i64 4) = true := by kernel_rfl
theorem kind3 : okPure env1 4000 69 [.str [39, 120]] (.int .i64 4) = true := by kernel_rfl
theorem kind4 : okPure env1 4000 69 [.str [73, 110, 116]] (.int .i64 3) = true := by kernel_rfl
theorem kind5 : okPure env1 4000 69 [.str [66, 111, 111, 108]] (.int .i64 3) = true := by kernel_rfl
theorem kind6 : okPure env1 4000 69 [.str [76, 105, 115, 116]] (.int .i64 3) = true := by kernel_rfl
theorem kind7 : okPure env1 4000 69 [.str [45, 62]] (.int .i64 6) = true := by kernel_rfl
theorem kind8 : okPure env1 4000 69 [.str [105, 100]] (.int .i64 2) = true := by kernel_rfl
theorem kind9 : okPure env1 4000 69 [.str [120]] (.int .i64 2) = true := by kernel_rfl
theorem kind10 : okPure env1 4000 69 [.str [102]] (.int .i64 2) = true := by kernel_rfl
theorem kind11 : okPure env1 4000 69 [.str [111]] (.int .i64 2) = true := by kernel_rfl
theorem orc2 : OrcOk env2 := by
  refine ⟨fun f args s v s' h => ?_⟩
  obtain ⟨rfl, x, rfl, hm, rfl⟩ := knownText_spec h
  simp only [kinds, List.mem_cons, List.mem_nil_iff, or_false, Prod.mk.injEq] at hm
  rcases hm with ⟨rfl, rfl⟩ | ⟨rfl, rfl⟩ | ⟨rfl, rfl⟩ | ⟨rfl, rfl⟩ | ⟨rfl, rfl⟩ | ⟨rfl, rfl⟩ | ⟨rfl, rfl⟩ | ⟨rfl, rfl⟩ | ⟨rfl, rfl⟩ | ⟨rfl, rfl⟩ | ⟨rfl, rfl⟩ | ⟨rfl, rfl⟩
  · exact okPure_sound (env_ok rfl rfl) orc1 (drawn_ok rfl rfl) kind0 rfl rfl _
  · exact okPure_sound (env_ok rfl rfl) orc1 (drawn_ok rfl rfl) kind1 rfl rfl _
  · exact okPure_sound (env_ok rfl rfl) orc1 (drawn_ok rfl rfl) kind2 rfl rfl _
  · exact okPure_sound (env_ok rfl rfl) orc1 (drawn_ok rfl rfl) kind3 rfl rfl _
  · exact okPure_sound (env_ok rfl rfl) orc1 (drawn_ok rfl rfl) kind4 rfl rfl _
  · exact okPure_sound (env_ok rfl rfl) orc1 (drawn_ok rfl rfl) kind5 rfl rfl _
  · exact okPure_sound (env_ok rfl rfl) orc1 (drawn_ok rfl rfl) kind6 rfl rfl _
  · exact okPure_sound (env_ok rfl rfl) orc1 (drawn_ok rfl rfl) kind7 rfl rfl _
  · exact okPure_sound (env_ok rfl rfl) orc1 (drawn_ok rfl rfl) kind8 rfl rfl _
  · exact okPure_sound (env_ok rfl rfl) orc1 (drawn_ok rfl rfl) kind9 rfl rfl _
  · exact okPure_sound (env_ok rfl rfl) orc1 (drawn_ok rfl rfl) kind10 rfl rfl _
  · exact okPure_sound (env_ok rfl rfl) orc1 (drawn_ok rfl rfl) kind11 rfl rfl _
end Go.Proofs.YtkeaedhoaamfnaaGreatDoor
