/- The fixed examples: what is known of one function beforehand. No conditions. -/
import Derived.Test.YthedakdjiljmhaaGreatDoorA12
import Derived.Test.YthedakdjiljmhaaGreatDoorChecked
import Derived.KernelRfl
set_option linter.unusedVariables false
set_option linter.unusedSimpArgs false
noncomputable section
/- The fixed examples with which the law begins come out true, in every world, on every tape: their calls, by the kernel. -/
namespace Go.Proofs.YthedakdjiljmhaaGreatDoor
open Go.AI

noncomputable def env1 : Env := { P := Tryz.prog, ext := fun f => bif Nat.beq f 253 then some .indexByte else bif Nat.beq f 270 then some .count else none, orc := fun _ _ _ => none }
noncomputable def kinds : List (List Nat × V) := [([102], .int .i64 2), ([111], .int .i64 2), ([120], .int .i64 2)]
noncomputable def env2 : Env := { P := Tryz.prog, ext := env1.ext, orc := knownText 139 kinds }

theorem mixed : Tryz.prog.follows .mixedOrders = true := by kernel_rfl
theorem ext_ib : (Tryz.f253.name == "runtime.NumGoroutine") = false ∧ Extern.findNext Tryz.f253 = none ∧ Extern.find Tryz.f253 = some ExtK.indexByte.entry := ⟨by kernel_rfl, by kernel_rfl, by kernel_rfl⟩
theorem ext_cb : (Tryz.f270.name == "runtime.NumGoroutine") = false ∧ Extern.findNext Tryz.f270 = none ∧ Extern.find Tryz.f270 = some ExtK.count.entry := ⟨by kernel_rfl, by kernel_rfl, by kernel_rfl⟩
theorem env_ok {E : Env} (hP : E.P = Tryz.prog) (hx : E.ext = env1.ext) : EnvOk E := by
  refine ⟨fun f k fn h hf _ => ?_⟩
  rw [hx] at h
  rw [hP] at hf
  simp only [env1] at h
  cases h1 : Nat.beq f 253 with
  | true =>
    rw [h1] at h; cases h
    have := Nat.eq_of_beq_eq_true h1; subst this
    rw [Tryz.func253] at hf; cases hf
    exact ext_ib
  | false =>
    rw [h1] at h
    cases h2 : Nat.beq f 270 with
    | true =>
      rw [h2] at h; cases h
      have := Nat.eq_of_beq_eq_true h2; subst this
      rw [Tryz.func270] at hf; cases hf
      exact ext_cb
    | false => rw [h2] at h; cases h
theorem drawn_ok {E : Env} (hP : E.P = Tryz.prog) (hx : E.ext = env1.ext) : DrawnSound E := drawn_sound (env_ok hP hx) (by rw [hP]; exact mixed)
theorem orc1 : OrcOk env1 := ⟨fun _ _ _ _ _ h => by cases h⟩
theorem kind0 : okPure env1 4000 139 [.str [102]] (.int .i64 2) = true := by kernel_rfl
theorem kind1 : okPure env1 4000 139 [.str [111]] (.int .i64 2) = true := by kernel_rfl
theorem kind2 : okPure env1 4000 139 [.str [120]] (.int .i64 2) = true := by kernel_rfl
theorem orc2 : OrcOk env2 := by
  refine ⟨fun f args s v s' h => ?_⟩
  obtain ⟨rfl, x, rfl, hm, rfl⟩ := knownText_spec h
  simp only [kinds, List.mem_cons, List.mem_nil_iff, or_false, Prod.mk.injEq] at hm
  rcases hm with ⟨rfl, rfl⟩ | ⟨rfl, rfl⟩ | ⟨rfl, rfl⟩
  · exact okPure_sound (env_ok rfl rfl) orc1 (drawn_ok rfl rfl) kind0 rfl rfl _
  · exact okPure_sound (env_ok rfl rfl) orc1 (drawn_ok rfl rfl) kind1 rfl rfl _
  · exact okPure_sound (env_ok rfl rfl) orc1 (drawn_ok rfl rfl) kind2 rfl rfl _

end Go.Proofs.YthedakdjiljmhaaGreatDoor
