/- The fixed examples with which the law begins come out true: part 1. No conditions beyond those of the row. -/
import Derived.Test.YtkeaedhoaamfnaaGreatDoorA8
import Derived.Test.YtkeaedhoaamfnaaGreatDoorChecked
import Derived.KernelRfl
set_option linter.unusedVariables false
set_option linter.unusedSimpArgs false
noncomputable section
namespace Go.Proofs.YtkeaedhoaamfnaaGreatDoor
open Go.AI
def lA : cx := { P := Tryz.prog, ext := fun f => bif Nat.beq f 290 then some .indexByte else bif Nat.beq f 311 then some .count else none, orc := fun _ _ _ => none }
def kinds : List (List Nat × V) := [([39, 97], .int .i64 4), ([39, 98], .int .i64 4), ([39, 99], .int .i64 4), ([39, 120], .int .i64 4), ([73, 110, 116], .int .i64 3), ([66, 111, 111, 108], .int .i64 3), ([76, 105, 115, 116], .int .i64 3), ([45, 62], .int .i64 6), ([105, 100], .int .i64 2), ([120], .int .i64 2), ([102], .int .i64 2), ([111], .int .i64 2)]
def mW : cx := { P := Tryz.prog, ext := lA.ext, orc := iL 69 kinds }
theorem mixed : Tryz.prog.follows .mixedOrders = true := by kernel_rfl
theorem Vc : (Tryz.f290.name == "runtime.NumGoroutine") = false ∧ Extern.findNext Tryz.f290 = none ∧ Extern.find Tryz.f290 = some zz.indexByte.entry := ⟨by kernel_rfl, by kernel_rfl, by kernel_rfl⟩
theorem Vd : (Tryz.f311.name == "runtime.NumGoroutine") = false ∧ Extern.findNext Tryz.f311 = none ∧ Extern.find Tryz.f311 = some zz.count.entry := ⟨by kernel_rfl, by kernel_rfl, by kernel_rfl⟩
theorem dO {E : cx} (hP : E.P = Tryz.prog) (hx : E.ext = lA.ext) : jp E := by
 refine ⟨fun f k fn h hf _ => ?_⟩
 rw [hx] at h
 rw [hP] at hf
 simp only [lA] at h
 cases h1 : Nat.beq f 290 with
 | true =>
  rw [h1] at h; cases h
  have := Nat.eq_of_beq_eq_true h1; subst this
  rw [Tryz.func290] at hf; cases hf
  exact Vc
 | false =>
  rw [h1] at h
  cases h2 : Nat.beq f 311 with
  | true =>
   rw [h2] at h; cases h
   have := Nat.eq_of_beq_eq_true h2; subst this
   rw [Tryz.func311] at hf; cases hf
   exact Vd
  | false => rw [h2] at h; cases h
theorem bY {E : cx} (hP : E.P = Tryz.prog) (hx : E.ext = lA.ext) : eH E := Ge (dO hP hx) (by rw [hP]; exact mixed)
theorem sP : sn lA := ⟨fun _ _ _ _ _ h => by cases h⟩
theorem Wf : gg lA 4000 69 [.str [39, 97]] (.int .i64 4) = true := by kernel_rfl
theorem We : gg lA 4000 69 [.str [39, 98]] (.int .i64 4) = true := by kernel_rfl
theorem Wd : gg lA 4000 69 [.str [39, 99]] (.int .i64 4) = true := by kernel_rfl
theorem Wc : gg lA 4000 69 [.str [39, 120]] (.int .i64 4) = true := by kernel_rfl
theorem Wb : gg lA 4000 69 [.str [73, 110, 116]] (.int .i64 3) = true := by kernel_rfl
theorem Wa : gg lA 4000 69 [.str [66, 111, 111, 108]] (.int .i64 3) = true := by kernel_rfl
theorem VZ : gg lA 4000 69 [.str [76, 105, 115, 116]] (.int .i64 3) = true := by kernel_rfl
theorem VY : gg lA 4000 69 [.str [45, 62]] (.int .i64 6) = true := by kernel_rfl
theorem VX : gg lA 4000 69 [.str [105, 100]] (.int .i64 2) = true := by kernel_rfl
theorem VW : gg lA 4000 69 [.str [120]] (.int .i64 2) = true := by kernel_rfl
theorem Uf : gg lA 4000 69 [.str [102]] (.int .i64 2) = true := by kernel_rfl
theorem Ue : gg lA 4000 69 [.str [111]] (.int .i64 2) = true := by kernel_rfl
theorem yP : sn mW := by
 refine ⟨fun f args s v s' h => ?_⟩
 obtain ⟨rfl, x, rfl, hm, rfl⟩ := wQ h
 simp only [kinds, List.mem_cons, List.mem_nil_iff, or_false, Prod.mk.injEq] at hm
 rcases hm with ⟨rfl, rfl⟩ | ⟨rfl, rfl⟩ | ⟨rfl, rfl⟩ | ⟨rfl, rfl⟩ | ⟨rfl, rfl⟩ | ⟨rfl, rfl⟩ | ⟨rfl, rfl⟩ | ⟨rfl, rfl⟩ | ⟨rfl, rfl⟩ | ⟨rfl, rfl⟩ | ⟨rfl, rfl⟩ | ⟨rfl, rfl⟩
 ·exact bW (dO rfl rfl) sP (bY rfl rfl) Wf rfl rfl _
 ·exact bW (dO rfl rfl) sP (bY rfl rfl) We rfl rfl _
 ·exact bW (dO rfl rfl) sP (bY rfl rfl) Wd rfl rfl _
 ·exact bW (dO rfl rfl) sP (bY rfl rfl) Wc rfl rfl _
 ·exact bW (dO rfl rfl) sP (bY rfl rfl) Wb rfl rfl _
 ·exact bW (dO rfl rfl) sP (bY rfl rfl) Wa rfl rfl _
 ·exact bW (dO rfl rfl) sP (bY rfl rfl) VZ rfl rfl _
 ·exact bW (dO rfl rfl) sP (bY rfl rfl) VY rfl rfl _
 ·exact bW (dO rfl rfl) sP (bY rfl rfl) VX rfl rfl _
 ·exact bW (dO rfl rfl) sP (bY rfl rfl) VW rfl rfl _
 ·exact bW (dO rfl rfl) sP (bY rfl rfl) Uf rfl rfl _
 ·exact bW (dO rfl rfl) sP (bY rfl rfl) Ue rfl rfl _
end Go.Proofs.YtkeaedhoaamfnaaGreatDoor
