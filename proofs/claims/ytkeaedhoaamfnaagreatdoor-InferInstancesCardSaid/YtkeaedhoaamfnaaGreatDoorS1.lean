/- The fixed examples with which the law begins come out true: part 1. No conditions beyond those of the row. -/
import Derived.Test.YtkeaedhoaamfnaaGreatDoorA8
import Derived.Test.YtkeaedhoaamfnaaGreatDoorChecked
import Derived.KernelRfl
set_option linter.unusedVariables false
set_option linter.unusedSimpArgs false
noncomputable section
namespace Go.Proofs.YtkeaedhoaamfnaaGreatDoor
open Go.AI
def kV : cg := { P := Tryz.prog, ext := fun f => bif Nat.beq f 290 then some .indexByte else bif Nat.beq f 311 then some .count else none, orc := fun _ _ _ => none }
def kinds : List (List Nat × V) := [([39, 97], .int .i64 4), ([39, 98], .int .i64 4), ([39, 99], .int .i64 4), ([39, 120], .int .i64 4), ([73, 110, 116], .int .i64 3), ([66, 111, 111, 108], .int .i64 3), ([76, 105, 115, 116], .int .i64 3), ([45, 62], .int .i64 6), ([105, 100], .int .i64 2), ([120], .int .i64 2), ([102], .int .i64 2), ([111], .int .i64 2)]
def mi : cg := { P := Tryz.prog, ext := kV.ext, orc := il 69 kinds }
theorem mixed : Tryz.prog.follows .mixedOrders = true := by kernel_rfl
theorem Rj : (Tryz.f290.name == "runtime.NumGoroutine") = false ∧ Extern.findNext Tryz.f290 = none ∧ Extern.find Tryz.f290 = some xE.indexByte.entry := ⟨by kernel_rfl, by kernel_rfl, by kernel_rfl⟩
theorem Rk : (Tryz.f311.name == "runtime.NumGoroutine") = false ∧ Extern.findNext Tryz.f311 = none ∧ Extern.find Tryz.f311 = some xE.count.entry := ⟨by kernel_rfl, by kernel_rfl, by kernel_rfl⟩
theorem dB {E : cg} (hP : E.P = Tryz.prog) (hx : E.ext = kV.ext) : iQ E := by
 refine ⟨fun f k fn h hf _ => ?_⟩
 rw [hx] at h
 rw [hP] at hf
 simp only [kV] at h
 cases h1 : Nat.beq f 290 with
 | true =>
  rw [h1] at h; cases h
  have := Nat.eq_of_beq_eq_true h1; subst this
  rw [Tryz.func290] at hf; cases hf
  exact Rj
 | false =>
  rw [h1] at h
  cases h2 : Nat.beq f 311 with
  | true =>
   rw [h2] at h; cases h
   have := Nat.eq_of_beq_eq_true h2; subst this
   rw [Tryz.func311] at hf; cases hf
   exact Rk
  | false => rw [h2] at h; cases h
theorem bO {E : cg} (hP : E.P = Tryz.prog) (hx : E.ext = kV.ext) : eo E := Di (dB hP hx) (by rw [hP]; exact mixed)
theorem rq : qX kV := ⟨fun _ _ _ _ _ h => by cases h⟩
theorem Sk : fM kV 4000 69 [.str [39, 97]] (.int .i64 4) = true := by kernel_rfl
theorem Sj : fM kV 4000 69 [.str [39, 98]] (.int .i64 4) = true := by kernel_rfl
theorem Si : fM kV 4000 69 [.str [39, 99]] (.int .i64 4) = true := by kernel_rfl
theorem Sh : fM kV 4000 69 [.str [39, 120]] (.int .i64 4) = true := by kernel_rfl
theorem Sf : fM kV 4000 69 [.str [73, 110, 116]] (.int .i64 3) = true := by kernel_rfl
theorem Se : fM kV 4000 69 [.str [66, 111, 111, 108]] (.int .i64 3) = true := by kernel_rfl
theorem Sd : fM kV 4000 69 [.str [76, 105, 115, 116]] (.int .i64 3) = true := by kernel_rfl
theorem Sc : fM kV 4000 69 [.str [45, 62]] (.int .i64 6) = true := by kernel_rfl
theorem Sb : fM kV 4000 69 [.str [105, 100]] (.int .i64 2) = true := by kernel_rfl
theorem Sa : fM kV 4000 69 [.str [120]] (.int .i64 2) = true := by kernel_rfl
theorem Qq : fM kV 4000 69 [.str [102]] (.int .i64 2) = true := by kernel_rfl
theorem Qo : fM kV 4000 69 [.str [111]] (.int .i64 2) = true := by kernel_rfl
theorem wZ : qX mi := by
 refine ⟨fun f args s v s' h => ?_⟩
 obtain ⟨rfl, x, rfl, hm, rfl⟩ := vo h
 simp only [kinds, List.mem_cons, List.mem_nil_iff, or_false, Prod.mk.injEq] at hm
 rcases hm with ⟨rfl, rfl⟩ | ⟨rfl, rfl⟩ | ⟨rfl, rfl⟩ | ⟨rfl, rfl⟩ | ⟨rfl, rfl⟩ | ⟨rfl, rfl⟩ | ⟨rfl, rfl⟩ | ⟨rfl, rfl⟩ | ⟨rfl, rfl⟩ | ⟨rfl, rfl⟩ | ⟨rfl, rfl⟩ | ⟨rfl, rfl⟩
 ·exact bL (dB rfl rfl) rq (bO rfl rfl) Sk rfl rfl _
 ·exact bL (dB rfl rfl) rq (bO rfl rfl) Sj rfl rfl _
 ·exact bL (dB rfl rfl) rq (bO rfl rfl) Si rfl rfl _
 ·exact bL (dB rfl rfl) rq (bO rfl rfl) Sh rfl rfl _
 ·exact bL (dB rfl rfl) rq (bO rfl rfl) Sf rfl rfl _
 ·exact bL (dB rfl rfl) rq (bO rfl rfl) Se rfl rfl _
 ·exact bL (dB rfl rfl) rq (bO rfl rfl) Sd rfl rfl _
 ·exact bL (dB rfl rfl) rq (bO rfl rfl) Sc rfl rfl _
 ·exact bL (dB rfl rfl) rq (bO rfl rfl) Sb rfl rfl _
 ·exact bL (dB rfl rfl) rq (bO rfl rfl) Sa rfl rfl _
 ·exact bL (dB rfl rfl) rq (bO rfl rfl) Qq rfl rfl _
 ·exact bL (dB rfl rfl) rq (bO rfl rfl) Qo rfl rfl _
end Go.Proofs.YtkeaedhoaamfnaaGreatDoor
