/- The fixed examples with which the law begins come out true: part 12. No conditions beyond those of the row. -/
import Derived.Test.YtkeaedhoaamfnaaGreatDoorS11
set_option linter.unusedVariables false
set_option linter.unusedSimpArgs false
noncomputable section
namespace Go.Proofs.YtkeaedhoaamfnaaGreatDoor
open Go.AI
def small (c : Nat) : Bool := Nat.ble 97 c && Nat.ble c 122
def great (c : Nat) : Bool := Nat.ble 65 c && Nat.ble c 90
def digit (c : Nat) : Bool := Nat.ble 48 c && Nat.ble c 57
def part (c : Nat) : Bool := small c || great c || digit c || Nat.beq c 95
def space (c : Nat) : Bool := Nat.beq c 32 || Nat.beq c 9 || Nat.beq c 10 || Nat.beq c 13
def Tv : Nat → List Nat
 | 0 => []
 | n + 1 => n :: Tv n
theorem FD : ∀ {n k : Nat}, k < n → k ∈ Tv n
 | 0, _, h => absurd h (Nat.not_lt_zero _)
 | n + 1, k, h => by
  by_cases hk : k = n
  ·subst hk; exact List.mem_cons_self
  ·exact List.mem_cons_of_mem _ (FD (by omega))
def jt (f : FuncId) (p : Nat → Bool) : Bool := (Tv 256).all fun c => gg lA 200 f [.int .u8 (c : Int)] (.bool (p c))
theorem DD {f : FuncId} {p : Nat → Bool} (h : jt f p = true) {c : Nat} (hc : c < 256) (s : S) : gk Tryz.prog f [.int .u8 (c : Int)] none s ⟨.returned (.bool (p c)), none, s⟩ :=
 bW (E := lA) (dO rfl rfl) sP (bY rfl rfl) (List.all_eq_true.1 h c (FD hc)) rfl rfl s
theorem So : jt 241 small = true := by kernel_rfl
theorem Sn : jt 243 great = true := by kernel_rfl
theorem Sp : jt 239 digit = true := by kernel_rfl
theorem Sm : jt 245 part = true := by kernel_rfl
theorem Sq : jt 235 space = true := by kernel_rfl
theorem Ss : jt 106 small = true := by kernel_rfl
theorem Sr : jt 108 great = true := by kernel_rfl
theorem Sv : jt 103 digit = true := by kernel_rfl
theorem Su : jt 105 part = true := by kernel_rfl
theorem Vi : jt 70 space = true := by kernel_rfl
def qH : List (FuncId × (Nat → Bool)) := [(241, small), (243, great), (239, digit), (245, part), (235, space), (106, small), (108, great), (103, digit), (105, part), (70, space)]
end Go.Proofs.YtkeaedhoaamfnaaGreatDoor
