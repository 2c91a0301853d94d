/- The fixed examples with which the law begins come out true: part 12. No conditions beyond those of the row. -/
import Derived.Test.YtkeaedhoaamfnaaGreatDoorS11
set_option linter.unusedVariables false
set_option linter.unusedSimpArgs false
noncomputable section
/- Functions of one byte, by the kernel. -/
namespace Go.Proofs.YtkeaedhoaamfnaaGreatDoor
open Go.AI
def small (c : Nat) : Bool := Nat.ble 97 c && Nat.ble c 122
def great (c : Nat) : Bool := Nat.ble 65 c && Nat.ble c 90
def digit (c : Nat) : Bool := Nat.ble 48 c && Nat.ble c 57
def part (c : Nat) : Bool := small c || great c || digit c || Nat.beq c 95
def space (c : Nat) : Bool := Nat.beq c 32 || Nat.beq c 9 || Nat.beq c 10 || Nat.beq c 13
def upTo : Nat → List Nat
  | 0 => []
  | n + 1 => n :: upTo n
theorem mem_upTo : ∀ {n k : Nat}, k < n → k ∈ upTo n
  | 0, _, h => absurd h (Nat.not_lt_zero _)
  | n + 1, k, h => by
    by_cases hk : k = n
    · subst hk; exact List.mem_cons_self
    · exact List.mem_cons_of_mem _ (mem_upTo (by omega))
noncomputable def byteOk (f : FuncId) (p : Nat → Bool) : Bool := (upTo 256).all fun c => okPure env1 200 f [.int .u8 (c : Int)] (.bool (p c))
theorem byteOk_sound {f : FuncId} {p : Nat → Bool} (h : byteOk f p = true) {c : Nat} (hc : c < 256) (s : S) : SoundC Tryz.prog f [.int .u8 (c : Int)] none s ⟨.returned (.bool (p c)), none, s⟩ :=
  okPure_sound (E := env1) (env_ok rfl rfl) orc1 (drawn_ok rfl rfl) (List.all_eq_true.1 h c (mem_upTo hc)) rfl rfl s
theorem byte241 : byteOk 241 small = true := by kernel_rfl
theorem byte243 : byteOk 243 great = true := by kernel_rfl
theorem byte239 : byteOk 239 digit = true := by kernel_rfl
theorem byte245 : byteOk 245 part = true := by kernel_rfl
theorem byte235 : byteOk 235 space = true := by kernel_rfl
theorem byte106 : byteOk 106 small = true := by kernel_rfl
theorem byte108 : byteOk 108 great = true := by kernel_rfl
theorem byte103 : byteOk 103 digit = true := by kernel_rfl
theorem byte105 : byteOk 105 part = true := by kernel_rfl
theorem byte70 : byteOk 70 space = true := by kernel_rfl
def byteFn : List (FuncId × (Nat → Bool)) := [(241, small), (243, great), (239, digit), (245, part), (235, space), (106, small), (108, great), (103, digit), (105, part), (70, space)]
end Go.Proofs.YtkeaedhoaamfnaaGreatDoor
