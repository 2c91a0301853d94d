/- The fixed examples with which the law begins come out true: part 12. No conditions beyond those of the row. -/
import Derived.Test.YtkeaedhoaamfnaaGreatDoorS11
set_option linter.unusedVariables false
set_option linter.unusedSimpArgs false
noncomputable section
namespace Go.Proofs.YtkeaedhoaamfnaaGreatDoor
open Go.AI
def small (c : Nat) : Bool := Nat.ble 97 c && Nat.ble c 122
def great (c : Nat) : Bool := Nat.ble 65 c && Nat.ble c 90
def digit (c : Nat) : Bool := Nat.ble 48 c && Nat.ble c 57
def part (c : Nat) : Bool := small c || great c || digit c || Nat.beq c 95
def space (c : Nat) : Bool := Nat.beq c 32 || Nat.beq c 9 || Nat.beq c 10 || Nat.beq c 13
def PH : Nat → List Nat
 | 0 => []
 | n + 1 => n :: PH n
theorem CK : ∀ {n k : Nat}, k < n → k ∈ PH n
 | 0, _, h => absurd h (Nat.not_lt_zero _)
 | n + 1, k, h => by
  by_cases hk : k = n
  ·subst hk; exact List.mem_cons_self
  ·exact List.mem_cons_of_mem _ (CK (by omega))
def iW (f : FuncId) (p : Nat → Bool) : Bool := (PH 256).all fun c => fM kV 200 f [.int .u8 (c : Int)] (.bool (p c))
theorem Bb {f : FuncId} {p : Nat → Bool} (h : iW f p = true) {c : Nat} (hc : c < 256) (s : S) : fN Tryz.prog f [.int .u8 (c : Int)] none s ⟨.returned (.bool (p c)), none, s⟩ :=
 bL (E := kV) (dB rfl rfl) rq (bO rfl rfl) (List.all_eq_true.1 h c (CK hc)) rfl rfl s
theorem Ow : iW 241 small = true := by kernel_rfl
theorem Ov : iW 243 great = true := by kernel_rfl
theorem Ox : iW 239 digit = true := by kernel_rfl
theorem Ou : iW 245 part = true := by kernel_rfl
theorem Oy : iW 235 space = true := by kernel_rfl
theorem OA : iW 106 small = true := by kernel_rfl
theorem Oz : iW 108 great = true := by kernel_rfl
theorem OC : iW 103 digit = true := by kernel_rfl
theorem OB : iW 105 part = true := by kernel_rfl
theorem Rs : iW 70 space = true := by kernel_rfl
def pG : List (FuncId × (Nat → Bool)) := [(241, small), (243, great), (239, digit), (245, part), (235, space), (106, small), (108, great), (103, digit), (105, part), (70, space)]
end Go.Proofs.YtkeaedhoaamfnaaGreatDoor
