/- What the functions answer in the evaluator: part 10. No conditions beyond those of the row. -/
import Derived.Test.YtkeaedhoaamfnaaGreatDoorL9
set_option linter.unusedVariables false
set_option linter.unusedSimpArgs false
noncomputable section
namespace Go.AI.Lx
open Go.Proofs Go.Proofs.YtkeaedhoaamfnaaGreatDoor
def xy : List aH := []
def xo : Code := match Tryz.f47.body with | some c => c | none => .skip
def qP : gX := ⟨au, Tryz.f47, xy, [(35, ⟨[], false⟩)], [], 0⟩
def wJ : aB := .new (cT 35 [.agg [1, 2], nS] 3 (aF (.bif .len #[22] [0]) 4 (aF (.bif .len #[22] [3]) 5 (aF (.bin .eql 3 false 4 5) 6 (rT 6)))))
theorem zX : cb qP 400 [] [.code xo] (bi [.agg [.atom 0, .atom 1, .atom 2]] 0 .leaf id) (br ⟨.leaf, 0⟩ []) 3 = some wJ := by kernel_rfl
def Gx : List aH := []
def Ga : Code := match Tryz.f72.body with | some c => c | none => .skip
def yX : gX := ⟨au, Tryz.f72, Gx, [(112, ⟨[], false⟩)], [], 0⟩
def Er : aB := aT (.bin .rem 3 true 0 (iV 26)) 1 (aT (.bin .add 3 true (iV 97) 1) 2 (aT (.conv 3 21 2) 3 (aT (.conv 21 9 3) 4 (aT (.bin .add 9 true (.str [39]) 4) 5 (aT (.bin .geq 3 true 0 (iV 26)) 6 (.cond 6 (aT (.bin .quo 3 true 0 (iV 26)) 7 (cT 112 [7] 8 (aT (.bin .add 9 false 5 8) 9 (rT 9)))) (rT 5)))))))
theorem Iz : cb yX 400 [] [.code Ga] (bi [.atom 0] 0 .leaf id) (br ⟨.leaf, 0⟩ []) 1 = some Er := by kernel_rfl
def Be : List aH := [⟨4, [(1, false), (2, false), (3, false), (4, false), (10, false), (11, false), (12, true)], []⟩]
def AT : Code := match Tryz.f48.body with | some c => c | none => .skip
def sO : gX := ⟨au, Tryz.f48, Be, [(44, ⟨[(2, [0])], false⟩), (35, ⟨[], false⟩), (72, ⟨[], false⟩)], [⟨999999, [], []⟩], 0⟩
def zr : aB := .new (.new (.act .makeMap [] 1 2 (.new (cT 35 [.agg [0, 1], nS] 3 (aT (.bif .len #[22] [3]) 4 (.loop 0 12 [2, 3, 4, iV 0, 0, 1, nS, s0, nS, nS, s0, nS] [0, 1, 2] [cB 25 [4, 5], cB 27 [6, 7, 8], cB 27 [9, 10, 11]] (aT (.bin .lss 3 false 3 2) 12 (.cond 12 (aT (.indexAddr 22 1 3) 13 (aT (.load 9 13) 14 (cT 72 [3] 15 (.act (.mapUpd 78 0 14 (.agg [15, nS])) [] 0 (.tuple []) (cT 72 [3] 16 (.new (.act (.bif .append #[22, 22] [9, .slice ⟨3, 0, 0⟩ 0 1 (some 1) 1]) [(3, cB 9 [16])] 1 17 (aT (.bin .add 3 true 3 (iV 1)) 18 (.back 0 [0, 1, 2, 18, 4, 5, 6, 7, 8, 17, 10, 11] [0, 1, 2]))))))))) (.new (.call 44 [0, .agg [4, 5], .ptr ⟨3, 0, 0⟩] [(3, cB 3 [iV 0])] [(3, cB 3 [13])] 3 (.agg [14, 15]) false (rT (.agg [9, 14, 15]))))))))))))
theorem BZ : cb sO 400 [] [.code AT] (bi [.agg [.atom 0, .atom 1]] 0 .leaf id) (br ⟨.leaf, 0⟩ []) 2 = some zr := by kernel_rfl
def Bf : List aH := []
def AU : Code := match Tryz.f21.body with | some c => c | none => .skip
def sP : gX := ⟨au, Tryz.f21, Bf, [(40, ⟨[], false⟩), (47, ⟨[], false⟩), (48, ⟨[], false⟩)], [], 0⟩
def zt : aB := .new (.new (cT 40 [.agg [0, 1, 2]] 3 (aT (.un .not 3) 4 (.cond 4 (rT (.tuple [.agg [nS, s0, nS], iV 32])) (cT 47 [.agg [0, 1, 2]] 5 (aT (.un .not 5) 6 (.cond 6 (rT (.tuple [.agg [nS, s0, nS], iV 1])) (.call 48 [.agg [1, 2]] [] [] 3 (.agg [7, 8, 9]) false (rT (.tuple [.agg [7, 8, 9], iV 0]))))))))))
theorem Cb : cb sP 400 [] [.code AU] (bi [.agg [.atom 0, .atom 1, .atom 2]] 0 .leaf id) (br ⟨.leaf, 0⟩ []) 3 = some zt := by kernel_rfl
def wp : List aH := []
def vW : Code := match Tryz.f27.body with | some c => c | none => .skip
def oP : gX := ⟨au, Tryz.f27, wp, [(23, ⟨[], false⟩)], [], 0⟩
def ug : aB := .new (.new (.call 23 [.agg [0, 1, 2], .agg [3, 4]] [] [] 2 (.tuple [5, 6]) false (rT 6)))
theorem wR : cb oP 400 [] [.code vW] (bi [.agg [.atom 0, .atom 1, .atom 2], .agg [.atom 3, .atom 4]] 0 .leaf id) (br ⟨.leaf, 0⟩ []) 5 = some ug := by kernel_rfl
def xA : List aH := []
def xq : Code := match Tryz.f28.body with | some c => c | none => .skip
def qR : gX := ⟨au, Tryz.f28, xA, [(40, ⟨[], false⟩), (47, ⟨[], false⟩), (27, ⟨[], false⟩)], [], 0⟩
def wL : aB := .new (.new (cT 40 [.agg [0, 1, 2]] 6 (.cond 6 (cT 40 [.agg [3, 4, 5]] 7 (.cond 7 (cT 47 [.agg [0, 1, 2]] 8 (.cond 8 (cT 47 [.agg [3, 4, 5]] 9 (.cond 9 (cT 27 [.agg [0, 1, 2], .agg [4, 5]] 10 (rT 10)) (rT (.bool false)))) (rT (.bool false)))) (rT (.bool false)))) (rT (.bool false)))))
theorem zZ : cb qR 400 [] [.code xq] (bi [.agg [.atom 0, .atom 1, .atom 2], .agg [.atom 3, .atom 4, .atom 5]] 0 .leaf id) (br ⟨.leaf, 0⟩ []) 6 = some wL := by kernel_rfl
def Bh : List aH := [⟨5, [(2, false), (3, false), (6, false), (24, false), (25, false), (26, true)], []⟩, ⟨14, [(9, false), (10, true), (44, false), (45, false), (46, true)], []⟩]
def AW : Code := match Tryz.f23.body with | some c => c | none => .skip
def sR : gX := ⟨au, Tryz.f23, Bh, [(44, ⟨[(2, [0])], false⟩), (40, ⟨[], false⟩), (13, ⟨[], false⟩), (51, ⟨[], false⟩)], [⟨100002, [(2, false), (3, false), (21, true)], []⟩], 0⟩
def zF : aB := aT (.bin .lss 3 false 4 3) 5 (.cond 5 (aT (.indexAddr 22 2 4) 6 (aT (.load 9 6) 7 (.new (.ask (.lookup 78 0 7 false) true [] 2 (.agg [8, 9]) (.call 44 [.nilmap, .agg [8, 9], .ptr ⟨0, 0, 0⟩] [(0, cB 3 [iV 0])] [(0, cB 3 [10])] 3 (.agg [11, 12]) false (.new (.act (.bif .append #[36, 36] [1, .slice ⟨1, 0, 0⟩ 0 1 (some 1) 3]) [(1, cB 56 [7, 11, 12])] 1 13 (aT (.bin .add 3 true 4 (iV 1)) 14 (.back 0 [0, 13, 2, 3, 14] []))))))))) (rT (.tuple [1, .bool true])))
def zE : aB := aT (.bin .lss 3 false 3 2) 9 (.cond 9 (aT (.indexAddr 22 1 3) 10 (aT (.load 9 10) 11 (aT (.lookup 86 0 11 false) 12 (aT (.bin .add 3 true 12 (iV 1)) 13 (.act (.mapUpd 86 0 11 13) [] 0 (.tuple []) (aT (.bin .add 3 true 3 (iV 1)) 14 (.back 0 [0, 1, 2, 14, 4, 5, 6, 7, 8] [0, 1]))))))) (.act .makeMap [] 1 10 (cT 51 [0, 10, .agg [5, 6], .agg [7, 8]] 11 (aT (.un .not 11) 12 (.cond 12 (rT (.tuple [nS, .bool false])) (aT (.bif .len #[22] [4]) 13 (.loop 0 5 [10, nS, 4, 13, iV 0] [] [] zF)))))))
def lJ : aB := .cond 0 (rT (.tuple [nS, .bool false])) (.act .makeMap [] 1 6 (aT (.bif .len #[22] [1]) 7 (.loop 0 9 [6, 1, 7, iV 0, 1, 2, 3, 4, 5] [0, 1] [cB 27 [4, 5, 6], cB 25 [7, 8]] zE)))
def zw : aB := .new (.new (cT 40 [.agg [0, 1, 2]] 5 (aT (.un .not 5) 6 (.cond 6 (.cut 6 [.bool true, 0, 1, 2, 3, 4] [0, 1] [cB 27 [1, 2, 3], cB 25 [4, 5]] lJ) (cT 13 [.agg [3, 4]] 7 (aT (.bin .eql 3 true 7 (iV 0)) 8 (.cut 6 [8, 0, 1, 2, 3, 4] [0, 1] [cB 27 [1, 2, 3], cB 25 [4, 5]] lJ)))))))
theorem Ce : cb sR 400 [] [.code AW] (bi [.agg [.atom 0, .atom 1, .atom 2], .agg [.atom 3, .atom 4]] 0 .leaf id) (br ⟨.leaf, 0⟩ []) 5 = some zw := by kernel_rfl
def Gu : List aH := []
def FX : Code := match Tryz.f74.body with | some c => c | none => .skip
def yU : gX := ⟨au, Tryz.f74, Gu, [(75, ⟨[], false⟩)], [], 0⟩
def En : aB := .new (.new (aT (.bin .eql 9 false 0 2) 4 (.cond 4 (cT 75 [1, 3, .func (.func 74) [] []] 5 (rT 5)) (rT (.bool false)))))
theorem Iw : cb yU 400 [] [.code FX] (bi [.agg [.atom 0, .atom 1], .agg [.atom 2, .atom 3]] 0 .leaf id) (br ⟨.leaf, 0⟩ []) 4 = some En := by kernel_rfl
def DL : List aH := []
def Dt : Code := match Tryz.f51.body with | some c => c | none => .skip
def wb : gX := ⟨au, Tryz.f51, DL, [(74, ⟨[], false⟩), (75, ⟨[], false⟩)], [], 0⟩
def BK : aB := .new (.new (.new (.new (aT (.lookup 86 0 2 false) 6 (aT (.bin .gtr 3 true 6 (iV 0)) 7 (.cond 7 (.ask (.lookup 78 1 2 true) true [] 3 (.tuple [.agg [8, 9], 10]) (.new (aT (.un .not 10) 11 (.cond 11 (.act (.mapUpd 78 1 2 (.agg [4, 5])) [] 0 (.tuple []) (rT (.bool true))) (cT 74 [.agg [8, 9], .agg [4, 5]] 12 (rT 12)))))) (aT (.bin .eql 9 false 2 4) 8 (.cond 8 (.call 75 [3, 5, .func (.func 76) [] [.ptr ⟨0, 0, 0⟩, .ptr ⟨1, 0, 0⟩]] [(0, cB 86 [0]), (1, cB 78 [1])] [] 1 9 false (rT 9)) (rT (.bool false))))))))))
theorem ES : cb wb 400 [] [.code Dt] (bi [.atom 0, .atom 1, .agg [.atom 2, .atom 3], .agg [.atom 4, .atom 5]] 0 .leaf id) (br ⟨.leaf, 0⟩ []) 6 = some BK := by kernel_rfl
def Bi : List aH := []
def AX : Code := match Tryz.f76.body with | some c => c | none => .skip
def sS : gX := ⟨au, Tryz.f76, Bi, [(51, ⟨[], false⟩)], [], 2⟩
def zz : aB := .new (.new (cT 51 [4, 5, .agg [0, 1], .agg [2, 3]] 6 (.ret 6 [(0, cB 86 [4]), (1, cB 78 [5])])))
theorem Cf : cb sS 400 [] [.code AX] (bi [.agg [.atom 0, .atom 1], .agg [.atom 2, .atom 3], .ptr ⟨0, 0, 0⟩, .ptr ⟨1, 0, 0⟩] 0 .leaf id) (br ⟨.leaf, 0⟩ [.cells 86 false 1 [⟨0, 0, [.atom 4]⟩], .cells 78 false 1 [⟨0, 0, [.atom 5]⟩]]) 6 = some zz := by kernel_rfl
def Jx : List aH := [⟨4, [(1, false), (2, false), (15, false), (16, false), (17, true)], []⟩]
def Jq : Code := match Tryz.f75.body with | some c => c | none => .skip
def Dz : gX := ⟨au, Tryz.f75, Jx, [], [], 0⟩
def Ij : aB := aT (.bif .len #[23] [0]) 3 (aT (.bif .len #[23] [1]) 4 (aT (.bin .neq 3 false 3 4) 5 (.cond 5 (rT (.bool false)) (aT (.bif .len #[23] [0]) 6 (.loop 0 5 [1, 2, 0, 6, iV 0] [] [] (aT (.bin .lss 3 false 4 3) 5 (.cond 5 (aT (.indexAddr 23 2 4) 6 (.ask (.load 25 6) true [] 2 (.agg [7, 8]) (.new (aT (.indexAddr 23 0 4) 9 (.ask (.load 25 9) true [] 2 (.agg [10, 11]) (.new (.calla 1 [.agg [7, 8], .agg [10, 11]] [] 1 12 (aT (.un .not 12) 13 (.cond 13 (rT (.bool false)) (aT (.bin .add 3 true 4 (iV 1)) 14 (.back 0 [0, 1, 2, 3, 14] []))))))))))) (rT (.bool true)))))))))
theorem KK : cb Dz 400 [] [.code Jq] (bi [.atom 0, .atom 1, .atom 2] 0 .leaf id) (br ⟨.leaf, 0⟩ []) 3 = some Ij := by kernel_rfl
end Go.AI.Lx
namespace Go.AI.Lx
open Go.Proofs Go.Proofs.YtkeaedhoaamfnaaGreatDoor
set_option maxRecDepth 10000
def bX (x : List Nat) : List (List Nat × Ty) → Option Ty
 | [] => none
 | (k, v) :: r => if x = k then some v else bX x r
mutual
def fO (m : List (List Nat × Ty)) : Ty → Ty
 | .mk name args => match (if args.length = 0 then bX name m else none) with
  | some x => x
  | none => .mk name (dj m args)
def dj (m : List (List Nat × Ty)) : List Ty → List Ty
 | [] => []
 | t :: r => fO m t :: dj m r
end
mutual
def tp : Ty → Nat → Ty × Nat
 | .mk name args, c => if 2000 < c + 1 then (.mk [] [], c + 1) else (.mk name (mL args (c + 1)).1, (mL args (c + 1)).2)
def mL : List Ty → Nat → List Ty × Nat
 | [], c => ([], c)
 | t :: r, c => ((tp t c).1 :: (mL r (tp t c).2).1, (mL r (tp t c).2).2)
end
mutual
def iS (m : List (List Nat × Ty)) : Ty → Nat → Ty × Nat
 | .mk name args, c => match (if args.length = 0 then bX name m else none) with
  | some x => tp x c
  | none => if 2000 < c + 1 then (.mk [] [], c + 1) else (.mk name (iF m args (c + 1)).1, (iF m args (c + 1)).2)
def iF (m : List (List Nat × Ty)) : List Ty → Nat → List Ty × Nat
 | [], c => ([], c)
 | t :: r, c => ((iS m t c).1 :: (iF m r (iS m t c).2).1, (iF m r (iS m t c).2).2)
end
mutual
def MX (l : List (List Nat × Ty)) : Ty → Nat → Ty × Nat
 | .mk name args, n => if 2000 < n then (.mk [73, 110, 116] [], n) else match (if Pe name = true then bX name l else none) with
  | some x => (x, n + SX x 2000)
  | none => (.mk name (Cx l args (n + 1)).1, (Cx l args (n + 1)).2)
def Cx (l : List (List Nat × Ty)) : List Ty → Nat → List Ty × Nat
 | [], n => ([], n)
 | t :: r, n => ((MX l t n).1 :: (Cx l r (MX l t n).2).1, (Cx l r (MX l t n).2).2)
end
theorem nW (t : Ty) : 1 ≤ cY t := by cases t; simp only [cY]; omega
theorem CX : nu (.mk [] []) = false := by
 have : ek [] 0 = false := by decide +kernel
 simp only [nu, List.length_nil, this, Bool.and_false]
theorem CY {name : List Nat} {l : List Ty} (h : eX l = false) : nu (.mk name l) = false := by simp only [nu, h, Bool.false_and]
theorem HL {t : Ty} {l : List Ty} (h : nu t = false) : eX (t :: l) = false := by simp only [eX, h, Bool.false_and]
theorem HJ {t : Ty} {l : List Ty} (h : eX l = false) : eX (t :: l) = false := by simp only [eX, h, Bool.and_false]
mutual
theorem Po : ∀ (t : Ty) (c : Nat), c ≤ (tp t c).2
 | .mk name args, c => by
  simp only [tp]
  split
  ·simp
  ·have := FL args (c + 1); simp only; omega
theorem FL : ∀ (l : List Ty) (c : Nat), c ≤ (mL l c).2
 | [], c => by simp [mL]
 | t :: r, c => by
  simp only [mL]
  exact Nat.le_trans (Po t c) (FL r _)
end
mutual
theorem Pn : ∀ (t : Ty) (c : Nat), (tp t c).2 ≤ c + cY t
 | .mk name args, c => by
  simp only [tp, cY]
  split
  ·simp only; omega
  ·have := Mf args (c + 1); simp only; omega
theorem Mf : ∀ (l : List Ty) (c : Nat), (mL l c).2 ≤ c + cR l
 | [], c => by simp [mL, cR]
 | t :: r, c => by
  simp only [mL, cR]
  have h1 := Pn t c
  have h2 := Mf r (tp t c).2
  omega
end
mutual
theorem FM : ∀ (t : Ty) (c : Nat), (c + cY t ≤ 2000 → tp t c = (t, c + cY t)) ∧ (2000 < c + cY t → nu (tp t c).1 = false ∧ 2000 < (tp t c).2)
 | .mk name args, c => by
  simp only [tp, cY]
  have ih := HP args (c + 1)
  by_cases h : 2000 < c + 1
  ·rw [if_pos h]
   exact ⟨fun hh => by omega, fun _ => ⟨CX, h⟩⟩
  ·rw [if_neg h]
   refine ⟨fun hh => ?_, fun hh => ?_⟩
   ·rw [ih.1 (by omega)]; simp only [Prod.mk.injEq, true_and]; omega
   ·obtain ⟨h1, h2⟩ := ih.2 (by omega) (by omega)
    exact ⟨CY h1, h2⟩
theorem HP : ∀ (l : List Ty) (c : Nat), (c + cR l ≤ 2000 → mL l c = (l, c + cR l)) ∧ (c ≤ 2000 → 2000 < c + cR l → eX (mL l c).1 = false ∧ 2000 < (mL l c).2)
 | [], c => by simp only [mL, cR]; exact ⟨fun _ => rfl, fun h1 h2 => by omega⟩
 | t :: r, c => by
  simp only [mL, cR]
  have h1 := FM t c
  by_cases hc : c + cY t ≤ 2000
  ·rw [h1.1 hc]
   have h2 := HP r (c + cY t)
   refine ⟨fun hh => ?_, fun _ hh => ?_⟩
   ·simp only [h2.1 (by omega), Prod.mk.injEq, true_and]; omega
   ·obtain ⟨h3, h4⟩ := h2.2 hc (by omega)
    exact ⟨HJ h3, h4⟩
  ·obtain ⟨h3, h4⟩ := h1.2 (by omega)
   refine ⟨fun hh => by omega, fun _ _ => ⟨HL h3, ?_⟩⟩
   exact Nat.lt_of_lt_of_le h4 (FL r _)
end
section
variable {m : List (List Nat × Ty)}
mutual
theorem OV : ∀ (t : Ty) (c : Nat), c ≤ (iS m t c).2
 | .mk name args, c => by
  simp only [iS]
  split
  ·exact Po _ c
  ·split
   ·simp
   ·have := Ai args (c + 1); simp only; omega
theorem Ai : ∀ (l : List Ty) (c : Nat), c ≤ (iF m l c).2
 | [], c => by simp [iF]
 | t :: r, c => by
  simp only [iF]
  exact Nat.le_trans (OV t c) (Ai r _)
end
mutual
theorem OU : ∀ (t : Ty) (c : Nat), (iS m t c).2 ≤ c + cY (fO m t)
 | .mk name args, c => by
  simp only [iS, fO]
  cases hl : (if args.length = 0 then bX name m else none) with
  | some x => simp only; exact Pn x c
  | none =>
   simp only [cY]
   split
   ·simp only; omega
   ·have := Lc args (c + 1); simp only; omega
theorem Lc : ∀ (l : List Ty) (c : Nat), (iF m l c).2 ≤ c + cR (dj m l)
 | [], c => by simp [iF, cR, dj]
 | t :: r, c => by
  simp only [iF, cR, dj]
  have h1 := OU t c
  have h2 := Lc r (iS m t c).2
  omega
end
mutual
theorem Aj : ∀ (t : Ty) (c : Nat), (c + cY (fO m t) ≤ 2000 → iS m t c = (fO m t, c + cY (fO m t))) ∧ (2000 < c + cY (fO m t) → nu (iS m t c).1 = false ∧ 2000 < (iS m t c).2)
 | .mk name args, c => by
  simp only [iS, fO]
  cases hl : (if args.length = 0 then bX name m else none) with
  | some x => exact FM x c
  | none =>
   simp only [cY]
   have ih := Hk args (c + 1)
   by_cases h : 2000 < c + 1
   ·rw [if_pos h]
    exact ⟨fun hh => by omega, fun _ => ⟨CX, h⟩⟩
   ·rw [if_neg h]
    refine ⟨fun hh => ?_, fun hh => ?_⟩
    ·rw [ih.1 (by omega)]; simp only [Prod.mk.injEq, true_and]; omega
    ·obtain ⟨h1, h2⟩ := ih.2 (by omega) (by omega)
     exact ⟨CY h1, h2⟩
theorem Hk : ∀ (l : List Ty) (c : Nat), (c + cR (dj m l) ≤ 2000 → iF m l c = (dj m l, c + cR (dj m l))) ∧ (c ≤ 2000 → 2000 < c + cR (dj m l) → eX (iF m l c).1 = false ∧ 2000 < (iF m l c).2)
 | [], c => by simp only [iF, cR, dj]; exact ⟨fun _ => rfl, fun h1 h2 => by omega⟩
 | t :: r, c => by
  simp only [iF, cR, dj]
  have h1 := Aj t c
  by_cases hc : c + cY (fO m t) ≤ 2000
  ·rw [h1.1 hc]
   have h2 := Hk r (c + cY (fO m t))
   refine ⟨fun hh => ?_, fun _ hh => ?_⟩
   ·simp only [h2.1 (by omega), Prod.mk.injEq, true_and]; omega
   ·obtain ⟨h3, h4⟩ := h2.2 hc (by omega)
    exact ⟨HJ h3, h4⟩
  ·obtain ⟨h3, h4⟩ := h1.2 (by omega)
   refine ⟨fun hh => by omega, fun _ _ => ⟨HL h3, ?_⟩⟩
   exact Nat.lt_of_lt_of_le h4 (Ai r _)
end
mutual
theorem Kz {B : Nat} (hB : 1 ≤ B) (h : ∀ x t, bX x m = some t → cY t ≤ B) : ∀ (t : Ty), cY (fO m t) ≤ cY t * B
 | .mk name args => by
  simp only [fO, cY]
  cases hl : (if args.length = 0 then bX name m else none) with
  | some x =>
   simp only
   have hx : cY x ≤ B := by
    split at hl
    ·exact h _ _ hl
    ·cases hl
   exact Nat.le_trans hx (Nat.le_mul_of_pos_left _ (by omega))
  | none =>
   simp only [cY]
   have := Ku hB h args
   rw [Nat.succ_mul]; omega
theorem Ku {B : Nat} (hB : 1 ≤ B) (h : ∀ x t, bX x m = some t → cY t ≤ B) : ∀ (l : List Ty), cR (dj m l) ≤ cR l * B
 | [] => by simp [dj, cR]
 | t :: r => by
  simp only [dj, cR]
  have h1 := Kz hB h t
  have h2 := Ku hB h r
  rw [Nat.add_mul]; omega
end
def SW (m : List (List Nat × Ty)) : Prop := ∀ k x, bX k m = some x → aK k = 4 ∧ gt x = true
mutual
theorem Hm (hm : SW m) : ∀ (t : Ty) (n : Nat), nu t = true → (n + cY (fO m t) ≤ 2000 → MX m t n = (fO m t, n + cY (fO m t))) ∧ (2000 < n + cY (fO m t) → 2000 < (MX m t n).2)
 | .mk name args, n, hf => by
  simp only [nu, Bool.and_eq_true] at hf
  obtain ⟨hv1, hv2⟩ := uS hf.2
  have hlk : (if Pe name = true then bX name m else none) = (if args.length = 0 then bX name m else none) := by
   by_cases hv : Pe name = true
   ·rw [if_pos hv, if_pos (hv2 (hv1.1 hv))]
   ·rw [if_neg hv]
    cases hx : bX name m with
    | none => simp
    | some x => exact absurd (hv1.2 (hm _ _ hx).1) hv
  simp only [MX, fO, hlk]
  cases hl : (if args.length = 0 then bX name m else none) with
  | some x =>
   have hx : gt x = true := by
    split at hl
    ·exact (hm _ _ hl).2
    ·cases hl
   have hs := (bu hx).1
   have hp := nW x
   simp only [Mk x 2000 hs]
   by_cases h : 2000 < n
   ·rw [if_pos h]; exact ⟨fun hh => by omega, fun _ => h⟩
   ·rw [if_neg h]; exact ⟨fun _ => rfl, fun hh => hh⟩
  | none =>
   simp only [cY]
   have ih := uM hm args (n + 1) hf.1
   by_cases h : 2000 < n
   ·rw [if_pos h]; exact ⟨fun hh => by omega, fun _ => h⟩
   ·rw [if_neg h]
    refine ⟨fun hh => ?_, fun hh => ih.2 (by omega)⟩
    rw [ih.1 (by omega)]; simp only [Prod.mk.injEq, true_and]; omega
theorem uM (hm : SW m) : ∀ (l : List Ty) (n : Nat), eX l = true → (n + cR (dj m l) ≤ 2000 → Cx m l n = (dj m l, n + cR (dj m l))) ∧ (2000 < n + cR (dj m l) → 2000 < (Cx m l n).2)
 | [], n, _ => by simp only [Cx, cR, dj]; exact ⟨fun _ => rfl, fun h => h⟩
 | t :: r, n, hf => by
  simp only [eX, Bool.and_eq_true] at hf
  simp only [Cx, cR, dj]
  have h1 := Hm hm t n hf.1
  by_cases hc : n + cY (fO m t) ≤ 2000
  ·rw [h1.1 hc]
   have h2 := uM hm r (n + cY (fO m t)) hf.2
   refine ⟨fun hh => ?_, fun hh => h2.2 (by omega)⟩
   simp only [h2.1 (by omega), Prod.mk.injEq, true_and]; omega
  ·have h3 := h1.2 (by omega)
   exact ⟨fun hh => by omega, fun _ => (uM hm r (MX m t n).2 hf.2).2 (by omega)⟩
end
theorem put_same (hm : SW m) {t : Ty} (hf : nu t = true) : (gt (iS m t 0).1 = true ↔ (MX m t 0).2 ≤ 2000 ∧ gt (MX m t 0).1 = true) ∧ (gt (iS m t 0).1 = true → (MX m t 0).1 = (iS m t 0).1) := by
 have h1 := Aj (m := m) t 0
 have h2 := Hm hm t 0 hf
 by_cases h : 0 + cY (fO m t) ≤ 2000
 ·rw [h1.1 h, h2.1 h]
  exact ⟨⟨fun hh => ⟨h, hh⟩, fun hh => hh.2⟩, fun _ => rfl⟩
 ·have h3 := (h1.2 (by omega)).1
  have h4 := h2.2 (by omega)
  have h5 : ¬ gt (iS m t 0).1 = true := fun hh => by
   have := (bu hh).2.2
   rw [h3] at this; cases this
  exact ⟨⟨fun hh => absurd hh h5, fun hh => by omega⟩, fun hh => absurd hh h5⟩
end
def KB (G : List Nat) (s s' : S) : Prop := ∀ g ∈ G, ∀ B, s.get g = some B → s'.get g = some B
theorem KB.refl (G : List Nat) (s : S) : KB G s s := fun _ _ _ h => h
theorem KB.trans {G : List Nat} {a b c : S} (h : KB G a b) (k : KB G b c) : KB G a c := fun g hg B hB => k g hg B (h g hg B hB)
theorem KB.mono {G G' : List Nat} {a b : S} (hs : ∀ g ∈ G, g ∈ G') (h : KB G' a b) : KB G a b := fun g hg B hB => h g (hs g hg) B hB
theorem KB.fw {F G : List Nat} {a b : S} (h : Fw F a b) (hs : ∀ g ∈ G, g ∉ F) : KB G a b := fun g hg B hB => h.keep g B (hs g hg) hB
theorem LG {G : List Nat} {s : S} {n : Nat} (h : ∀ g ∈ G, g < n) : Kn (KB G s) n := fun F a b hF hf hk g hg B hB => hf.keep g B (fun hgF => by have h1 := hF g hgF; have h2 := h g hg; omega) (hk g hg B hB)
theorem vp {K K' : S → Prop} {n : Nat} (h : Kn K n) (h' : Kn K' n) : Kn (fun s => K s ∧ K' s) n := fun F a b hF hf hk => ⟨h F a b hF hf hk.1, h' F a b hF hf hk.2⟩
theorem CO {K : S → Prop} {n n' : Nat} (h : Kn K n) (hn : n ≤ n') : Kn K n' := fun F a b hF hf hk => h F a b (fun g hg => Nat.le_trans hn (hF g hg)) hf hk
def MT (K : S → Prop) (G : List Nat) (t : Ty) (nm rw : V) (s : S) : Prop := gY (fun s' => K s' ∧ KB G s s') t nm rw ∧ ∀ g ∈ G, g < s.next
section
variable {K : S → Prop}
theorem MT.keep {G : List Nat} {t : Ty} {nm rw : V} {s s' : S} (h : MT K G t nm rw s) (hk : KB G s s') (hn : s.next ≤ s'.next) : MT K G t nm rw s' :=
 ⟨gY.mono (fun _ h2 => ⟨h2.1, hk.trans h2.2⟩) h.1, fun g hg => Nat.lt_of_lt_of_le (h.2 g hg) hn⟩
theorem MT.stb {G : List Nat} {t : Ty} {nm rw : V} : iA G (MT K G t nm rw) := fun _ _ h hk hn => h.keep hk hn
theorem MT.still {G : List Nat} {t : Ty} {nm rw : V} : fJ (MT K G t nm rw) := fun _ _ hf h => h.keep (KB.fw hf (by simp)) hf.next
theorem MT.one {G : List Nat} {t : Ty} {nm rw : V} {s : S} (h : MT K G t nm rw s) : nm.one = true ∧ rw.one = true := h.1.one
theorem MT.of {t : Ty} {nm rw : V} {s : S} (h : gY K t nm rw) : MT K [] t nm rw s := ⟨gY.mono (fun _ h2 => h2.1) h, by simp⟩
theorem MT.none {s : S} : MT K [] (.mk [] []) (.str []) .nilslice s := ⟨by simp only [gY]; exact ⟨trivial, fun z hz => by simp at hz, by simp, [], .nil, by simp only [dS]⟩, by simp⟩
end
theorem re {sz : Nat} : ∀ {cs : List (List V)} {i : Nat} {x : List V}, (∀ x ∈ cs, x.length = sz) → cs[i]? = some x → aO sz (cs.flatten.drop (i * sz)) = some x
 | [], i, x, _, h => by simp at h
 | c :: r, 0, x, hs, h => by
  simp at h; subst h
  have hc := hs c (by simp)
  have : ∀ (l m : List V), aO l.length (l ++ m) = some l := by
   intro l m
   induction l with
   | nil => rfl
   | cons a l ih => simp only [List.length_cons, List.cons_append, aO, ih, Option.map]
  rw [Nat.zero_mul, List.drop_zero, List.flatten_cons, ← hc]
  exact this c _
 | c :: r, i + 1, x, hs, h => by
  have hc := hs c (by simp)
  have ih := re (cs := r) (i := i) (x := x) (fun y hy => hs y (List.mem_cons_of_mem _ hy)) (by simpa using h)
  rw [List.flatten_cons, Nat.succ_mul, Nat.add_comm (i * sz) sz, ← List.drop_drop, List.drop_left' hc]
  exact ih
theorem wA {e sz : Nat} {s : S} {v : V} {cs : List (List V)} {o : Option Nat} (h : gx e sz s v cs.length cs.flatten o) (hs : ∀ x ∈ cs, x.length = sz) (hn : cs.length < 4611686018427387904) : jq (KB o.toList s) sz v cs := by
 generalize hl : cs.length = n at h
 generalize hc : cs.flatten = fs at h
 cases h with
 | nil =>
  have : cs = [] := List.eq_nil_of_length_eq_zero hl
  subst this; exact .nil
 | row X nv rest n fs h1 h2 h3 =>
  refine .row _ _ _ _ hl.symm (by omega) fun i x hx s' hk => ?_
  have h1' := hk X (by simp) _ h1
  have hv : bg (⟨nv, 0, fs⟩ :: rest) nv = some ⟨nv, 0, fs⟩ := by simp only [bg, Nat.beq_refl, cond_true]
  simp only [loadCells, eK, h1', hv, DG, cond_true, Nat.sub_zero, Nat.zero_add]
  rw [← hc]
  exact re hs hx
theorem dS.two {K : S → Prop} : ∀ {l : List Ty} {cs : List (List V)}, dS K l cs → ∀ x ∈ cs, x.length = 2
 | [], cs, r, x, hx => by simp only [dS] at r; subst r; simp at hx
 | t :: l, cs, r, x, hx => by
  simp only [dS] at r
  obtain ⟨nm, rw, cs', rfl, h2, h3⟩ := r
  rcases List.mem_cons.1 hx with rfl | hx
  ·rfl
  ·exact dS.two h3 x hx
theorem dS.app {K : S → Prop} : ∀ {l l' : List Ty} {cs cs' : List (List V)}, dS K l cs → dS K l' cs' → dS K (l ++ l') (cs ++ cs')
 | [], l', cs, cs', r, r' => by simp only [dS] at r; subst r; exact r'
 | t :: l, l', cs, cs', r, r' => by
  simp only [dS] at r
  obtain ⟨nm, rw, c2, rfl, h2, h3⟩ := r
  simp only [List.cons_append, dS]
  exact ⟨nm, rw, c2 ++ cs', rfl, h2, dS.app h3 r'⟩
theorem RL : zi Tryz.prog 23 25 2 := ⟨by kernel_rfl, by kernel_rfl, by kernel_rfl, by kernel_rfl, by kernel_rfl⟩
structure TL (K : S → Prop) (G : List Nat) (l : List Ty) (o : Option Nat) (v : V) (s : S) : Prop where
 row : ∃ cs : List (List V), gx 25 2 s v l.length cs.flatten o ∧ dS (fun s' => K s' ∧ KB G s s') l cs
 lt : ∀ g ∈ G, g < s.next ∧ o ≠ some g
section
variable {K : S → Prop}
theorem TL.one {G : List Nat} {l : List Ty} {o : Option Nat} {v : V} {s : S} (h : TL K G l o v s) : v.one = true := by
 obtain ⟨⟨cs, h1, _⟩, _⟩ := h; exact h1.one
theorem TL.nil (s : S) : TL K [] [] none .nilslice s := ⟨⟨[], gx.nil, by simp only [dS]⟩, by simp⟩
theorem TL.keep {G : List Nat} {l : List Ty} {o : Option Nat} {v : V} {s s' : S} (h : TL K G l o v s) (hk : KB (G ++ o.toList) s s') (hn : s.next ≤ s'.next) : TL K G l o v s' := by
 obtain ⟨⟨cs, h1, h2⟩, h3⟩ := h
 exact ⟨⟨cs, h1.keep (fun X B hX hB => hk X (by simp [hX]) B hB), dS.mono (fun _ h4 => ⟨h4.1, (hk.mono (by simp; intro g hg; exact .inl hg)).trans h4.2⟩) h2⟩, fun g hg => ⟨Nat.lt_of_lt_of_le (h3 g hg).1 hn, (h3 g hg).2⟩⟩
theorem TL.stb {G : List Nat} {l : List Ty} {o : Option Nat} {v : V} : iA (G ++ o.toList) (TL K G l o v) := fun _ _ h hk hn => h.keep hk hn
theorem TL.blk {G : List Nat} {l : List Ty} {o : Option Nat} {v : V} {s : S} (h : TL K G l o v s) (hw : WF s) : ∀ g ∈ G ++ o.toList, g < s.next := fun g hg => by
 obtain ⟨⟨cs, h1, _⟩, h3⟩ := h
 rcases List.mem_append.1 hg with hg | hg
 ·exact (h3 g hg).1
 ·cases o with
  | none => simp at hg
  | some X => simp at hg; subst hg; exact h1.lt hw
theorem TL.app {G G' : List Nat} {l : List Ty} {t : Ty} {nm rw : V} {o : Option Nat} {v : V} {s : S} (h : TL K G l o v s) (hw : WF s) {b : Nat} (hb : s.get b = some (.cells 25 false 1 [⟨0, 0, [nm, rw]⟩])) (ht : MT K G' t nm rw s) (hG : ∀ g ∈ G', o ≠ some g) (hl : l.length ≤ 999999) :
 ∃ v' s' X, wG.run Tryz.prog s (.bif .append #[23, 23] [v, .slice ⟨b, 0, 0⟩ 0 1 (some 1) 2]) = some (v', s') ∧ TL K (G ++ G') (l ++ [t]) (some X) v' s' ∧ Fw o.toList s s' ∧ X < s'.next ∧ (o = some X ∨ s.next ≤ X) := by
 obtain ⟨⟨cs, h1, h2⟩, h3⟩ := h
 have hone := ht.one
 obtain ⟨v', s', X, happ, hG2, hble, hor⟩ := gx.app RL h1 hw (c := some 1) hb rfl (by simp [hone.1, hone.2]) hl
 have hf : Fw o.toList s s' := by
  rcases hor with ⟨rfl, _, hf⟩ | ⟨rfl, hf⟩
  ·exact hf
  ·exact hf
 have hX : o = some X ∨ s.next ≤ X := by
  rcases hor with ⟨_, h, _⟩ | ⟨h, _⟩
  ·exact .inr (by omega)
  ·exact .inl h
 have hne : ∀ g, g ∈ G ++ G' → g < s.next ∧ o ≠ some g := fun g hg => by
  rcases List.mem_append.1 hg with hg | hg
  ·exact h3 g hg
  ·exact ⟨ht.2 g hg, hG g hg⟩
 have hkb : KB (G ++ G') s s' := KB.fw hf (fun g hg hgo => by
  have := (hne g hg).2
  cases o with
  | none => simp at hgo
  | some Y => simp at hgo; subst hgo; exact this rfl)
 have hXl := hG2.lt (hf.wf hw)
 refine ⟨v', s', X, ?_, ⟨⟨cs ++ [[nm, rw]], ?_, ?_⟩, fun g hg => ⟨Nat.lt_of_lt_of_le (hne g hg).1 hf.next, fun hgX => ?_⟩⟩, hf, hXl, hX⟩
 ·show gK (ff (iz Tryz.prog 23 23 s v (.slice ⟨b, 0, 0⟩ 0 1 (some 1) 2))) = _
  rw [happ]; rfl
 ·rw [List.length_append, List.flatten_append]
  simpa using hG2
 ·refine dS.app (dS.mono (fun _ h4 => ⟨h4.1, (hkb.mono (by simp; intro g hg; exact .inl hg)).trans (h4.2.mono (by simp; intro g hg; exact .inl hg))⟩) h2) ?_
  simp only [dS]
  exact ⟨nm, rw, [], rfl, gY.mono (fun _ h4 => ⟨h4.1, (hkb.mono (by simp; intro g hg; exact .inr hg)).trans (h4.2.mono (by simp; intro g hg; exact .inr hg))⟩) ht.1, rfl⟩
 ·cases hgX
  rcases hX with h5 | h5
  ·exact (hne _ hg).2 h5
  ·have := (hne _ hg).1; omega
theorem TL.ty {G : List Nat} {l : List Ty} {o : Option Nat} {v : V} {s : S} (h : TL K G l o v s) (hw : WF s) {name : List Nat} (hb : Bytes name) (hnl : name.length < 4611686018427387904) (hl : l.length < 4611686018427387904) : MT K (G ++ o.toList) (.mk name l) (.str name) v s := by
 have hlt := h.blk hw
 obtain ⟨⟨cs, h1, h2⟩, h3⟩ := h
 have hlen := h2.len
 refine ⟨?_, hlt⟩
 simp only [gY]
 refine ⟨trivial, hb, hnl, cs, (wA (by rw [hlen]; exact h1) h2.two (by omega)).mono fun _ h4 => h4.2.mono (by simp; intro g hg; exact .inr hg), dS.mono (fun _ h4 => ⟨h4.1, h4.2.mono (by simp; intro g hg; exact .inl hg)⟩) h2⟩
end
end Go.AI.Lx
namespace Go.AI.Lx
open Go.Proofs Go.Proofs.YtkeaedhoaamfnaaGreatDoor
def Jv : List aH := [⟨9, [(0, false), (2, false), (6, false), (9, false), (43, false), (44, false), (45, true)], []⟩]
def Jo : Code := match Tryz.f44.body with | some c => c | none => .skip
def Dx : gX := ⟨au, Tryz.f44, Jv, [(44, ⟨[(2, [0])], false⟩)], [⟨100003, [(0, false), (2, false), (4, false), (6, false), (7, false), (25, true)], []⟩], 1⟩
def Im : aB := aT (.bin .lss 3 false 3 2) 9 (.cond 9 (aT (.indexAddr 23 1 3) 10 (.ask (.load 25 10) true [] 2 (.agg [11, 12]) (.new (.call 44 [0, .agg [11, 12], .ptr ⟨0, 0, 0⟩] [(0, cB 3 [4])] [(0, cB 3 [13])] 3 (.agg [14, 15]) false (.new (.act (.bif .append #[23, 23] [8, .slice ⟨4, 0, 0⟩ 0 1 (some 1) 2]) [(4, cB 25 [14, 15])] 1 16 (aT (.bin .add 3 true 3 (iV 1)) 17 (.back 0 [0, 1, 2, 17, 13, 5, 6, 7, 16] [0, 1, 2])))))))) (.ret (.agg [7, 8]) [(0, cB 3 [4])]))
def rh : aB := .cond 1 (.call 44 [.nilmap, .agg [7, 8], .ptr ⟨0, 0, 0⟩] [(0, cB 3 [2])] [(0, cB 3 [9])] 3 (.agg [10, 11]) false (.ret (.agg [10, 11]) [(0, cB 3 [9])])) (aT (.bin .add 3 true 2 (iV 1)) 9 (aT (.bin .gtr 3 true 9 (iV 2000)) 10 (.cond 10 (.ret (.agg [s0, nS]) [(0, cB 3 [9])]) (.new (aT (.bif .len #[23] [4]) 11 (.loop 0 9 [0, 4, 11, iV 0, 9, 5, 6, 3, nS] [0, 2, 4] [cB 3 [4], cB 25 [5, 6], cB 25 [7, 8]] Im))))))
def Ii : aB := .new (.new (.ask (.lookup 78 0 1 true) true [] 3 (.tuple [.agg [4, 5], 6]) (.new (.cond 6 (aT (.bif .len #[23] [2]) 7 (aT (.bin .eql 3 true 7 (iV 0)) 8 (.cut 9 [0, 8, 3, 1, 2, s0, nS, 4, 5] [0, 1, 2, 3] [cB 3 [2], cB 25 [3, 4], cB 25 [5, 6], cB 25 [7, 8]] rh))) (.cut 9 [0, .bool false, 3, 1, 2, s0, nS, 4, 5] [0, 1, 2, 3] [cB 3 [2], cB 25 [3, 4], cB 25 [5, 6], cB 25 [7, 8]] rh)))))
theorem KI : cb Dx 400 [] [.code Jo] (bi [.atom 0, .agg [.atom 1, .atom 2], .ptr ⟨0, 0, 0⟩] 0 .leaf id) (br ⟨.leaf, 0⟩ [.cells 3 false 1 [⟨0, 0, [.atom 3]⟩]]) 4 = some Ii := by kernel_rfl
def Gt : List aH := [⟨4, [(2, false), (3, false), (5, true)], []⟩]
def FW : Code := match Tryz.f19.body with | some c => c | none => .skip
def yT : gX := ⟨au, Tryz.f19, Gt, [(19, ⟨[], false⟩)], [⟨100002, [(2, false), (3, false), (19, true)], []⟩], 0⟩
def EE : aB := aT (.bif .len #[23] [2]) 5 (aT (.bin .lss 3 false 0 5) 6 (.cond 6 (aF (.indexAddr 23 2 0) 7 (.ask (.load 25 7) false [] 2 (.agg [8, 9]) (aF (.indexAddr 23 4 0) 10 (.ask (.load 25 10) false [] 2 (.agg [11, 12]) (cT 19 [.agg [8, 9], .agg [11, 12]] 13 (aF (.un .not 13) 14 (.cond 14 (rT (.bool false)) (aT (.bin .add 3 true 0 (iV 1)) 15 (.back 0 [15, 1, 2, 3, 4] [0, 1]))))))))) (rT (.bool true))))
def pc : aB := .cond 0 (rT (.bool false)) (.loop 0 5 [iV 0, 1, 2, 3, 4] [0, 1] [cB 25 [1, 2], cB 25 [3, 4]] EE)
def Em : aB := .new (.new (aT (.bin .neq 9 false 0 2) 4 (.cond 4 (.cut 5 [.bool true, 0, 1, 2, 3] [0, 1] [cB 25 [1, 2], cB 25 [3, 4]] pc) (aT (.bif .len #[23] [1]) 5 (aT (.bif .len #[23] [3]) 6 (aT (.bin .neq 3 false 5 6) 7 (.cut 5 [7, 0, 1, 2, 3] [0, 1] [cB 25 [1, 2], cB 25 [3, 4]] pc)))))))
theorem Iv : cb yT 400 [] [.code FW] (bi [.agg [.atom 0, .atom 1], .agg [.atom 2, .atom 3]] 0 .leaf id) (br ⟨.leaf, 0⟩ []) 4 = some Em := by kernel_rfl
def tz : List aH := []
def tq : Code := match Tryz.f25.body with | some c => c | none => .skip
def nN : gX := ⟨au, Tryz.f25, tz, [(19, ⟨[], false⟩), (8, ⟨[], false⟩)], [], 0⟩
def sZ : aB := .new (.new (cT 8 [0, 3] 6 (.cond 6 (cT 19 [.agg [1, 2], .agg [4, 5]] 7 (rT 7)) (rT (.bool false)))))
theorem uE : cb nN 400 [] [.code tq] (bi [.agg [.atom 0, .atom 1, .atom 2], .agg [.atom 3, .atom 4, .atom 5]] 0 .leaf id) (br ⟨.leaf, 0⟩ []) 6 = some sZ := by kernel_rfl
def DN : List aH := [⟨7, [(3, false), (4, false), (6, false), (22, false), (23, false), (24, true)], []⟩]
def Dv : Code := match Tryz.f17.body with | some c => c | none => .skip
def wd : gX := ⟨au, Tryz.f17, DN, [(44, ⟨[(2, [0])], false⟩), (13, ⟨[], false⟩), (43, ⟨[], false⟩)], [⟨100011, [(3, false), (4, false), (6, false), (8, false), (22, false), (23, false), (24, false), (47, true)], []⟩], 0⟩
def km : aB := .cond 4 (rT (.tuple [.agg [s0, nS], iV 1])) (.act (.mapUpd 78 0 9 (.agg [10, 11])) [] 0 (.tuple []) (aT (.bin .add 3 true 3 (iV 1)) 12 (.back 0 [0, 1, 2, 12, 5, 6, 7, 8] [0, 1])))
def BO : aB := .new (.new (cT 13 [.agg [1, 2]] 3 (aT (.bin .eql 3 true 3 (iV 0)) 4 (.cond 4 (rT (.tuple [.agg [s0, nS], iV 32])) (aT (.bif .len #[36] [0]) 5 (aT (.bin .gtr 3 true 5 (iV 2000)) 6 (.cond 6 (rT (.tuple [.agg [s0, nS], iV 1])) (.act .makeMap [] 1 7 (aT (.bif .len #[36] [0]) 8 (.loop 0 8 [7, 0, 8, iV 0, 1, 2, s0, nS] [0, 1] [cB 25 [4, 5], cB 25 [6, 7]] (aT (.bin .lss 3 false 3 2) 8 (.cond 8 (aT (.indexAddr 36 1 3) 9 (.ask (.load 56 9) true [] 3 (.agg [10, 11, 12]) (.new (.ask (.lookup 78 0 10 true) true [] 3 (.tuple [.agg [13, 14], 15]) (.new (.cond 15 (.cut 12 [0, 1, 2, 3, .bool true, 4, 5, 6, 7, 10, 11, 12] [0, 1, 2] [cB 25 [5, 6], cB 25 [7, 8], cB 56 [9, 10, 11]] km) (cT 43 [10] 16 (aT (.un .not 16) 17 (.cond 17 (.cut 12 [0, 1, 2, 3, .bool true, 4, 5, 6, 7, 10, 11, 12] [0, 1, 2] [cB 25 [5, 6], cB 25 [7, 8], cB 56 [9, 10, 11]] km) (cT 13 [.agg [11, 12]] 18 (aT (.bin .eql 3 true 18 (iV 0)) 19 (.cut 12 [0, 1, 2, 3, 19, 4, 5, 6, 7, 10, 11, 12] [0, 1, 2] [cB 25 [5, 6], cB 25 [7, 8], cB 56 [9, 10, 11]] km)))))))))))) (.new (.call 44 [0, .agg [4, 5], .ptr ⟨2, 0, 0⟩] [(2, cB 3 [iV 0])] [(2, cB 3 [9])] 3 (.agg [10, 11]) false (.new (cT 13 [.agg [10, 11]] 12 (aT (.bin .eql 3 true 12 (iV 0)) 13 (.cond 13 (rT (.tuple [.agg [s0, nS], iV 39])) (rT (.tuple [.agg [10, 11], iV 0]))))))))))))))))))))
theorem EU : cb wd 400 [] [.code Dv] (bi [.atom 0, .agg [.atom 1, .atom 2]] 0 .leaf id) (br ⟨.leaf, 0⟩ []) 3 = some BO := by kernel_rfl
end Go.AI.Lx
namespace Go.AI.Lx
open Go.Proofs Go.Proofs.YtkeaedhoaamfnaaGreatDoor
set_option maxRecDepth 10000
mutual
theorem AR : ∀ (t : Ty) (c : Nat), iS [] t c = tp t c
 | .mk name args, c => by
  simp only [iS, tp, bX, ite_self, HO args]
theorem HO : ∀ (l : List Ty) (c : Nat), iF [] l c = mL l c
 | [], c => by simp only [iF, mL]
 | t :: r, c => by simp only [iF, mL, AR t, HO r]
end
theorem CN : ∀ (l : List Ty), l.length ≤ cR l
 | [] => by simp
 | t :: r => by have h1 := CN r; have h2 := nW t; simp only [List.length_cons, cR]; omega
def Lk (mv : V) (m : List (List Nat × Ty)) (K : S → Prop) : Prop := ∀ x, Bytes x → ∃ nm rw : V, nm.one = true ∧ rw.one = true ∧ (∀ t, bX x m = some t → gY K t nm rw) ∧ ∀ s, K s → bZ Tryz.prog s 78 (some mv) (some (.str x)) true = some (.tuple [.agg [nm, rw], .bool (bX x m).isSome])
def Kf (K : S → Prop) (fc n : Nat) : Prop := ∀ F s s', (∀ b ∈ F, b = fc ∨ n ≤ b) → Fw F s s' → K s → K s'
def MM (f : FuncId) (spec : Ty → Nat → Ty × Nat) (mv : V) (K Ko : S → Prop) (fc n N : Nat) : Prop := ∀ (t : Ty) (c : Nat) (nm rw : V) (s : S), cY t ≤ N → cY t ≤ 99999 → gY K t nm rw → WF s → K s → n ≤ s.next → s.get fc = some (xF c) → (spec t c).2 ≤ 4611686018427387903 →
 Cw au f [mv, .agg [nm, rw], .ptr ⟨fc, 0, 0⟩] s fun v s' => ∃ nm' rw' G, v = .agg [nm', rw'] ∧ MT Ko G (spec t c).1 nm' rw' s' ∧ (∀ g ∈ G, s.next ≤ g) ∧ s'.get fc = some (xF (spec t c).2) ∧ Fw [fc] s s'
section
variable {K Ko : S → Prop} {fc n : Nat} {m : List (List Nat × Ty)} {mv : V}
theorem Ct (hK : Kf K fc n) (hlk : Lk mv m K) (hmv : mv.one = true) (hsz : ∀ x t, bX x m = some t → cY t ≤ 99999) (hnil : ∀ x t, bX x m = some t → ∀ N, MM 44 tp .nilmap K Ko fc n N) : ∀ N, MM 44 (iS m) mv K Ko fc n N := by
 intro N
 induction N with
 | zero => intro t c nm rw s h; cases t; simp only [cY] at h; omega
 | succ N ih =>
  intro t c nm rw s hN hs9 hR hw hk hn hg hcl
  have ho := hR.one
  have hfcl : fc < s.next := hw fc _ hg
  refine aL (bb (C := Dx) (e := ⟨[mv, nm, rw, .int .i64 ((c : Nat) : Int)], [fc]⟩) (F := [fc]) (dn rfl rfl rfl) Tryz.func44 rfl (by kernel_rfl) KI rfl ⟨rfl, by simp [aA, ho.1, ho.2, hmv, fD], rfl⟩ rfl hw rfl (by simp) ⟨hg, trivial⟩ ay trivial (by simp) ?_)
  obtain ⟨name, args⟩ := t
  simp only [gY] at hR
  obtain ⟨rfl, hb, hbl, cs, hrow, hts⟩ := hR
  have hlen := hts.len
  have hlt := hrow.lt
  simp only [cY] at hN hs9
  have hkk : ∀ F s1, Fw F s s1 → (∀ b ∈ F, b = fc ∨ s.next ≤ b) → K s1 := fun F s1 h1 hF => hK F s s1 (fun b hb => (hF b hb).imp id (fun h => Nat.le_trans hn h)) h1 hk
  have hkf : ∀ s1, Fw [fc] s s1 → K s1 := fun s1 h1 => hkk [fc] s1 h1 (by simp)
  have key : ∀ (q : Bool) (nm' rw' : V) (b1 b2 b3 : Nat) (L : List ck), nm'.one = true → rw'.one = true → (q = true → ∃ x, (if args.length = 0 then bX name m else none) = some x ∧ gY K x nm' rw' ∧ cY x ≤ 99999 ∧ ∀ N, MM 44 tp .nilmap K Ko fc n N) → (q = false → (if args.length = 0 then bX name m else none) = none) →
   ah au [fc] s (tW fun v s' => ∃ nm' rw' G, v = .agg [nm', rw'] ∧ MT Ko G (iS m (.mk name args) c).1 nm' rw' s' ∧ (∀ g ∈ G, s.next ≤ g) ∧ s'.get fc = some (xF (iS m (.mk name args) c).2) ∧ Fw [fc] s s') rh ⟨[mv, .bool q, .int .i64 ((c : Nat) : Int), .str name, rw, .str [], .nilslice, nm', rw'], [fc, b1, b2, b3]⟩ [] T0 L := by
   intro q nm' rw' b1 b2 b3 L hn1 hr1 hq1 hq2
   refine aI rfl (fun c1 => ?_) (fun c1 => ?_)
   ·obtain ⟨x, hx, hRx, hsx, hp⟩ := hq1 c1
    have hsp : iS m (.mk name args) c = tp x c := by simp only [iS, hx]
    rw [hsp] at hcl
    refine ec fun s1 k1 k2 k3 k4 => ?_
    obtain ⟨v, s2, hcall, nm2, rw2, G, rfl, hM, hG, hc2, hf⟩ := hp (cY x) x c nm' rw' s1 (Nat.le_refl _) hsx hRx k2 (hkf s1 k1) (Nat.le_trans hn k1.next) k4.1 hcl
    have hoM := hM.one
    refine .inl ⟨[.int .i64 (((tp x c).2 : Nat) : Int), nm2, rw2], _, s2, G, MT Ko G (tp x c).1 nm2 rw2, inferInstance, rfl, by simp [aA, hoM.1, hoM.2, fD], hcall, hf.mono (by simp [fk]; rfl), ⟨hc2, trivial⟩, MT.stb, hM, fun g hg => ⟨hM.2 g hg, .inr (hG g hg)⟩, ?_⟩
    exact aE fun s3 h1 h2 h3 h4 => ⟨_, _, rfl, nm2, rw2, G, rfl, by rw [hsp]; exact h3, fun g hg => Nat.le_trans k1.next (hG g hg), by rw [hsp]; exact h4.1, h1⟩
   ·have hx := hq2 c1
    refine ed (r := ((c + 1 : Nat) : Int)) rfl rfl (by rw [show ((c : Nat) : Int) + 1 = ((c + 1 : Nat) : Int) by omega]; exact bJ _ ⟨by omega, by have := OV (m := m) (.mk name args) c; omega⟩) rfl ?_
    refine qw rfl rfl rfl ?_
    refine dA rfl (fun c3 => ?_) (fun c3 => ?_)
    ·have hsp : iS m (.mk name args) c = (.mk [] [], c + 1) := by simp only [iS, hx]; rw [if_pos (by omega)]
     refine aE fun s1 h1 h2 h3 h4 => ⟨_, _, rfl, .str [], .nilslice, [], rfl, ?_, by simp, ?_, h1⟩
     ·rw [hsp]; exact MT.none
     ·rw [hsp]; exact h4.1
    ·have hsp : iS m (.mk name args) c = (.mk name (iF m args (c + 1)).1, (iF m args (c + 1)).2) := by simp only [iS, hx]; rw [if_neg (by omega)]
     rw [hsp] at hcl
     simp only at hcl
     refine bd fun b4 hb4 hd4 => ?_
     refine eL rfl (fun s1 _ _ => hrow.len gz s1) rfl ?_
     refine jP (fun j vs bs D U => ∃ (i c' : Nat) (l2 : List Ty) (o2 : Option Nat) (out2 : V) (G2 : List Nat), i ≤ args.length ∧ j = args.length - i ∧ vs = [mv, rw, .int .i64 ((cs.length : Nat) : Int), .int .i64 ((i : Nat) : Int), .int .i64 ((c' : Nat) : Int), .str [], .nilslice, .str name, out2] ∧ bs = [fc, b2, b4] ∧ D = G2 ++ o2.toList ∧ U = TL Ko G2 l2 o2 out2 ∧ out2.one = true ∧ l2.length = i ∧
      (∀ g ∈ G2 ++ o2.toList, s.next ≤ g) ∧ (iF m args (c + 1)).1 = l2 ++ (iF m (args.drop i) c').1 ∧ (iF m args (c + 1)).2 = (iF m (args.drop i) c').2)
      args.length ⟨0, c + 1, [], none, .nilslice, [], by omega, rfl, rfl, rfl, rfl, funext fun s => propext ⟨fun _ => TL.nil s, fun _ => trivial⟩, rfl, rfl, by simp, by simp, by simp⟩ ay ?_
     rintro j _ _ _ _ ⟨i, c', l2, o2, out2, G2, hi, rfl, rfl, rfl, rfl, rfl, hone2, hl2, hfr, hs1, hs2⟩ - - -
     refine jO rfl rfl rfl ?_
     refine dA rfl (fun c4 => ?_) (fun c4 => ?_)
     ·obtain ⟨t', ht', hdr⟩ := et (show i < args.length by omega)
      rw [hdr] at hs1 hs2
      simp only [iF] at hs1 hs2
      obtain ⟨nm3, rw3, hx3, hR3⟩ := hts.at ht'
      obtain ⟨p3, hp3, hld3⟩ := hrow.at gz fx hx3
      have ho3 := hR3.one
      have hsz3 := lI ht'
      refine aD (.ptr p3) rfl (fun _ _ _ _ _ => hp3) rfl ?_
      refine h_askN [nm3, rw3] (.agg [nm3, rw3]) rfl (by simp [aA, ho3.1, ho3.2]) (fun a b _ _ _ => lm (hld3 a (hkf a b))) rfl ?_
      refine bd fun b5 hb5 hd5 => ?_
      refine ec fun s1 k1 k2 k3 k4 => ?_
      obtain ⟨v, s2, hcall, nm2, rw2, G, rfl, hM, hG, hc2, hf⟩ := ih t' c' nm3 rw3 s1 (by omega) (by omega) hR3 k2 (hkf s1 k1) (Nat.le_trans hn k1.next) k4.1 (by have := Ai (m := m) (args.drop (i + 1)) (iS m t' c').2; omega)
      have hoM := hM.one
      have hblk := k3.blk k2
      have hT2 : TL Ko G2 l2 o2 out2 s2 := k3.keep (KB.fw hf (fun g hgm hgf => by simp at hgf; have := hfr g hgm; omega)) hf.next
      refine .inl ⟨[.int .i64 (((iS m t' c').2 : Nat) : Int), nm2, rw2], _, s2, (G2 ++ o2.toList) ++ G, fun s => TL Ko G2 l2 o2 out2 s ∧ MT Ko G (iS m t' c').1 nm2 rw2 s, inferInstance, rfl, by simp [aA, hoM.1, hoM.2, fD], hcall, hf.mono (by simp [fk]; exact .inl rfl), ⟨hc2, trivial⟩,
       fun a b ⟨h1, h2⟩ hk hn => ⟨h1.keep (fun g hg => hk g (List.mem_append_left _ hg)) hn, h2.keep (fun g hg => hk g (List.mem_append_right _ hg)) hn⟩, ⟨hT2, hM⟩, fun g hg => ?_, ?_⟩
      ·rcases List.mem_append.1 hg with hg | hg
       ·exact ⟨Nat.lt_of_lt_of_le (hblk g hg) hf.next, .inl hg⟩
       ·exact ⟨hM.2 g hg, .inr (hG g hg)⟩
      refine bd fun b6 hb6 hd6 => ?_
      refine jb fun s3 j1 j2 j3 j4 => ?_
      have hoG : ∀ g ∈ G, o2 ≠ some g := fun g hg ho2 => by
       have h1 := hblk g (by simp [ho2])
       have h2 := hG g hg
       omega
      obtain ⟨v', s4, X, hrun, hT4, hf4, hXl, hXo⟩ := j3.1.app j2 (b := b6) j4.1 j3.2 hoG (by have := CN args; omega)
      have hfrX : ∀ g ∈ (G2 ++ G) ++ (some X).toList, s.next ≤ g := fun g hg => by
       simp only [List.mem_append, Option.mem_toList, Option.some.injEq] at hg
       rcases hg with (hg | hg) | hg
       ·exact hfr g (by simp [hg])
       ·exact Nat.le_trans k1.next (hG g hg)
       ·subst hg
        rcases hXo with h | h
        ·exact hfr _ (by simp [h])
        ·exact Nat.le_trans j1.next h
      refine ⟨[v'], _, s4, (G2 ++ G) ++ (some X).toList, TL Ko (G2 ++ G) (l2 ++ [(iS m t' c').1]) (some X) v', inferInstance, rfl, by simp [aA, hT4.one], hrun, hf4.mono (by intro g hg; simp at hg ⊢; simp [hg]), TL.stb, hT4, fun g hg => ⟨hT4.blk (hf4.wf j2) g hg, ?_⟩, ?_⟩
      ·simp only [List.mem_append, Option.mem_toList, Option.some.injEq] at hg ⊢
       rcases hg with (hg | hg) | hg
       ·exact .inl (.inl (.inl hg))
       ·exact .inl (.inr hg)
       ·subst hg
        rcases hXo with h | h
        ·exact .inl (.inl (.inr h))
        ·exact .inr h
      refine ed (r := ((i + 1 : Nat) : Int)) rfl rfl (wI (by omega)) rfl ?_
      refine kT rfl TL.stb ⟨args.length - (i + 1), by omega, i + 1, (iS m t' c').2, l2 ++ [(iS m t' c').1], some X, v', G2 ++ G, by omega, rfl, rfl, rfl, rfl, rfl, hT4.one, by simp [hl2], hfrX, ?_, ?_⟩
      ·rw [hs1, List.append_assoc]; rfl
      ·exact hs2
     ·have : i = args.length := by omega
      subst this
      rw [List.drop_length] at hs1 hs2
      simp only [iF, List.append_nil] at hs1 hs2
      refine aE fun s1 h1 h2 h3 h4 => ⟨_, _, rfl, .str name, out2, G2 ++ o2.toList, rfl, ?_, hfr, ?_, h1⟩
      ·rw [hsp, hs1]
       exact TL.ty h3 h2 hb hbl (by omega)
      ·rw [hsp, hs2]; exact h4.1
  refine bd fun b1 hb1 hd1 => ?_
  refine bd fun b2 hb2 hd2 => ?_
  obtain ⟨nm', rw', hn1, hr1, hRl, hdo⟩ := hlk name hb
  refine h_askN [nm', rw', .bool (bX name m).isSome] (.tuple [.agg [nm', rw'], .bool (bX name m).isSome]) rfl (by simp [aA, hn1, hr1]; rfl) (fun a b _ _ _ => hdo a (hkf a b)) rfl ?_
  refine bd fun b3 hb3 hd3 => ?_
  refine aI rfl (fun c4 => ?_) (fun c4 => ?_)
  ·refine eL rfl (fun s1 _ _ => hrow.len gz s1) rfl ?_
   refine gP rfl rfl rfl ?_
   refine bI (key _ nm' rw' b1 b2 b3 _ hn1 hr1 (fun q => ?_) (fun q => ?_))
   ·have h0 : args.length = 0 := by have := of_decide_eq_true q; omega
    rw [if_pos h0]
    cases hx : bX name m with
    | none => rw [hx] at c4; cases c4
    | some x => exact ⟨x, rfl, hRl x hx, hsz _ _ hx, hnil _ _ hx⟩
   ·rw [if_neg]
    intro h0
    have := of_decide_eq_false q
    omega
  ·refine bI (key false nm' rw' b1 b2 b3 _ hn1 hr1 (fun q => by cases q) (fun q => ?_))
   cases hx : bX name m with
   | none => simp
   | some x => rw [hx] at c4; cases c4
end
theorem OO : Tryz.prog.underlying 36 = some (.slice 56) := by kernel_rfl
theorem xJ : size Tryz.prog 56 = some 3 := by kernel_rfl
theorem JV : fj Tryz.prog 56 = some true := by kernel_rfl
theorem Tr (s : S) (a : Ad) : loadVar Tryz.prog s 56 a = (loadCells s a 3).map .agg := by simp only [loadVar, JV, xJ, Option.bind]
def gi (K : S → Prop) : List (List Nat × Ty) → List (List V) → Prop
 | [], cs => cs = []
 | (x, t) :: r, cs => ∃ nm rw cs', cs = [.str x, nm, rw] :: cs' ∧ Bytes x ∧ x.length < 4611686018427387904 ∧ gY K t nm rw ∧ gi K r cs'
theorem gi.mono {K K' : S → Prop} (h : ∀ s, K' s → K s) : ∀ {l : List (List Nat × Ty)} {cs : List (List V)}, gi K l cs → gi K' l cs
 | [], cs, r => r
 | (x, t) :: l, cs, r => by
  obtain ⟨nm, rw, cs', h1, h2, h3, h4, h5⟩ := r
  exact ⟨nm, rw, cs', h1, h2, h3, h4.mono h, gi.mono h h5⟩
theorem gi.len {K : S → Prop} : ∀ {l : List (List Nat × Ty)} {cs : List (List V)}, gi K l cs → cs.length = l.length
 | [], cs, r => by simp only [gi] at r; simp [r]
 | (x, t) :: l, cs, r => by
  obtain ⟨nm, rw, cs', rfl, h2, h3, h4, h5⟩ := r
  simp [gi.len h5]
theorem gi.at {K : S → Prop} : ∀ {l : List (List Nat × Ty)} {cs : List (List V)} {i : Nat} {x : List Nat} {t : Ty}, gi K l cs → l[i]? = some (x, t) → ∃ nm rw, cs[i]? = some [.str x, nm, rw] ∧ Bytes x ∧ x.length < 4611686018427387904 ∧ gY K t nm rw
 | [], cs, i, x, t, r, h => by simp at h
 | (x', t') :: l, cs, i, x, t, r, h => by
  obtain ⟨nm, rw, cs', rfl, h2, h3, h4, h5⟩ := r
  cases i with
  | zero => simp at h; obtain ⟨rfl, rfl⟩ := h; exact ⟨nm, rw, rfl, h2, h3, h4⟩
  | succ i => simpa using gi.at h5 (by simpa using h)
theorem gi.three {K : S → Prop} : ∀ {l : List (List Nat × Ty)} {cs : List (List V)}, gi K l cs → ∀ x ∈ cs, x.length = 3
 | [], cs, r, x, hx => by simp only [gi] at r; subst r; simp at hx
 | (y, t) :: l, cs, r, x, hx => by
  obtain ⟨nm, rw, cs', rfl, h2, h3, h4, h5⟩ := r
  rcases List.mem_cons.1 hx with rfl | hx
  ·rfl
  ·exact gi.three h5 x hx
theorem gi.app {K : S → Prop} : ∀ {l l' : List (List Nat × Ty)} {cs cs' : List (List V)}, gi K l cs → gi K l' cs' → gi K (l ++ l') (cs ++ cs')
 | [], l', cs, cs', r, r' => by simp only [gi] at r; subst r; exact r'
 | (x, t) :: l, l', cs, cs', r, r' => by
  obtain ⟨nm, rw, c2, rfl, h2, h3, h4, h5⟩ := r
  exact ⟨nm, rw, c2 ++ cs', rfl, h2, h3, h4, gi.app h5 r'⟩
def GF (K : S → Prop) (l : List (List Nat × Ty)) (v : V) : Prop := ∃ cs, jq K 3 v cs ∧ gi K l cs
theorem GF.mono {K K' : S → Prop} (h : ∀ s, K' s → K s) {l : List (List Nat × Ty)} {v : V} (r : GF K l v) : GF K' l v := by
 obtain ⟨cs, h1, h2⟩ := r; exact ⟨cs, h1.mono h, h2.mono h⟩
theorem GF.one {K : S → Prop} {l : List (List Nat × Ty)} {v : V} (r : GF K l v) : v.one = true := by obtain ⟨cs, h1, h2⟩ := r; exact h1.one
theorem GF.lt {K : S → Prop} {l : List (List Nat × Ty)} {v : V} (r : GF K l v) : l.length < 4611686018427387904 := by
 obtain ⟨cs, h1, h2⟩ := r; have := h1.lt; have := h2.len; omega
theorem GF.len {K : S → Prop} {l : List (List Nat × Ty)} {v : V} (r : GF K l v) (s : S) : mK Tryz.prog 36 s v = some (.int .i64 ((l.length : Nat) : Int)) := by
 obtain ⟨cs, h1, h2⟩ := r
 rw [h1.len OO s, h2.len]
theorem GF.at {K : S → Prop} {l : List (List Nat × Ty)} {v : V} (r : GF K l v) {i : Nat} {x : List Nat} {t : Ty} (h : l[i]? = some (x, t)) :
 ∃ p nm rw, bF Tryz.prog 36 (some v) (some i) = some (.ptr p) ∧ (∀ s, K s → loadCells s p 3 = some [.str x, nm, rw]) ∧ Bytes x ∧ x.length < 4611686018427387904 ∧ gY K t nm rw := by
 obtain ⟨cs, h1, h2⟩ := r
 obtain ⟨nm, rw, hx, h3, h4, h5⟩ := h2.at h
 obtain ⟨p, hp, hld⟩ := h1.at OO xJ hx
 exact ⟨p, nm, rw, hp, hld, h3, h4, h5⟩
theorem OR : zi Tryz.prog 36 56 3 := ⟨by kernel_rfl, by kernel_rfl, by kernel_rfl, by kernel_rfl, by kernel_rfl⟩
def BL (K : S → Prop) (l : List (List Nat × Ty)) (o : Option Nat) (v : V) (s : S) : Prop := ∃ cs : List (List V), gx 56 3 s v l.length cs.flatten o ∧ gi K l cs
theorem BL.nil (K : S → Prop) (s : S) : BL K [] none .nilslice s := ⟨[], gx.nil, rfl⟩
theorem BL.one {K : S → Prop} {l : List (List Nat × Ty)} {o : Option Nat} {v : V} {s : S} (h : BL K l o v s) : v.one = true := by obtain ⟨cs, h1, _⟩ := h; exact h1.one
theorem BL.mono {K K' : S → Prop} {l : List (List Nat × Ty)} {o : Option Nat} {v : V} {s : S} (h : BL K l o v s) (hk : ∀ s, K' s → K s) : BL K' l o v s := by obtain ⟨cs, h1, h2⟩ := h; exact ⟨cs, h1, h2.mono hk⟩
theorem BL.keep {K : S → Prop} {l : List (List Nat × Ty)} {o : Option Nat} {v : V} {s s' : S} (h : BL K l o v s) (hk : KB o.toList s s') : BL K l o v s' := by
 obtain ⟨cs, h1, h2⟩ := h; exact ⟨cs, h1.keep (fun X B hX hB => hk X (by simp [hX]) B hB), h2⟩
theorem BL.stb {K : S → Prop} {l : List (List Nat × Ty)} {o : Option Nat} {v : V} : iA o.toList (BL K l o v) := fun _ _ h hk _ => h.keep hk
theorem BL.blk {K : S → Prop} {l : List (List Nat × Ty)} {o : Option Nat} {v : V} {s : S} (h : BL K l o v s) (hw : WF s) : ∀ g ∈ o.toList, g < s.next := fun g hg => by
 obtain ⟨cs, h1, _⟩ := h
 cases o with
 | none => simp at hg
 | some X => simp at hg; subst hg; exact h1.lt hw
theorem BL.app {K : S → Prop} {l : List (List Nat × Ty)} {x : List Nat} {t : Ty} {nm rw : V} {o : Option Nat} {v : V} {s : S} (h : BL K l o v s) (hw : WF s) {b : Nat} (hb : s.get b = some (.cells 56 false 1 [⟨0, 0, [.str x, nm, rw]⟩])) (hx : Bytes x) (hxl : x.length < 4611686018427387904) (ht : gY K t nm rw) (hl : l.length ≤ 999999) :
 ∃ v' s' X, wG.run Tryz.prog s (.bif .append #[36, 36] [v, .slice ⟨b, 0, 0⟩ 0 1 (some 1) 3]) = some (v', s') ∧ BL K (l ++ [(x, t)]) (some X) v' s' ∧ Fw o.toList s s' ∧ X < s'.next ∧ (o = some X ∨ s.next ≤ X) := by
 obtain ⟨cs, h1, h2⟩ := h
 have hone := ht.one
 obtain ⟨v', s', X, happ, hG2, hble, hor⟩ := gx.app OR h1 hw (c := some 1) hb rfl (by simp [hone.1, hone.2, nZ]) hl
 have hf : Fw o.toList s s' := by
  rcases hor with ⟨rfl, _, hf⟩ | ⟨rfl, hf⟩
  ·exact hf
  ·exact hf
 have hX : o = some X ∨ s.next ≤ X := by
  rcases hor with ⟨_, h, _⟩ | ⟨h, _⟩
  ·exact .inr (by omega)
  ·exact .inl h
 refine ⟨v', s', X, ?_, ⟨cs ++ [[.str x, nm, rw]], ?_, gi.app h2 ⟨nm, rw, [], rfl, hx, hxl, ht, rfl⟩⟩, hf, hG2.lt (hf.wf hw), hX⟩
 ·show gK (ff (iz Tryz.prog 36 36 s v (.slice ⟨b, 0, 0⟩ 0 1 (some 1) 3))) = _
  rw [happ]; rfl
 ·rw [List.length_append, List.flatten_append]
  simpa using hG2
theorem BL.rdb {K : S → Prop} {l : List (List Nat × Ty)} {o : Option Nat} {v : V} {s : S} (h : BL K l o v s) (hl : l.length < 4611686018427387904) : GF (fun s' => K s' ∧ KB o.toList s s') l v := by
 obtain ⟨cs, h1, h2⟩ := h
 have hlen := h2.len
 exact ⟨cs, (wA (by rw [hlen]; exact h1) h2.three (by omega)).mono fun _ h => h.2, h2.mono fun _ h => h.1⟩
end Go.AI.Lx
