/- What the functions answer in the evaluator: part 11. No conditions beyond those of the row. -/
import Derived.Test.YtkeaedhoaamfnaaGreatDoorL10
set_option linter.unusedVariables false
set_option linter.unusedSimpArgs false
noncomputable section
namespace Go.AI.Lx
open Go.Proofs Go.Proofs.YtkeaedhoaamfnaaGreatDoor
def Hb : List aA := []
def GC : Code := match Tryz.f20.body with | some c => c | none => .skip
def xO : eK := ⟨aq, Tryz.f20, Hb, [(44, ⟨[(2, [0])], false⟩), (13, ⟨[], false⟩), (35, ⟨[], false⟩)], [], 0⟩
def ED : ax := .new (.new (cT 13 [.agg [0, 1]] 2 (aT (.bin .eql 3 true 2 (iV 0)) 3 (.cond 3 (rT (.tuple [.agg [nS, s0, nS], iV 32])) (.new (cT 35 [.agg [0, 1], nS] 4 (.call 44 [.nilmap, .agg [0, 1], .ptr ⟨2, 0, 0⟩] [(2, cB 3 [iV 0])] [(2, cB 3 [5])] 3 (.agg [6, 7]) false (rT (.tuple [.agg [4, 6, 7], iV 0])))))))))
theorem Iv : bu xO 400 [] [.code GC] (aO [.agg [.atom 0, .atom 1]] 0 .leaf id) (aR ⟨.leaf, 0⟩ []) 2 = some ED := by kernel_rfl
def zp : List aA := []
def zg : Code := match Tryz.f47.body with | some c => c | none => .skip
def rZ : eK := ⟨aq, Tryz.f47, zp, [(35, ⟨[], false⟩)], [], 0⟩
def yx : ax := .new (cT 35 [.agg [1, 2], nS] 3 (aF (.bif .len #[22] [0]) 4 (aF (.bif .len #[22] [3]) 5 (aF (.bin .eql 3 false 4 5) 6 (rT 6)))))
theorem Cf : bu rZ 400 [] [.code zg] (aO [.agg [.atom 0, .atom 1, .atom 2]] 0 .leaf id) (aR ⟨.leaf, 0⟩ []) 3 = some yx := by kernel_rfl
def DR : List aA := []
def Dx : Code := match Tryz.f49.body with | some c => c | none => .skip
def uA : eK := ⟨aq, Tryz.f49, DR, [(16, ⟨[], false⟩), (37, ⟨[], false⟩)], [], 0⟩
def Bz : ax := .new (cT 16 [.agg [0, 1, 2]] 3 (aF (.bin .eql 31 true 3 (iV 0)) 4 (.cond 4 (cT 37 [.agg [1, 2], nS] 5 (aF (.bif .len #[22] [0]) 6 (aF (.bif .len #[22] [5]) 7 (aF (.bin .eql 3 false 6 7) 8 (rT 8))))) (rT (.bool false)))))
theorem Fd : bu uA 400 [] [.code Dx] (aO [.agg [.atom 0, .atom 1, .atom 2]] 0 .leaf id) (aR ⟨.leaf, 0⟩ []) 3 = some Bz := by kernel_rfl
def Ka : List aA := []
def Jw : Code := match Tryz.f72.body with | some c => c | none => .skip
def AO : eK := ⟨aq, Tryz.f72, Ka, [(112, ⟨[], false⟩)], [], 0⟩
def HC : ax := aT (.bin .rem 3 true 0 (iV 26)) 1 (aT (.bin .add 3 true (iV 97) 1) 2 (aT (.conv 3 21 2) 3 (aT (.conv 21 9 3) 4 (aT (.bin .add 9 true (.str [39]) 4) 5 (aT (.bin .geq 3 true 0 (iV 26)) 6 (.cond 6 (aT (.bin .quo 3 true 0 (iV 26)) 7 (cT 112 [7] 8 (aT (.bin .add 9 false 5 8) 9 (rT 9)))) (rT 5)))))))
theorem Mu : bu AO 400 [] [.code Jw] (aO [.atom 0] 0 .leaf id) (aR ⟨.leaf, 0⟩ []) 1 = some HC := by kernel_rfl
def GU : List aA := []
def Gv : Code := match Tryz.f50.body with | some c => c | none => .skip
def xH : eK := ⟨aq, Tryz.f50, GU, [(73, ⟨[], false⟩)], [], 0⟩
def Eu : ax := aT (.bin .rem 3 true 0 (iV 26)) 1 (aT (.bin .add 3 true (iV 97) 1) 2 (aT (.conv 3 21 2) 3 (aT (.conv 21 9 3) 4 (aT (.bin .add 9 true (.str [39]) 4) 5 (aT (.bin .geq 3 true 0 (iV 26)) 6 (.cond 6 (aT (.bin .quo 3 true 0 (iV 26)) 7 (cT 73 [7] 8 (aT (.bin .add 9 false 5 8) 9 (rT 9)))) (rT 5)))))))
theorem Io : bu xH 400 [] [.code Gv] (aO [.atom 0] 0 .leaf id) (aR ⟨.leaf, 0⟩ []) 1 = some Eu := by kernel_rfl
def DH : List aA := [⟨4, [(1, false), (2, false), (3, false), (4, false), (10, false), (11, false), (12, true)], []⟩]
def Dn : Code := match Tryz.f48.body with | some c => c | none => .skip
def uo : eK := ⟨aq, Tryz.f48, DH, [(44, ⟨[(2, [0])], false⟩), (35, ⟨[], false⟩), (72, ⟨[], false⟩)], [⟨999999, [], []⟩], 0⟩
def Bp : ax := .new (.new (.act .makeMap [] 1 2 (.new (cT 35 [.agg [0, 1], nS] 3 (aT (.bif .len #[22] [3]) 4 (.loop 0 12 [2, 3, 4, iV 0, 0, 1, nS, s0, nS, nS, s0, nS] [0, 1, 2] [cB 25 [4, 5], cB 27 [6, 7, 8], cB 27 [9, 10, 11]] (aT (.bin .lss 3 false 3 2) 12 (.cond 12 (aT (.indexAddr 22 1 3) 13 (aT (.load 9 13) 14 (cT 72 [3] 15 (.act (.mapUpd 78 0 14 (.agg [15, nS])) [] 0 (.tuple []) (cT 72 [3] 16 (.new (.act (.bif .append #[22, 22] [9, .slice ⟨3, 0, 0⟩ 0 1 (some 1) 1]) [(3, cB 9 [16])] 1 17 (aT (.bin .add 3 true 3 (iV 1)) 18 (.back 0 [0, 1, 2, 18, 4, 5, 6, 7, 8, 17, 10, 11] [0, 1, 2]))))))))) (.new (.call 44 [0, .agg [4, 5], .ptr ⟨3, 0, 0⟩] [(3, cB 3 [iV 0])] [(3, cB 3 [13])] 3 (.agg [14, 15]) false (rT (.agg [9, 14, 15]))))))))))))
theorem ER : bu uo 400 [] [.code Dn] (aO [.agg [.atom 0, .atom 1]] 0 .leaf id) (aR ⟨.leaf, 0⟩ []) 2 = some Bp := by kernel_rfl
def DJ : List aA := []
def Dp : Code := match Tryz.f21.body with | some c => c | none => .skip
def ur : eK := ⟨aq, Tryz.f21, DJ, [(40, ⟨[], false⟩), (47, ⟨[], false⟩), (48, ⟨[], false⟩)], [], 0⟩
def Br : ax := .new (.new (cT 40 [.agg [0, 1, 2]] 3 (aT (.un .not 3) 4 (.cond 4 (rT (.tuple [.agg [nS, s0, nS], iV 32])) (cT 47 [.agg [0, 1, 2]] 5 (aT (.un .not 5) 6 (.cond 6 (rT (.tuple [.agg [nS, s0, nS], iV 1])) (.call 48 [.agg [1, 2]] [] [] 3 (.agg [7, 8, 9]) false (rT (.tuple [.agg [7, 8, 9], iV 0]))))))))))
theorem ET : bu ur 400 [] [.code Dp] (aO [.agg [.atom 0, .atom 1, .atom 2]] 0 .leaf id) (aR ⟨.leaf, 0⟩ []) 3 = some Br := by kernel_rfl
def DI : List aA := [⟨9, [(1, false), (2, false), (4, false), (5, true), (6, false), (7, true)], []⟩]
def Do : Code := match Tryz.f22.body with | some c => c | none => .skip
def uq : eK := ⟨aq, Tryz.f22, DI, [(46, ⟨[(2, [0])], false⟩), (16, ⟨[], false⟩), (49, ⟨[], false⟩), (37, ⟨[], false⟩), (50, ⟨[], false⟩)], [⟨999999, [], []⟩, ⟨999998, [], []⟩], 0⟩
def Bq : ax := .new (.new (cT 16 [.agg [0, 1, 2]] 3 (aT (.bin .neq 31 true 3 (iV 0)) 4 (.cond 4 (rT (.tuple [.agg [nS, s0, nS], iV 32])) (cT 49 [.agg [0, 1, 2]] 5 (aT (.un .not 5) 6 (.cond 6 (rT (.tuple [.agg [nS, s0, nS], iV 1])) (cT 37 [.agg [1, 2], nS] 7 (.new (.loop 0 12 [7, nS, iV 0, 0, 1, 2, nS, s0, nS, nS, s0, nS] [0, 1, 2] [cB 27 [3, 4, 5], cB 27 [6, 7, 8], cB 27 [9, 10, 11]] (aT (.bif .len #[22] [0]) 12 (aT (.bin .lss 3 false 2 12) 13 (.cond 13 (.callS 50 [2] [] 1 14 (aF (.indexAddr 22 0 2) 15 (aT (.load 9 15) 16 (.new (.act (.bif .append #[36, 36] [1, .slice ⟨3, 0, 0⟩ 0 1 (some 1) 3]) [(3, cB 56 [16, 14, nS])] 1 17 (.callS 50 [2] [] 1 18 (.new (.act (.bif .append #[22, 22] [9, .slice ⟨4, 0, 0⟩ 0 1 (some 1) 1]) [(4, cB 9 [18])] 1 19 (aT (.bin .add 3 true 2 (iV 1)) 20 (.back 0 [0, 17, 20, 3, 4, 5, 6, 7, 8, 19, 10, 11] [0, 1, 2])))))))))) (.new (.call 46 [1, .agg [4, 5], .ptr ⟨3, 0, 0⟩] [(3, cB 3 [iV 0])] [(3, cB 3 [14])] 3 (.agg [15, 16]) false (rT (.tuple [.agg [9, 15, 16], iV 0])))))))))))))))))
theorem ES : bu uq 400 [] [.code Do] (aO [.agg [.atom 0, .atom 1, .atom 2]] 0 .leaf id) (aR ⟨.leaf, 0⟩ []) 3 = some Bq := by kernel_rfl
def Kb : List aA := [⟨3, [(3, false), (5, false), (6, false), (10, true)], []⟩, ⟨12, [(0, false), (3, false), (5, false), (6, false), (11, true), (12, true)], []⟩]
def Jx : Code := match Tryz.f52.body with | some c => c | none => .skip
def AP : eK := ⟨aq, Tryz.f52, Kb, [(67, ⟨[], false⟩), (41, ⟨[], false⟩), (19, ⟨[], false⟩), (52, ⟨[], false⟩)], [⟨100002, [(0, false), (3, false), (5, false), (6, false), (22, true)], []⟩, ⟨100009, [(0, false), (3, false), (5, false), (6, false), (65, true)], []⟩, ⟨999999, [], []⟩], 0⟩
def HV : ax := aT (.bif .len #[36] [0]) 6 (aT (.bin .lss 3 false 1 6) 7 (.cond 7 (aF (.indexAddr 36 0 1) 8 (aF (.fieldAddr 56 8 0) 9 (aT (.load 9 9) 10 (aT (.bin .eql 9 false 10 2) 11 (.cond 11 (aF (.indexAddr 36 0 1) 12 (aF (.fieldAddr 56 12 1) 13 (.ask (.load 25 13) true [] 2 (.agg [14, 15]) (cT 19 [.agg [14, 15], .agg [4, 5]] 16 (rT (.tuple [0, 16])))))) (aT (.bin .add 3 true 1 (iV 1)) 12 (.back 0 [0, 12, 2, 3, 4, 5] [0, 1]))))))) (.new (.act (.bif .append #[36, 36] [0, .slice ⟨2, 0, 0⟩ 0 1 (some 1) 3]) [(2, cB 56 [2, 4, 5])] 1 8 (rT (.tuple [8, .bool true]))))))
def HQ : ax := aT (.bif .len #[23] [5]) 8 (aT (.bin .lss 3 false 3 8) 9 (.cond 9 (aF (.indexAddr 23 5 3) 10 (.ask (.load 25 10) true [] 2 (.agg [11, 12]) (aF (.indexAddr 23 7 3) 13 (.ask (.load 25 13) true [] 2 (.agg [14, 15]) (.call 52 [0, .agg [11, 12], .agg [14, 15], 2] [] [] 2 (.tuple [16, 17]) false (aT (.un .not 17) 18 (.cond 18 (rT (.tuple [1, .bool false])) (aT (.bin .add 3 true 3 (iV 1)) 19 (.back 0 [0, 1, 16, 19, 4, 5, 6, 7] [0, 1]))))))))) (rT (.tuple [2, .bool true]))))
def mn : ax := .cond 2 (rT (.tuple [1, .bool false])) (.loop 0 8 [0, 1, 1, iV 0, 3, 4, 5, 6] [0, 1] [cB 25 [4, 5], cB 25 [6, 7]] HQ)
def qc : ax := .cond 2 (.loop 0 6 [1, iV 0, 3, 4, 5, 6] [0, 1] [cB 25 [2, 3], cB 25 [4, 5]] HV) (aT (.bin .neq 9 false 3 5) 7 (.cond 7 (.cut 7 [0, 1, .bool true, 3, 4, 5, 6] [0, 1] [cB 25 [3, 4], cB 25 [5, 6]] mn) (aT (.bif .len #[23] [4]) 8 (aT (.bif .len #[23] [6]) 9 (aT (.bin .neq 3 false 8 9) 10 (.cut 7 [0, 1, 10, 3, 4, 5, 6] [0, 1] [cB 25 [3, 4], cB 25 [5, 6]] mn))))))
def HD : ax := .new (.new (cT 67 [.agg [1, 2]] 6 (.cond 6 (cT 41 [0, 1] 7 (.cut 7 [0, 5, 7, 1, 2, 3, 4] [0, 1] [cB 25 [3, 4], cB 25 [5, 6]] qc)) (.cut 7 [0, 5, .bool false, 1, 2, 3, 4] [0, 1] [cB 25 [3, 4], cB 25 [5, 6]] qc))))
theorem Mv : bu AP 400 [] [.code Jx] (aO [.atom 0, .agg [.atom 1, .atom 2], .agg [.atom 3, .atom 4], .atom 5] 0 .leaf id) (aR ⟨.leaf, 0⟩ []) 6 = some HD := by kernel_rfl
def GW : List aA := [⟨8, [(2, false), (6, false), (8, true), (9, true)], []⟩, ⟨11, [(2, false), (6, false), (8, true), (9, false), (10, true)], []⟩]
def Gx : Code := match Tryz.f24.body with | some c => c | none => .skip
def xJ : eK := ⟨aq, Tryz.f24, GW, [(16, ⟨[], false⟩), (36, ⟨[], false⟩), (52, ⟨[], false⟩)], [⟨100002, [(2, false), (3, false), (18, true)], []⟩, ⟨12, [(2, false), (6, false), (8, true), (9, false), (10, false)], []⟩, ⟨999999, [], []⟩], 0⟩
def tH : ax := aT (.bin .add 3 true 3 (iV 1)) 7 (.back 1 [0, 1, 2, 7, 4, 5, 6] [0])
def EG : ax := aT (.bif .len #[36] [0]) 7 (aT (.bin .lss 3 false 3 7) 8 (.cond 8 (aF (.indexAddr 36 0 3) 9 (aF (.fieldAddr 56 9 0) 10 (aT (.load 9 10) 11 (aF (.indexAddr 22 4 2) 12 (aT (.load 9 12) 13 (aT (.bin .eql 9 false 11 13) 14 (.cond 14 (aT (.indexAddr 36 0 3) 15 (.ask (.load 56 15) true [] 3 (.agg [16, 17, 18]) (.new (.act (.bif .append #[36, 36] [1, .slice ⟨1, 0, 0⟩ 0 1 (some 1) 3]) [(1, cB 56 [16, 17, 18])] 1 19 (.cut 7 [0, 19, 2, 3, 4, 5, 6] [0] [cB 27 [4, 5, 6]] tH))))) (.cut 7 [0, 1, 2, 3, 4, 5, 6] [0] [cB 27 [4, 5, 6]] tH)))))))) (aT (.bin .add 3 true 2 (iV 1)) 9 (.back 0 [0, 1, 9, 4, 5, 6] [0]))))
def EF : ax := aT (.bif .len #[22] [3]) 6 (aT (.bin .lss 3 false 2 6) 7 (.cond 7 (.loop 1 7 [0, 1, 2, iV 0, 3, 4, 5] [0] [cB 27 [4, 5, 6]] EG) (rT (.tuple [1, .bool true]))))
def nH : ax := .cond 0 (rT (.tuple [nS, .bool false])) (.call 52 [1, .agg [2, 3], .agg [4, 5], nS] [] [] 2 (.tuple [6, 7]) false (aT (.un .not 7) 8 (.cond 8 (rT (.tuple [nS, .bool false])) (.loop 0 6 [6, nS, iV 0, 1, 2, 3] [0] [cB 27 [3, 4, 5]] EF))))
def Ey : ax := .new (.new (cT 16 [.agg [0, 1, 2]] 5 (aT (.bin .neq 31 true 5 (iV 0)) 6 (.cond 6 (.cut 6 [.bool true, 0, 1, 2, 3, 4] [0, 1] [cB 27 [1, 2, 3], cB 25 [4, 5]] nH) (cT 36 [.agg [3, 4]] 7 (aT (.un .not 7) 8 (.cut 6 [8, 0, 1, 2, 3, 4] [0, 1] [cB 27 [1, 2, 3], cB 25 [4, 5]] nH)))))))
theorem Iq : bu xJ 400 [] [.code Gx] (aO [.agg [.atom 0, .atom 1, .atom 2], .agg [.atom 3, .atom 4]] 0 .leaf id) (aR ⟨.leaf, 0⟩ []) 5 = some Ey := by kernel_rfl
def zr : List aA := []
def zi : Code := match Tryz.f29.body with | some c => c | none => .skip
def se : eK := ⟨aq, Tryz.f29, zr, [(49, ⟨[], false⟩), (24, ⟨[], false⟩)], [⟨100002, [(2, false), (3, false), (14, true)], []⟩], 0⟩
def lr : ax := .cond 0 (rT (.bool false)) (.call 24 [.agg [1, 2, 3], .agg [5, 6]] [] [] 2 (.tuple [7, 8]) false (rT 8))
def yz : ax := .new (.new (cT 49 [.agg [0, 1, 2]] 6 (aT (.un .not 6) 7 (.cond 7 (.cut 7 [.bool true, 0, 1, 2, 3, 4, 5] [0, 1] [cB 27 [1, 2, 3], cB 27 [4, 5, 6]] lr) (cT 49 [.agg [3, 4, 5]] 8 (aT (.un .not 8) 9 (.cut 7 [9, 0, 1, 2, 3, 4, 5] [0, 1] [cB 27 [1, 2, 3], cB 27 [4, 5, 6]] lr)))))))
theorem Ch : bu se 400 [] [.code zi] (aO [.agg [.atom 0, .atom 1, .atom 2], .agg [.atom 3, .atom 4, .atom 5]] 0 .leaf id) (aR ⟨.leaf, 0⟩ []) 6 = some yz := by kernel_rfl
def yc : List aA := []
def xA : Code := match Tryz.f27.body with | some c => c | none => .skip
def pR : eK := ⟨aq, Tryz.f27, yc, [(23, ⟨[], false⟩)], [], 0⟩
def vS : ax := .new (.new (.call 23 [.agg [0, 1, 2], .agg [3, 4]] [] [] 2 (.tuple [5, 6]) false (rT 6)))
theorem yH : bu pR 400 [] [.code xA] (aO [.agg [.atom 0, .atom 1, .atom 2], .agg [.atom 3, .atom 4]] 0 .leaf id) (aR ⟨.leaf, 0⟩ []) 5 = some vS := by kernel_rfl
def zt : List aA := []
def zj : Code := match Tryz.f28.body with | some c => c | none => .skip
def sf : eK := ⟨aq, Tryz.f28, zt, [(40, ⟨[], false⟩), (47, ⟨[], false⟩), (27, ⟨[], false⟩)], [], 0⟩
def yA : ax := .new (.new (cT 40 [.agg [0, 1, 2]] 6 (.cond 6 (cT 40 [.agg [3, 4, 5]] 7 (.cond 7 (cT 47 [.agg [0, 1, 2]] 8 (.cond 8 (cT 47 [.agg [3, 4, 5]] 9 (.cond 9 (cT 27 [.agg [0, 1, 2], .agg [4, 5]] 10 (rT 10)) (rT (.bool false)))) (rT (.bool false)))) (rT (.bool false)))) (rT (.bool false)))))
theorem Ci : bu sf 400 [] [.code zj] (aO [.agg [.atom 0, .atom 1, .atom 2], .agg [.atom 3, .atom 4, .atom 5]] 0 .leaf id) (aR ⟨.leaf, 0⟩ []) 6 = some yA := by kernel_rfl
def DM : List aA := [⟨5, [(2, false), (3, false), (6, false), (24, false), (25, false), (26, true)], []⟩, ⟨14, [(9, false), (10, true), (44, false), (45, false), (46, true)], []⟩]
def Ds : Code := match Tryz.f23.body with | some c => c | none => .skip
def uv : eK := ⟨aq, Tryz.f23, DM, [(44, ⟨[(2, [0])], false⟩), (40, ⟨[], false⟩), (13, ⟨[], false⟩), (51, ⟨[], false⟩)], [⟨100002, [(2, false), (3, false), (21, true)], []⟩], 0⟩
def BK : ax := aT (.bin .lss 3 false 4 3) 5 (.cond 5 (aT (.indexAddr 22 2 4) 6 (aT (.load 9 6) 7 (.new (.ask (.lookup 78 0 7 false) true [] 2 (.agg [8, 9]) (.call 44 [.nilmap, .agg [8, 9], .ptr ⟨0, 0, 0⟩] [(0, cB 3 [iV 0])] [(0, cB 3 [10])] 3 (.agg [11, 12]) false (.new (.act (.bif .append #[36, 36] [1, .slice ⟨1, 0, 0⟩ 0 1 (some 1) 3]) [(1, cB 56 [7, 11, 12])] 1 13 (aT (.bin .add 3 true 4 (iV 1)) 14 (.back 0 [0, 13, 2, 3, 14] []))))))))) (rT (.tuple [1, .bool true])))
def BH : ax := aT (.bin .lss 3 false 3 2) 9 (.cond 9 (aT (.indexAddr 22 1 3) 10 (aT (.load 9 10) 11 (aT (.lookup 86 0 11 false) 12 (aT (.bin .add 3 true 12 (iV 1)) 13 (.act (.mapUpd 86 0 11 13) [] 0 (.tuple []) (aT (.bin .add 3 true 3 (iV 1)) 14 (.back 0 [0, 1, 2, 14, 4, 5, 6, 7, 8] [0, 1]))))))) (.act .makeMap [] 1 10 (cT 51 [0, 10, .agg [5, 6], .agg [7, 8]] 11 (aT (.un .not 11) 12 (.cond 12 (rT (.tuple [nS, .bool false])) (aT (.bif .len #[22] [4]) 13 (.loop 0 5 [10, nS, 4, 13, iV 0] [] [] BK)))))))
def mp : ax := .cond 0 (rT (.tuple [nS, .bool false])) (.act .makeMap [] 1 6 (aT (.bif .len #[22] [1]) 7 (.loop 0 9 [6, 1, 7, iV 0, 1, 2, 3, 4, 5] [0, 1] [cB 27 [4, 5, 6], cB 25 [7, 8]] BH)))
def Bu : ax := .new (.new (cT 40 [.agg [0, 1, 2]] 5 (aT (.un .not 5) 6 (.cond 6 (.cut 6 [.bool true, 0, 1, 2, 3, 4] [0, 1] [cB 27 [1, 2, 3], cB 25 [4, 5]] mp) (cT 13 [.agg [3, 4]] 7 (aT (.bin .eql 3 true 7 (iV 0)) 8 (.cut 6 [8, 0, 1, 2, 3, 4] [0, 1] [cB 27 [1, 2, 3], cB 25 [4, 5]] mp)))))))
theorem EX : bu uv 400 [] [.code Ds] (aO [.agg [.atom 0, .atom 1, .atom 2], .agg [.atom 3, .atom 4]] 0 .leaf id) (aR ⟨.leaf, 0⟩ []) 5 = some Bu := by kernel_rfl
def JW : List aA := []
def Js : Code := match Tryz.f74.body with | some c => c | none => .skip
def AK : eK := ⟨aq, Tryz.f74, JW, [(75, ⟨[], false⟩)], [], 0⟩
def Hy : ax := .new (.new (aT (.bin .eql 9 false 0 2) 4 (.cond 4 (cT 75 [1, 3, .func (.func 74) [] []] 5 (rT 5)) (rT (.bool false)))))
theorem Mq : bu AK 400 [] [.code Js] (aO [.agg [.atom 0, .atom 1], .agg [.atom 2, .atom 3]] 0 .leaf id) (aR ⟨.leaf, 0⟩ []) 4 = some Hy := by kernel_rfl
def GX : List aA := []
def Gy : Code := match Tryz.f51.body with | some c => c | none => .skip
def xK : eK := ⟨aq, Tryz.f51, GX, [(74, ⟨[], false⟩), (75, ⟨[], false⟩)], [], 0⟩
def Ez : ax := .new (.new (.new (.new (aT (.lookup 86 0 2 false) 6 (aT (.bin .gtr 3 true 6 (iV 0)) 7 (.cond 7 (.ask (.lookup 78 1 2 true) true [] 3 (.tuple [.agg [8, 9], 10]) (.new (aT (.un .not 10) 11 (.cond 11 (.act (.mapUpd 78 1 2 (.agg [4, 5])) [] 0 (.tuple []) (rT (.bool true))) (cT 74 [.agg [8, 9], .agg [4, 5]] 12 (rT 12)))))) (aT (.bin .eql 9 false 2 4) 8 (.cond 8 (.call 75 [3, 5, .func (.func 76) [] [.ptr ⟨0, 0, 0⟩, .ptr ⟨1, 0, 0⟩]] [(0, cB 86 [0]), (1, cB 78 [1])] [] 1 9 false (rT 9)) (rT (.bool false))))))))))
theorem Ir : bu xK 400 [] [.code Gy] (aO [.atom 0, .atom 1, .agg [.atom 2, .atom 3], .agg [.atom 4, .atom 5]] 0 .leaf id) (aR ⟨.leaf, 0⟩ []) 6 = some Ez := by kernel_rfl
def DN : List aA := []
def Dt : Code := match Tryz.f76.body with | some c => c | none => .skip
def uw : eK := ⟨aq, Tryz.f76, DN, [(51, ⟨[], false⟩)], [], 2⟩
def Bv : ax := .new (.new (cT 51 [4, 5, .agg [0, 1], .agg [2, 3]] 6 (.ret 6 [(0, cB 86 [4]), (1, cB 78 [5])])))
theorem EY : bu uw 400 [] [.code Dt] (aO [.agg [.atom 0, .atom 1], .agg [.atom 2, .atom 3], .ptr ⟨0, 0, 0⟩, .ptr ⟨1, 0, 0⟩] 0 .leaf id) (aR ⟨.leaf, 0⟩ [.cells 86 false 1 [⟨0, 0, [.atom 4]⟩], .cells 78 false 1 [⟨0, 0, [.atom 5]⟩]]) 6 = some Bv := by kernel_rfl
def NF : List aA := [⟨4, [(1, false), (2, false), (15, false), (16, false), (17, true)], []⟩]
def Nu : Code := match Tryz.f75.body with | some c => c | none => .skip
def GI : eK := ⟨aq, Tryz.f75, NF, [], [], 0⟩
def LW : ax := aT (.bif .len #[23] [0]) 3 (aT (.bif .len #[23] [1]) 4 (aT (.bin .neq 3 false 3 4) 5 (.cond 5 (rT (.bool false)) (aT (.bif .len #[23] [0]) 6 (.loop 0 5 [1, 2, 0, 6, iV 0] [] [] (aT (.bin .lss 3 false 4 3) 5 (.cond 5 (aT (.indexAddr 23 2 4) 6 (.ask (.load 25 6) true [] 2 (.agg [7, 8]) (.new (aT (.indexAddr 23 0 4) 9 (.ask (.load 25 9) true [] 2 (.agg [10, 11]) (.new (.calla 1 [.agg [7, 8], .agg [10, 11]] [] 1 12 (aT (.un .not 12) 13 (.cond 13 (rT (.bool false)) (aT (.bin .add 3 true 4 (iV 1)) 14 (.back 0 [0, 1, 2, 3, 14] []))))))))))) (rT (.bool true)))))))))
theorem OL : bu GI 400 [] [.code Nu] (aO [.atom 0, .atom 1, .atom 2] 0 .leaf id) (aR ⟨.leaf, 0⟩ []) 3 = some LW := by kernel_rfl
def sk : List aA := []
def rW : Code := match Tryz.f5.body with | some c => c | none => .skip
def lT : eK := ⟨aq, Tryz.f5, sk, [(7, ⟨[], false⟩), (20, ⟨[], false⟩), (21, ⟨[], false⟩), (22, ⟨[], false⟩), (23, ⟨[], false⟩), (24, ⟨[], false⟩), (25, ⟨[], false⟩), (26, ⟨[], false⟩), (27, ⟨[], false⟩), (28, ⟨[], false⟩), (29, ⟨[], false⟩), (12, ⟨[], false⟩), (10, ⟨[], false⟩)], [⟨100008, [(5, false), (8, false), (9, false), (85, true)], []⟩], 0⟩
def cY : ax := .cond 1 (rT (.bool false)) (cT 12 [.agg [2, 3]] 7 (aT (.bin .neq 31 true 7 (iV 0)) 8 (.cond 8 (aT (.bin .eql 31 true 0 (iV 32)) 9 (.cond 9 (cT 25 [.agg [4, 5, 6], .agg [nS, s0, nS]] 10 (rT 10)) (rT (.bool false)))) (aF (.bin .eql 31 true 0 (iV 0)) 9 (.cond 9 (cT 10 [.agg [2, 3]] 10 (cT 25 [.agg [4, 5, 6], .agg [10, 2, 3]] 11 (rT 11))) (rT (.bool false)))))))
def qW : ax := .new (.new (.new (cT 7 [] 8 (.call 20 [.agg [6, 7]] [] [] 4 (.tuple [.agg [9, 10, 11], 12]) false (.new (.call 21 [.agg [0, 1, 2]] [] [] 4 (.tuple [.agg [13, 14, 15], 16]) false (.new (.call 22 [.agg [0, 1, 2]] [] [] 4 (.tuple [.agg [17, 18, 19], 20]) false (.new (.call 23 [.agg [0, 1, 2], .agg [6, 7]] [] [] 2 (.tuple [21, 22]) false (.call 24 [.agg [0, 1, 2], .agg [6, 7]] [] [] 2 (.tuple [23, 24]) false (aF (.un .not 8) 25 (.cond 25 (.cut 7 [12, .bool true, 6, 7, 9, 10, 11] [2, 3] [cB 25 [2, 3], cB 27 [4, 5, 6]] cY) (aF (.bin .neq 31 false 16 20) 26 (.cond 26 (.cut 7 [12, .bool true, 6, 7, 9, 10, 11] [2, 3] [cB 25 [2, 3], cB 27 [4, 5, 6]] cY) (cT 25 [.agg [13, 14, 15], .agg [17, 18, 19]] 27 (aF (.un .not 27) 28 (.cond 28 (.cut 7 [12, .bool true, 6, 7, 9, 10, 11] [2, 3] [cB 25 [2, 3], cB 27 [4, 5, 6]] cY) (aF (.bin .neq 4 false 22 24) 29 (.cond 29 (.cut 7 [12, .bool true, 6, 7, 9, 10, 11] [2, 3] [cB 25 [2, 3], cB 27 [4, 5, 6]] cY) (cT 26 [21, 23] 30 (aF (.un .not 30) 31 (.cond 31 (.cut 7 [12, .bool true, 6, 7, 9, 10, 11] [2, 3] [cB 25 [2, 3], cB 27 [4, 5, 6]] cY) (cT 27 [.agg [0, 1, 2], .agg [6, 7]] 32 (aF (.bin .neq 4 false 32 24) 33 (.cond 33 (.cut 7 [12, .bool true, 6, 7, 9, 10, 11] [2, 3] [cB 25 [2, 3], cB 27 [4, 5, 6]] cY) (cT 28 [.agg [0, 1, 2], .agg [3, 4, 5]] 34 (cT 29 [.agg [0, 1, 2], .agg [3, 4, 5]] 35 (aF (.bin .neq 4 false 34 35) 36 (.cut 7 [12, 36, 6, 7, 9, 10, 11] [2, 3] [cB 25 [2, 3], cB 27 [4, 5, 6]] cY))))))))))))))))))))))))))))))
theorem sK : bu lT 400 [] [.code rW] (aO [.agg [.atom 0, .atom 1, .atom 2], .agg [.atom 3, .atom 4, .atom 5], .agg [.atom 6, .atom 7]] 0 .leaf id) (aR ⟨.leaf, 0⟩ []) 8 = some qW := by kernel_rfl
end Go.AI.Lx
namespace Go.AI.Lx
open Go.Proofs Go.Proofs.YtkeaedhoaamfnaaGreatDoor
set_option maxRecDepth 10000
def fI (x : List Nat) : List (List Nat × Ty) → Option Ty
 | [] => none
 | (k, v) :: r => if x = k then some v else fI x r
mutual
def sH (m : List (List Nat × Ty)) : Ty → Ty
 | .mk name args => match (if args.length = 0 then fI name m else none) with
  | some x => x
  | none => .mk name (nW m args)
def nW (m : List (List Nat × Ty)) : List Ty → List Ty
 | [] => []
 | t :: r => sH m t :: nW m r
end
mutual
def ze : Ty → Nat → Ty × Nat
 | .mk name args, c => if 2000 < c + 1 then (.mk [] [], c + 1) else (.mk name (qG args (c + 1)).1, (qG args (c + 1)).2)
def qG : List Ty → Nat → List Ty × Nat
 | [], c => ([], c)
 | t :: r, c => ((ze t c).1 :: (qG r (ze t c).2).1, (qG r (ze t c).2).2)
end
mutual
def pm (m : List (List Nat × Ty)) : Ty → Nat → Ty × Nat
 | .mk name args, c => match (if args.length = 0 then fI name m else none) with
  | some x => ze x c
  | none => if 2000 < c + 1 then (.mk [] [], c + 1) else (.mk name (kg m args (c + 1)).1, (kg m args (c + 1)).2)
def kg (m : List (List Nat × Ty)) : List Ty → Nat → List Ty × Nat
 | [], c => ([], c)
 | t :: r, c => ((pm m t c).1 :: (kg m r (pm m t c).2).1, (kg m r (pm m t c).2).2)
end
mutual
def sM (l : List (List Nat × Ty)) : Ty → Nat → Ty × Nat
 | .mk name args, n => if 2000 < n then (.mk [73, 110, 116] [], n) else match (if CN name = true then fI name l else none) with
  | some x => (x, n + um x 2000)
  | none => (.mk name (mN l args (n + 1)).1, (mN l args (n + 1)).2)
def mN (l : List (List Nat × Ty)) : List Ty → Nat → List Ty × Nat
 | [], n => ([], n)
 | t :: r, n => ((sM l t n).1 :: (mN l r (sM l t n).2).1, (mN l r (sM l t n).2).2)
end
theorem vf (t : Ty) : 1 ≤ cq t := by cases t; simp only [cq]; omega
theorem FQ : qN (.mk [] []) = false := by
 have : dI [] 0 = false := by decide +kernel
 simp only [qN, List.length_nil, this, Bool.and_false]
theorem ZS {name : List Nat} {l : List Ty} (h : iM l = false) : qN (.mk name l) = false := by simp only [qN, h, Bool.false_and]
theorem Lt {t : Ty} {l : List Ty} (h : qN t = false) : iM (t :: l) = false := by simp only [iM, h, Bool.false_and]
theorem Ls {t : Ty} {l : List Ty} (h : iM l = false) : iM (t :: l) = false := by simp only [iM, h, Bool.and_false]
mutual
theorem SZ : ∀ (t : Ty) (c : Nat), c ≤ (ze t c).2
 | .mk name args, c => by
  simp only [ze]
  split
  ·simp
  ·have := Jf args (c + 1); simp only; omega
theorem Jf : ∀ (l : List Ty) (c : Nat), c ≤ (qG l c).2
 | [], c => by simp [qG]
 | t :: r, c => by
  simp only [qG]
  exact Nat.le_trans (SZ t c) (Jf r _)
end
mutual
theorem Dl : ∀ (t : Ty) (c : Nat), (c + cq t ≤ 2000 → ze t c = (t, c + cq t)) ∧ (2000 < c + cq t → qN (ze t c).1 = false ∧ 2000 < (ze t c).2)
 | .mk name args, c => by
  simp only [ze, cq]
  have ih := Ly args (c + 1)
  by_cases h : 2000 < c + 1
  ·rw [if_pos h]
   exact ⟨fun hh => by omega, fun _ => ⟨FQ, h⟩⟩
  ·rw [if_neg h]
   refine ⟨fun hh => ?_, fun hh => ?_⟩
   ·rw [ih.1 (by omega)]; simp only [Prod.mk.injEq, true_and]; omega
   ·obtain ⟨h1, h2⟩ := ih.2 (by omega) (by omega)
    exact ⟨ZS h1, h2⟩
theorem Ly : ∀ (l : List Ty) (c : Nat), (c + cG l ≤ 2000 → qG l c = (l, c + cG l)) ∧ (c ≤ 2000 → 2000 < c + cG l → iM (qG l c).1 = false ∧ 2000 < (qG l c).2)
 | [], c => by simp only [qG, cG]; exact ⟨fun _ => rfl, fun h1 h2 => by omega⟩
 | t :: r, c => by
  simp only [qG, cG]
  have h1 := Dl t c
  by_cases hc : c + cq t ≤ 2000
  ·rw [h1.1 hc]
   have h2 := Ly r (c + cq t)
   refine ⟨fun hh => ?_, fun _ hh => ?_⟩
   ·simp only [h2.1 (by omega), Prod.mk.injEq, true_and]; omega
   ·obtain ⟨h3, h4⟩ := h2.2 hc (by omega)
    exact ⟨Ls h3, h4⟩
  ·obtain ⟨h3, h4⟩ := h1.2 (by omega)
   refine ⟨fun hh => by omega, fun _ _ => ⟨Lt h3, ?_⟩⟩
   exact Nat.lt_of_lt_of_le h4 (Jf r _)
end
section
variable {m : List (List Nat × Ty)}
mutual
theorem SM : ∀ (t : Ty) (c : Nat), c ≤ (pm m t c).2
 | .mk name args, c => by
  simp only [pm]
  split
  ·exact SZ _ c
  ·split
   ·simp
   ·have := Cu args (c + 1); simp only; omega
theorem Cu : ∀ (l : List Ty) (c : Nat), c ≤ (kg m l c).2
 | [], c => by simp [kg]
 | t :: r, c => by
  simp only [kg]
  exact Nat.le_trans (SM t c) (Cu r _)
end
mutual
theorem IC : ∀ (t : Ty) (c : Nat), (c + cq (sH m t) ≤ 2000 → pm m t c = (sH m t, c + cq (sH m t))) ∧ (2000 < c + cq (sH m t) → qN (pm m t c).1 = false ∧ 2000 < (pm m t c).2)
 | .mk name args, c => by
  simp only [pm, sH]
  cases hl : (if args.length = 0 then fI name m else none) with
  | some x => exact Dl x c
  | none =>
   simp only [cq]
   have ih := KS args (c + 1)
   by_cases h : 2000 < c + 1
   ·rw [if_pos h]
    exact ⟨fun hh => by omega, fun _ => ⟨FQ, h⟩⟩
   ·rw [if_neg h]
    refine ⟨fun hh => ?_, fun hh => ?_⟩
    ·rw [ih.1 (by omega)]; simp only [Prod.mk.injEq, true_and]; omega
    ·obtain ⟨h1, h2⟩ := ih.2 (by omega) (by omega)
     exact ⟨ZS h1, h2⟩
theorem KS : ∀ (l : List Ty) (c : Nat), (c + cG (nW m l) ≤ 2000 → kg m l c = (nW m l, c + cG (nW m l))) ∧ (c ≤ 2000 → 2000 < c + cG (nW m l) → iM (kg m l c).1 = false ∧ 2000 < (kg m l c).2)
 | [], c => by simp only [kg, cG, nW]; exact ⟨fun _ => rfl, fun h1 h2 => by omega⟩
 | t :: r, c => by
  simp only [kg, cG, nW]
  have h1 := IC t c
  by_cases hc : c + cq (sH m t) ≤ 2000
  ·rw [h1.1 hc]
   have h2 := KS r (c + cq (sH m t))
   refine ⟨fun hh => ?_, fun _ hh => ?_⟩
   ·simp only [h2.1 (by omega), Prod.mk.injEq, true_and]; omega
   ·obtain ⟨h3, h4⟩ := h2.2 hc (by omega)
    exact ⟨Ls h3, h4⟩
  ·obtain ⟨h3, h4⟩ := h1.2 (by omega)
   refine ⟨fun hh => by omega, fun _ _ => ⟨Lt h3, ?_⟩⟩
   exact Nat.lt_of_lt_of_le h4 (Cu r _)
end
mutual
theorem OD {B : Nat} (hB : 1 ≤ B) (h : ∀ x t, fI x m = some t → cq t ≤ B) : ∀ (t : Ty), cq (sH m t) ≤ cq t * B
 | .mk name args => by
  simp only [sH, cq]
  cases hl : (if args.length = 0 then fI name m else none) with
  | some x =>
   simp only
   have hx : cq x ≤ B := by
    split at hl
    ·exact h _ _ hl
    ·cases hl
   exact Nat.le_trans hx (Nat.le_mul_of_pos_left _ (by omega))
  | none =>
   simp only [cq]
   have := OC hB h args
   rw [Nat.succ_mul]; omega
theorem OC {B : Nat} (hB : 1 ≤ B) (h : ∀ x t, fI x m = some t → cq t ≤ B) : ∀ (l : List Ty), cG (nW m l) ≤ cG l * B
 | [] => by simp [nW, cG]
 | t :: r => by
  simp only [nW, cG]
  have h1 := OD hB h t
  have h2 := OC hB h r
  rw [Nat.add_mul]; omega
end
def WY (m : List (List Nat × Ty)) : Prop := ∀ k x, fI k m = some x → bo k = 4 ∧ fR x = true
mutual
theorem Cx (hm : WY m) : ∀ (t : Ty) (n : Nat), qN t = true → (n + cq (sH m t) ≤ 2000 → sM m t n = (sH m t, n + cq (sH m t))) ∧ (2000 < n + cq (sH m t) → 2000 < (sM m t n).2)
 | .mk name args, n, hf => by
  simp only [qN, Bool.and_eq_true] at hf
  obtain ⟨hv1, hv2⟩ := wB hf.2
  have hlk : (if CN name = true then fI name m else none) = (if args.length = 0 then fI name m else none) := by
   by_cases hv : CN name = true
   ·rw [if_pos hv, if_pos (hv2 (hv1.1 hv))]
   ·rw [if_neg hv]
    cases hx : fI name m with
    | none => simp
    | some x => exact absurd (hv1.2 (hm _ _ hx).1) hv
  simp only [sM, sH, hlk]
  cases hl : (if args.length = 0 then fI name m else none) with
  | some x =>
   have hx : fR x = true := by
    split at hl
    ·exact (hm _ _ hl).2
    ·cases hl
   have hs := (bF hx).1
   have hp := vf x
   simp only [JH x 2000 hs]
   by_cases h : 2000 < n
   ·rw [if_pos h]; exact ⟨fun hh => by omega, fun _ => h⟩
   ·rw [if_neg h]; exact ⟨fun _ => rfl, fun hh => hh⟩
  | none =>
   simp only [cq]
   have ih := wv hm args (n + 1) hf.1
   by_cases h : 2000 < n
   ·rw [if_pos h]; exact ⟨fun hh => by omega, fun _ => h⟩
   ·rw [if_neg h]
    refine ⟨fun hh => ?_, fun hh => ih.2 (by omega)⟩
    rw [ih.1 (by omega)]; simp only [Prod.mk.injEq, true_and]; omega
theorem wv (hm : WY m) : ∀ (l : List Ty) (n : Nat), iM l = true → (n + cG (nW m l) ≤ 2000 → mN m l n = (nW m l, n + cG (nW m l))) ∧ (2000 < n + cG (nW m l) → 2000 < (mN m l n).2)
 | [], n, _ => by simp only [mN, cG, nW]; exact ⟨fun _ => rfl, fun h => h⟩
 | t :: r, n, hf => by
  simp only [iM, Bool.and_eq_true] at hf
  simp only [mN, cG, nW]
  have h1 := Cx hm t n hf.1
  by_cases hc : n + cq (sH m t) ≤ 2000
  ·rw [h1.1 hc]
   have h2 := wv hm r (n + cq (sH m t)) hf.2
   refine ⟨fun hh => ?_, fun hh => h2.2 (by omega)⟩
   simp only [h2.1 (by omega), Prod.mk.injEq, true_and]; omega
  ·have h3 := h1.2 (by omega)
   exact ⟨fun hh => by omega, fun _ => (wv hm r (sM m t n).2 hf.2).2 (by omega)⟩
end
theorem put_same (hm : WY m) {t : Ty} (hf : qN t = true) : (fR (pm m t 0).1 = true ↔ (sM m t 0).2 ≤ 2000 ∧ fR (sM m t 0).1 = true) ∧ (fR (pm m t 0).1 = true → (sM m t 0).1 = (pm m t 0).1) := by
 have h1 := IC (m := m) t 0
 have h2 := Cx hm t 0 hf
 by_cases h : 0 + cq (sH m t) ≤ 2000
 ·rw [h1.1 h, h2.1 h]
  exact ⟨⟨fun hh => ⟨h, hh⟩, fun hh => hh.2⟩, fun _ => rfl⟩
 ·have h3 := (h1.2 (by omega)).1
  have h4 := h2.2 (by omega)
  have h5 : ¬ fR (pm m t 0).1 = true := fun hh => by
   have := (bF hh).2.2
   rw [h3] at this; cases this
  exact ⟨⟨fun hh => absurd hh h5, fun hh => by omega⟩, fun hh => absurd hh h5⟩
end
def KB (G : List Nat) (s s' : S) : Prop := ∀ g ∈ G, ∀ B, s.get g = some B → s'.get g = some B
theorem KB.refl (G : List Nat) (s : S) : KB G s s := fun _ _ _ h => h
theorem KB.trans {G : List Nat} {a b c : S} (h : KB G a b) (k : KB G b c) : KB G a c := fun g hg B hB => k g hg B (h g hg B hB)
theorem KB.mono {G G' : List Nat} {a b : S} (hs : ∀ g ∈ G, g ∈ G') (h : KB G' a b) : KB G a b := fun g hg B hB => h g (hs g hg) B hB
theorem KB.fw {F G : List Nat} {a b : S} (h : Fw F a b) (hs : ∀ g ∈ G, g ∉ F) : KB G a b := fun g hg B hB => h.keep g B (hs g hg) hB
def MT (K : S → Prop) (G : List Nat) (t : Ty) (nm rw : V) (s : S) : Prop := ff (fun s' => K s' ∧ KB G s s') t nm rw ∧ ∀ g ∈ G, g < s.next
section
variable {K : S → Prop}
theorem MT.keep {G : List Nat} {t : Ty} {nm rw : V} {s s' : S} (h : MT K G t nm rw s) (hk : KB G s s') (hn : s.next ≤ s'.next) : MT K G t nm rw s' :=
 ⟨ff.mono (fun _ h2 => ⟨h2.1, hk.trans h2.2⟩) h.1, fun g hg => Nat.lt_of_lt_of_le (h.2 g hg) hn⟩
theorem MT.stb {G : List Nat} {t : Ty} {nm rw : V} : kz G (MT K G t nm rw) := fun _ _ h hk hn => h.keep hk hn
theorem MT.still {G : List Nat} {t : Ty} {nm rw : V} : ep (MT K G t nm rw) := fun _ _ hf h => h.keep (KB.fw hf (by simp)) hf.next
theorem MT.one {G : List Nat} {t : Ty} {nm rw : V} {s : S} (h : MT K G t nm rw s) : nm.one = true ∧ rw.one = true := h.1.one
theorem MT.of {t : Ty} {nm rw : V} {s : S} (h : ff K t nm rw) : MT K [] t nm rw s := ⟨ff.mono (fun _ h2 => h2.1) h, by simp⟩
theorem MT.none {s : S} : MT K [] (.mk [] []) (.str []) .nilslice s := ⟨by simp only [ff]; exact ⟨trivial, fun z hz => by simp at hz, by simp, [], .nil, by simp only [ea]⟩, by simp⟩
end
theorem sA {sz : Nat} : ∀ {cs : List (List V)} {i : Nat} {x : List V}, (∀ x ∈ cs, x.length = sz) → cs[i]? = some x → aW sz (cs.flatten.drop (i * sz)) = some x
 | [], i, x, _, h => by simp at h
 | c :: r, 0, x, hs, h => by
  simp at h; subst h
  have hc := hs c (by simp)
  have : ∀ (l m : List V), aW l.length (l ++ m) = some l := by
   intro l m
   induction l with
   | nil => rfl
   | cons a l ih => simp only [List.length_cons, List.cons_append, aW, ih, Option.map]
  rw [Nat.zero_mul, List.drop_zero, List.flatten_cons, ← hc]
  exact this c _
 | c :: r, i + 1, x, hs, h => by
  have hc := hs c (by simp)
  have ih := sA (cs := r) (i := i) (x := x) (fun y hy => hs y (List.mem_cons_of_mem _ hy)) (by simpa using h)
  rw [List.flatten_cons, Nat.succ_mul, Nat.add_comm (i * sz) sz, ← List.drop_drop, List.drop_left' hc]
  exact ih
theorem ym {e sz : Nat} {s : S} {v : V} {cs : List (List V)} {o : Option Nat} (h : gQ e sz s v cs.length cs.flatten o) (hs : ∀ x ∈ cs, x.length = sz) (hn : cs.length < 4611686018427387904) : jO (KB o.toList s) sz v cs := by
 generalize hl : cs.length = n at h
 generalize hc : cs.flatten = fs at h
 cases h with
 | nil =>
  have : cs = [] := List.eq_nil_of_length_eq_zero hl
  subst this; exact .nil
 | row X nv rest n fs h1 h2 h3 =>
  refine .row _ _ _ _ hl.symm (by omega) fun i x hx s' hk => ?_
  have h1' := hk X (by simp) _ h1
  have hv : bw (⟨nv, 0, fs⟩ :: rest) nv = some ⟨nv, 0, fs⟩ := by simp only [bw, Nat.beq_refl, cond_true]
  simp only [loadCells, dZ, h1', hv, GO, cond_true, Nat.sub_zero, Nat.zero_add]
  rw [← hc]
  exact sA hs hx
theorem ea.two {K : S → Prop} : ∀ {l : List Ty} {cs : List (List V)}, ea K l cs → ∀ x ∈ cs, x.length = 2
 | [], cs, r, x, hx => by simp only [ea] at r; subst r; simp at hx
 | t :: l, cs, r, x, hx => by
  simp only [ea] at r
  obtain ⟨nm, rw, cs', rfl, h2, h3⟩ := r
  rcases List.mem_cons.1 hx with rfl | hx
  ·rfl
  ·exact ea.two h3 x hx
theorem ea.app {K : S → Prop} : ∀ {l l' : List Ty} {cs cs' : List (List V)}, ea K l cs → ea K l' cs' → ea K (l ++ l') (cs ++ cs')
 | [], l', cs, cs', r, r' => by simp only [ea] at r; subst r; exact r'
 | t :: l, l', cs, cs', r, r' => by
  simp only [ea] at r
  obtain ⟨nm, rw, c2, rfl, h2, h3⟩ := r
  simp only [List.cons_append, ea]
  exact ⟨nm, rw, c2 ++ cs', rfl, h2, ea.app h3 r'⟩
theorem VG : Bd Tryz.prog 23 25 2 := ⟨by kernel_rfl, by kernel_rfl, by kernel_rfl, by kernel_rfl, by kernel_rfl⟩
structure TL (K : S → Prop) (G : List Nat) (l : List Ty) (o : Option Nat) (v : V) (s : S) : Prop where
 row : ∃ cs : List (List V), gQ 25 2 s v l.length cs.flatten o ∧ ea (fun s' => K s' ∧ KB G s s') l cs
 lt : ∀ g ∈ G, g < s.next ∧ o ≠ some g
section
variable {K : S → Prop}
theorem TL.one {G : List Nat} {l : List Ty} {o : Option Nat} {v : V} {s : S} (h : TL K G l o v s) : v.one = true := by
 obtain ⟨⟨cs, h1, _⟩, _⟩ := h; exact h1.one
theorem TL.nil (s : S) : TL K [] [] none .nilslice s := ⟨⟨[], gQ.nil, by simp only [ea]⟩, by simp⟩
theorem TL.keep {G : List Nat} {l : List Ty} {o : Option Nat} {v : V} {s s' : S} (h : TL K G l o v s) (hk : KB (G ++ o.toList) s s') (hn : s.next ≤ s'.next) : TL K G l o v s' := by
 obtain ⟨⟨cs, h1, h2⟩, h3⟩ := h
 exact ⟨⟨cs, h1.keep (fun X B hX hB => hk X (by simp [hX]) B hB), ea.mono (fun _ h4 => ⟨h4.1, (hk.mono (by simp; intro g hg; exact .inl hg)).trans h4.2⟩) h2⟩, fun g hg => ⟨Nat.lt_of_lt_of_le (h3 g hg).1 hn, (h3 g hg).2⟩⟩
theorem TL.stb {G : List Nat} {l : List Ty} {o : Option Nat} {v : V} : kz (G ++ o.toList) (TL K G l o v) := fun _ _ h hk hn => h.keep hk hn
theorem TL.blk {G : List Nat} {l : List Ty} {o : Option Nat} {v : V} {s : S} (h : TL K G l o v s) (hw : WF s) : ∀ g ∈ G ++ o.toList, g < s.next := fun g hg => by
 obtain ⟨⟨cs, h1, _⟩, h3⟩ := h
 rcases List.mem_append.1 hg with hg | hg
 ·exact (h3 g hg).1
 ·cases o with
  | none => simp at hg
  | some X => simp at hg; subst hg; exact h1.lt hw
theorem TL.app {G G' : List Nat} {l : List Ty} {t : Ty} {nm rw : V} {o : Option Nat} {v : V} {s : S} (h : TL K G l o v s) (hw : WF s) {b : Nat} (hb : s.get b = some (.cells 25 false 1 [⟨0, 0, [nm, rw]⟩])) (ht : MT K G' t nm rw s) (hG : ∀ g ∈ G', o ≠ some g) (hl : l.length ≤ 999999) :
 ∃ v' s' X, yp.run Tryz.prog s (.bif .append #[23, 23] [v, .slice ⟨b, 0, 0⟩ 0 1 (some 1) 2]) = some (v', s') ∧ TL K (G ++ G') (l ++ [t]) (some X) v' s' ∧ Fw o.toList s s' ∧ X < s'.next ∧ (o = some X ∨ s.next ≤ X) := by
 obtain ⟨⟨cs, h1, h2⟩, h3⟩ := h
 have hone := ht.one
 obtain ⟨v', s', X, happ, hG2, hble, hor⟩ := gQ.app VG h1 hw (c := some 1) hb rfl (by simp [hone.1, hone.2]) hl
 have hf : Fw o.toList s s' := by
  rcases hor with ⟨rfl, _, hf⟩ | ⟨rfl, hf⟩
  ·exact hf
  ·exact hf
 have hX : o = some X ∨ s.next ≤ X := by
  rcases hor with ⟨_, h, _⟩ | ⟨h, _⟩
  ·exact .inr (by omega)
  ·exact .inl h
 have hne : ∀ g, g ∈ G ++ G' → g < s.next ∧ o ≠ some g := fun g hg => by
  rcases List.mem_append.1 hg with hg | hg
  ·exact h3 g hg
  ·exact ⟨ht.2 g hg, hG g hg⟩
 have hkb : KB (G ++ G') s s' := KB.fw hf (fun g hg hgo => by
  have := (hne g hg).2
  cases o with
  | none => simp at hgo
  | some Y => simp at hgo; subst hgo; exact this rfl)
 have hXl := hG2.lt (hf.wf hw)
 refine ⟨v', s', X, ?_, ⟨⟨cs ++ [[nm, rw]], ?_, ?_⟩, fun g hg => ⟨Nat.lt_of_lt_of_le (hne g hg).1 hf.next, fun hgX => ?_⟩⟩, hf, hXl, hX⟩
 ·show io (fF (iZ Tryz.prog 23 23 s v (.slice ⟨b, 0, 0⟩ 0 1 (some 1) 2))) = _
  rw [happ]; rfl
 ·rw [List.length_append, List.flatten_append]
  simpa using hG2
 ·refine ea.app (ea.mono (fun _ h4 => ⟨h4.1, (hkb.mono (by simp; intro g hg; exact .inl hg)).trans (h4.2.mono (by simp; intro g hg; exact .inl hg))⟩) h2) ?_
  simp only [ea]
  exact ⟨nm, rw, [], rfl, ff.mono (fun _ h4 => ⟨h4.1, (hkb.mono (by simp; intro g hg; exact .inr hg)).trans (h4.2.mono (by simp; intro g hg; exact .inr hg))⟩) ht.1, rfl⟩
 ·cases hgX
  rcases hX with h5 | h5
  ·exact (hne _ hg).2 h5
  ·have := (hne _ hg).1; omega
theorem TL.ty {G : List Nat} {l : List Ty} {o : Option Nat} {v : V} {s : S} (h : TL K G l o v s) (hw : WF s) {name : List Nat} (hb : Bytes name) (hnl : name.length < 4611686018427387904) (hl : l.length < 4611686018427387904) : MT K (G ++ o.toList) (.mk name l) (.str name) v s := by
 have hlt := h.blk hw
 obtain ⟨⟨cs, h1, h2⟩, h3⟩ := h
 have hlen := h2.len
 refine ⟨?_, hlt⟩
 simp only [ff]
 refine ⟨trivial, hb, hnl, cs, (ym (by rw [hlen]; exact h1) h2.two (by omega)).mono fun _ h4 => h4.2.mono (by simp; intro g hg; exact .inr hg), ea.mono (fun _ h4 => ⟨h4.1, h4.2.mono (by simp; intro g hg; exact .inl hg)⟩) h2⟩
end
end Go.AI.Lx
namespace Go.AI.Lx
open Go.Proofs Go.Proofs.YtkeaedhoaamfnaaGreatDoor
def NC : List aA := [⟨9, [(0, false), (2, false), (6, false), (9, false), (43, false), (44, false), (45, true)], []⟩]
def Nr : Code := match Tryz.f44.body with | some c => c | none => .skip
def GF : eK := ⟨aq, Tryz.f44, NC, [(44, ⟨[(2, [0])], false⟩)], [⟨100003, [(0, false), (2, false), (4, false), (6, false), (7, false), (25, true)], []⟩], 1⟩
def Mb : ax := aT (.bin .lss 3 false 3 2) 9 (.cond 9 (aT (.indexAddr 23 1 3) 10 (.ask (.load 25 10) true [] 2 (.agg [11, 12]) (.new (.call 44 [0, .agg [11, 12], .ptr ⟨0, 0, 0⟩] [(0, cB 3 [4])] [(0, cB 3 [13])] 3 (.agg [14, 15]) false (.new (.act (.bif .append #[23, 23] [8, .slice ⟨4, 0, 0⟩ 0 1 (some 1) 2]) [(4, cB 25 [14, 15])] 1 16 (aT (.bin .add 3 true 3 (iV 1)) 17 (.back 0 [0, 1, 2, 17, 13, 5, 6, 7, 16] [0, 1, 2])))))))) (.ret (.agg [7, 8]) [(0, cB 3 [4])]))
def sE : ax := .cond 1 (.call 44 [.nilmap, .agg [7, 8], .ptr ⟨0, 0, 0⟩] [(0, cB 3 [2])] [(0, cB 3 [9])] 3 (.agg [10, 11]) false (.ret (.agg [10, 11]) [(0, cB 3 [9])])) (aT (.bin .add 3 true 2 (iV 1)) 9 (aT (.bin .gtr 3 true 9 (iV 2000)) 10 (.cond 10 (.ret (.agg [s0, nS]) [(0, cB 3 [9])]) (.new (aT (.bif .len #[23] [4]) 11 (.loop 0 9 [0, 4, 11, iV 0, 9, 5, 6, 3, nS] [0, 2, 4] [cB 3 [4], cB 25 [5, 6], cB 25 [7, 8]] Mb))))))
def LU : ax := .new (.new (.ask (.lookup 78 0 1 true) true [] 3 (.tuple [.agg [4, 5], 6]) (.new (.cond 6 (aT (.bif .len #[23] [2]) 7 (aT (.bin .eql 3 true 7 (iV 0)) 8 (.cut 9 [0, 8, 3, 1, 2, s0, nS, 4, 5] [0, 1, 2, 3] [cB 3 [2], cB 25 [3, 4], cB 25 [5, 6], cB 25 [7, 8]] sE))) (.cut 9 [0, .bool false, 3, 1, 2, s0, nS, 4, 5] [0, 1, 2, 3] [cB 3 [2], cB 25 [3, 4], cB 25 [5, 6], cB 25 [7, 8]] sE)))))
theorem OI : bu GF 400 [] [.code Nr] (aO [.atom 0, .agg [.atom 1, .atom 2], .ptr ⟨0, 0, 0⟩] 0 .leaf id) (aR ⟨.leaf, 0⟩ [.cells 3 false 1 [⟨0, 0, [.atom 3]⟩]]) 4 = some LU := by kernel_rfl
def NB : List aA := [⟨5, [(0, false), (2, false), (4, false), (6, false), (7, true)], []⟩, ⟨13, [(0, false), (2, false), (4, false), (6, false), (8, false), (9, true)], []⟩]
def Nq : Code := match Tryz.f46.body with | some c => c | none => .skip
def GE : eK := ⟨aq, Tryz.f46, NB, [(46, ⟨[(2, [0])], false⟩), (39, ⟨[], false⟩), (67, ⟨[], false⟩)], [⟨10, [(0, false), (2, false), (4, false), (6, false)], []⟩], 1⟩
def Ma : ax := aT (.bif .len #[23] [4]) 9 (aT (.bin .lss 3 false 1 9) 10 (.cond 10 (aF (.indexAddr 23 4 1) 11 (.ask (.load 25 11) false [] 2 (.agg [12, 13]) (.call 46 [0, .agg [12, 13], .ptr ⟨0, 0, 0⟩] [(0, cB 3 [2])] [(0, cB 3 [14])] 3 (.agg [15, 16]) false (.new (.act (.bif .append #[23, 23] [8, .slice ⟨4, 0, 0⟩ 0 1 (some 1) 2]) [(4, cB 25 [15, 16])] 1 17 (aT (.bin .add 3 true 1 (iV 1)) 18 (.back 0 [0, 18, 14, 3, 4, 5, 6, 7, 17] [0, 1, 2, 3]))))))) (.ret (.agg [7, 8]) [(0, cB 3 [2])])))
def sD : ax := aT (.bin .add 3 true 1 (iV 1)) 6 (.new (.loop 0 9 [0, iV 0, 6, 2, 3, 4, 5, 2, nS] [0, 1, 2, 3] [cB 3 [2], cB 25 [3, 4], cB 25 [5, 6], cB 25 [7, 8]] Ma))
def LT : ax := .new (.new (aT (.bin .gtr 3 true 3 (iV 2000)) 4 (.cond 4 (.ret (.agg [.str [73, 110, 116], nS]) [(0, cB 3 [3])]) (cT 67 [.agg [1, 2]] 5 (.cond 5 (.loop 0 7 [0, iV 0, 3, 1, 2, s0, nS] [0, 1, 2] [cB 3 [2], cB 25 [3, 4], cB 25 [5, 6]] (aT (.bif .len #[36] [0]) 7 (aT (.bin .lss 3 false 1 7) 8 (.cond 8 (aF (.indexAddr 36 0 1) 9 (aF (.fieldAddr 56 9 0) 10 (aF (.load 9 10) 11 (aF (.bin .eql 9 false 11 3) 12 (.cond 12 (aF (.indexAddr 36 0 1) 13 (aF (.fieldAddr 56 13 1) 14 (.ask (.load 25 14) false [] 2 (.agg [15, 16]) (cT 39 [.agg [15, 16], iV 2000] 17 (aF (.bin .add 3 false 2 17) 18 (aT (.indexAddr 36 0 1) 19 (aT (.fieldAddr 56 19 1) 20 (.ask (.load 25 20) true [] 2 (.agg [21, 22]) (.ret (.agg [21, 22]) [(0, cB 3 [18])]))))))))) (aT (.bin .add 3 true 1 (iV 1)) 13 (.back 0 [0, 13, 2, 3, 4, 5, 6] [0, 1, 2]))))))) (.cut 6 [0, 2, 3, 4, 5, 6] [0, 1, 2] [cB 3 [1], cB 25 [2, 3], cB 25 [4, 5]] sD))))) (.cut 6 [0, 3, 1, 2, s0, nS] [0, 1, 2] [cB 3 [1], cB 25 [2, 3], cB 25 [4, 5]] sD))))))
theorem OH : bu GE 400 [] [.code Nq] (aO [.atom 0, .agg [.atom 1, .atom 2], .ptr ⟨0, 0, 0⟩] 0 .leaf id) (aR ⟨.leaf, 0⟩ [.cells 3 false 1 [⟨0, 0, [.atom 3]⟩]]) 4 = some LT := by kernel_rfl
def JV : List aA := [⟨4, [(2, false), (3, false), (5, true)], []⟩]
def Jq : Code := match Tryz.f19.body with | some c => c | none => .skip
def AJ : eK := ⟨aq, Tryz.f19, JV, [(19, ⟨[], false⟩)], [⟨100002, [(2, false), (3, false), (19, true)], []⟩], 0⟩
def HU : ax := aT (.bif .len #[23] [2]) 5 (aT (.bin .lss 3 false 0 5) 6 (.cond 6 (aF (.indexAddr 23 2 0) 7 (.ask (.load 25 7) false [] 2 (.agg [8, 9]) (aF (.indexAddr 23 4 0) 10 (.ask (.load 25 10) false [] 2 (.agg [11, 12]) (cT 19 [.agg [8, 9], .agg [11, 12]] 13 (aF (.un .not 13) 14 (.cond 14 (rT (.bool false)) (aT (.bin .add 3 true 0 (iV 1)) 15 (.back 0 [15, 1, 2, 3, 4] [0, 1]))))))))) (rT (.bool true))))
def qf : ax := .cond 0 (rT (.bool false)) (.loop 0 5 [iV 0, 1, 2, 3, 4] [0, 1] [cB 25 [1, 2], cB 25 [3, 4]] HU)
def Hx : ax := .new (.new (aT (.bin .neq 9 false 0 2) 4 (.cond 4 (.cut 5 [.bool true, 0, 1, 2, 3] [0, 1] [cB 25 [1, 2], cB 25 [3, 4]] qf) (aT (.bif .len #[23] [1]) 5 (aT (.bif .len #[23] [3]) 6 (aT (.bin .neq 3 false 5 6) 7 (.cut 5 [7, 0, 1, 2, 3] [0, 1] [cB 25 [1, 2], cB 25 [3, 4]] qf)))))))
theorem Mp : bu AJ 400 [] [.code Jq] (aO [.agg [.atom 0, .atom 1], .agg [.atom 2, .atom 3]] 0 .leaf id) (aR ⟨.leaf, 0⟩ []) 4 = some Hx := by kernel_rfl
def yb : List aA := [⟨4, [(0, false), (1, false), (5, true)], []⟩]
def xz : Code := match Tryz.f26.body with | some c => c | none => .skip
def pQ : eK := ⟨aq, Tryz.f26, yb, [(19, ⟨[], false⟩)], [⟨100007, [(0, false), (1, false), (5, false), (41, true)], []⟩], 0⟩
def jZ : ax := .cond 3 (rT (.bool false)) (aT (.bin .add 3 true 2 (iV 1)) 4 (.back 0 [0, 1, 4] []))
def vR : ax := aT (.bif .len #[36] [0]) 2 (aT (.bif .len #[36] [1]) 3 (aT (.bin .neq 3 false 2 3) 4 (.cond 4 (rT (.bool false)) (.loop 0 3 [0, 1, iV 0] [] [] (aT (.bif .len #[36] [0]) 3 (aT (.bin .lss 3 false 2 3) 4 (.cond 4 (aF (.indexAddr 36 0 2) 5 (aF (.fieldAddr 56 5 0) 6 (aF (.load 9 6) 7 (aF (.indexAddr 36 1 2) 8 (aF (.fieldAddr 56 8 0) 9 (aF (.load 9 9) 10 (aF (.bin .neq 9 false 7 10) 11 (.cond 11 (.cut 4 [0, 1, 2, .bool true] [] [] jZ) (aF (.indexAddr 36 0 2) 12 (aF (.fieldAddr 56 12 1) 13 (.ask (.load 25 13) false [] 2 (.agg [14, 15]) (aF (.indexAddr 36 1 2) 16 (aF (.fieldAddr 56 16 1) 17 (.ask (.load 25 17) false [] 2 (.agg [18, 19]) (cT 19 [.agg [14, 15], .agg [18, 19]] 20 (aF (.un .not 20) 21 (.cut 4 [0, 1, 2, 21] [] [] jZ))))))))))))))))) (rT (.bool true)))))))))
theorem yG : bu pQ 400 [] [.code xz] (aO [.atom 0, .atom 1] 0 .leaf id) (aR ⟨.leaf, 0⟩ []) 2 = some vR := by kernel_rfl
def uY : List aA := []
def uU : Code := match Tryz.f25.body with | some c => c | none => .skip
def oH : eK := ⟨aq, Tryz.f25, uY, [(19, ⟨[], false⟩), (8, ⟨[], false⟩)], [], 0⟩
def uH : ax := .new (.new (cT 8 [0, 3] 6 (.cond 6 (cT 19 [.agg [1, 2], .agg [4, 5]] 7 (rT 7)) (rT (.bool false)))))
theorem wm : bu oH 400 [] [.code uU] (aO [.agg [.atom 0, .atom 1, .atom 2], .agg [.atom 3, .atom 4, .atom 5]] 0 .leaf id) (aR ⟨.leaf, 0⟩ []) 6 = some uH := by kernel_rfl
end Go.AI.Lx
