/- What the functions answer in the evaluator: part 11. No conditions beyond those of the row. -/
import Derived.Test.YtkeaedhoaamfnaaGreatDoorL9
import Derived.Test.YtkeaedhoaamfnaaGreatDoorL10
set_option linter.unusedVariables false
set_option linter.unusedSimpArgs false
noncomputable section
/- Substitution: what the executor makes of the functions. -/
namespace Go.AI.Lx
open Go.Proofs Go.Proofs.YtkeaedhoaamfnaaGreatDoor
def anns_putI : List LoopAnn := [⟨9, [(0, false), (2, false), (6, false), (9, false), (43, false), (44, false), (45, true)], []⟩]
noncomputable def code_putI : Code := match Tryz.f44.body with | some c => c | none => .skip
noncomputable def cfg_putI : Cfg := ⟨envB, Tryz.f44, anns_putI, [(44, ⟨[(2, [0])], false⟩)], [⟨100003, [(0, false), (2, false), (4, false), (6, false), (7, false), (25, true)], []⟩], 1⟩
def sub0_putI : Tree := .ask (.bin .lss 3 false (.atom 3) (.atom 2)) true [] 1 (.atom 9) (.cond 9 (.ask (.indexAddr 23 (.atom 1) (.atom 3)) true [] 1 (.atom 10) (.ask (.load 25 (.atom 10)) true [] 2 (.agg [.atom 11, .atom 12]) (.new (.call 44 [.atom 0, .agg [.atom 11, .atom 12], .ptr ⟨0, 0, 0⟩] [(0, .cells 3 false 1 [⟨0, 0, [.atom 4]⟩])] [(0, .cells 3 false 1 [⟨0, 0, [.atom 13]⟩])] 3 (.agg [.atom 14, .atom 15]) false (.new (.act (.bif .append #[23, 23] [.atom 8, .slice ⟨4, 0, 0⟩ 0 1 (some 1) 2]) [(4, .cells 25 false 1 [⟨0, 0, [.atom 14, .atom 15]⟩])] 1 (.atom 16) (.ask (.bin .add 3 true (.atom 3) (.int .i64 1)) true [] 1 (.atom 17) (.back 0 [.atom 0, .atom 1, .atom 2, .atom 17, .atom 13, .atom 5, .atom 6, .atom 7, .atom 16] [0, 1, 2])))))))) (.ret (.agg [.atom 7, .atom 8]) [(0, .cells 3 false 1 [⟨0, 0, [.atom 4]⟩])]))
def sub1_putI : Tree := .cond 1 (.call 44 [.nilmap, .agg [.atom 7, .atom 8], .ptr ⟨0, 0, 0⟩] [(0, .cells 3 false 1 [⟨0, 0, [.atom 2]⟩])] [(0, .cells 3 false 1 [⟨0, 0, [.atom 9]⟩])] 3 (.agg [.atom 10, .atom 11]) false (.ret (.agg [.atom 10, .atom 11]) [(0, .cells 3 false 1 [⟨0, 0, [.atom 9]⟩])])) (.ask (.bin .add 3 true (.atom 2) (.int .i64 1)) true [] 1 (.atom 9) (.ask (.bin .gtr 3 true (.atom 9) (.int .i64 2000)) true [] 1 (.atom 10) (.cond 10 (.ret (.agg [.str [], .nilslice]) [(0, .cells 3 false 1 [⟨0, 0, [.atom 9]⟩])]) (.new (.ask (.bif .len #[23] [.atom 4]) true [] 1 (.atom 11) (.loop 0 9 [.atom 0, .atom 4, .atom 11, .int .i64 0, .atom 9, .atom 5, .atom 6, .atom 3, .nilslice] [0, 2, 4] [.cells 3 false 1 [⟨0, 0, [.atom 4]⟩], .cells 25 false 1 [⟨0, 0, [.atom 5, .atom 6]⟩], .cells 25 false 1 [⟨0, 0, [.atom 7, .atom 8]⟩]] sub0_putI))))))
def tree_putI : Tree := .new (.new (.ask (.lookup 78 (.atom 0) (.atom 1) true) true [] 3 (.tuple [.agg [.atom 4, .atom 5], .atom 6]) (.new (.cond 6 (.ask (.bif .len #[23] [.atom 2]) true [] 1 (.atom 7) (.ask (.bin .eql 3 true (.atom 7) (.int .i64 0)) true [] 1 (.atom 8) (.cut 9 [.atom 0, .atom 8, .atom 3, .atom 1, .atom 2, .str [], .nilslice, .atom 4, .atom 5] [0, 1, 2, 3] [.cells 3 false 1 [⟨0, 0, [.atom 2]⟩], .cells 25 false 1 [⟨0, 0, [.atom 3, .atom 4]⟩], .cells 25 false 1 [⟨0, 0, [.atom 5, .atom 6]⟩], .cells 25 false 1 [⟨0, 0, [.atom 7, .atom 8]⟩]] sub1_putI))) (.cut 9 [.atom 0, .bool false, .atom 3, .atom 1, .atom 2, .str [], .nilslice, .atom 4, .atom 5] [0, 1, 2, 3] [.cells 3 false 1 [⟨0, 0, [.atom 2]⟩], .cells 25 false 1 [⟨0, 0, [.atom 3, .atom 4]⟩], .cells 25 false 1 [⟨0, 0, [.atom 5, .atom 6]⟩], .cells 25 false 1 [⟨0, 0, [.atom 7, .atom 8]⟩]] sub1_putI)))))
theorem run_putI : xrun cfg_putI 400 [] [.code code_putI] (initT [.atom 0, .agg [.atom 1, .atom 2], .ptr ⟨0, 0, 0⟩] 0 .leaf id) (listS ⟨.leaf, 0⟩ [.cells 3 false 1 [⟨0, 0, [.atom 3]⟩]]) 4 = some tree_putI := by kernel_rfl
def anns_putR : List LoopAnn := [⟨5, [(0, false), (2, false), (4, false), (6, false), (7, true)], []⟩, ⟨13, [(0, false), (2, false), (4, false), (6, false), (8, false), (9, true)], []⟩]
noncomputable def code_putR : Code := match Tryz.f46.body with | some c => c | none => .skip
noncomputable def cfg_putR : Cfg := ⟨envB, Tryz.f46, anns_putR, [(46, ⟨[(2, [0])], false⟩), (39, ⟨[], false⟩), (67, ⟨[], false⟩)], [⟨10, [(0, false), (2, false), (4, false), (6, false)], []⟩], 1⟩
def sub0_putR : Tree := .ask (.bif .len #[23] [.atom 4]) true [] 1 (.atom 9) (.ask (.bin .lss 3 false (.atom 1) (.atom 9)) true [] 1 (.atom 10) (.cond 10 (.ask (.indexAddr 23 (.atom 4) (.atom 1)) false [] 1 (.atom 11) (.ask (.load 25 (.atom 11)) false [] 2 (.agg [.atom 12, .atom 13]) (.call 46 [.atom 0, .agg [.atom 12, .atom 13], .ptr ⟨0, 0, 0⟩] [(0, .cells 3 false 1 [⟨0, 0, [.atom 2]⟩])] [(0, .cells 3 false 1 [⟨0, 0, [.atom 14]⟩])] 3 (.agg [.atom 15, .atom 16]) false (.new (.act (.bif .append #[23, 23] [.atom 8, .slice ⟨4, 0, 0⟩ 0 1 (some 1) 2]) [(4, .cells 25 false 1 [⟨0, 0, [.atom 15, .atom 16]⟩])] 1 (.atom 17) (.ask (.bin .add 3 true (.atom 1) (.int .i64 1)) true [] 1 (.atom 18) (.back 0 [.atom 0, .atom 18, .atom 14, .atom 3, .atom 4, .atom 5, .atom 6, .atom 7, .atom 17] [0, 1, 2, 3]))))))) (.ret (.agg [.atom 7, .atom 8]) [(0, .cells 3 false 1 [⟨0, 0, [.atom 2]⟩])])))
def sub1_putR : Tree := .ask (.bin .add 3 true (.atom 1) (.int .i64 1)) true [] 1 (.atom 6) (.new (.loop 0 9 [.atom 0, .int .i64 0, .atom 6, .atom 2, .atom 3, .atom 4, .atom 5, .atom 2, .nilslice] [0, 1, 2, 3] [.cells 3 false 1 [⟨0, 0, [.atom 2]⟩], .cells 25 false 1 [⟨0, 0, [.atom 3, .atom 4]⟩], .cells 25 false 1 [⟨0, 0, [.atom 5, .atom 6]⟩], .cells 25 false 1 [⟨0, 0, [.atom 7, .atom 8]⟩]] sub0_putR))
def tree_putR : Tree := .new (.new (.ask (.bin .gtr 3 true (.atom 3) (.int .i64 2000)) true [] 1 (.atom 4) (.cond 4 (.ret (.agg [.str [73, 110, 116], .nilslice]) [(0, .cells 3 false 1 [⟨0, 0, [.atom 3]⟩])]) (.call 67 [.agg [.atom 1, .atom 2]] [] [] 1 (.atom 5) false (.cond 5 (.loop 0 7 [.atom 0, .int .i64 0, .atom 3, .atom 1, .atom 2, .str [], .nilslice] [0, 1, 2] [.cells 3 false 1 [⟨0, 0, [.atom 2]⟩], .cells 25 false 1 [⟨0, 0, [.atom 3, .atom 4]⟩], .cells 25 false 1 [⟨0, 0, [.atom 5, .atom 6]⟩]] (.ask (.bif .len #[36] [.atom 0]) true [] 1 (.atom 7) (.ask (.bin .lss 3 false (.atom 1) (.atom 7)) true [] 1 (.atom 8) (.cond 8 (.ask (.indexAddr 36 (.atom 0) (.atom 1)) false [] 1 (.atom 9) (.ask (.fieldAddr 56 (.atom 9) 0) false [] 1 (.atom 10) (.ask (.load 9 (.atom 10)) false [] 1 (.atom 11) (.ask (.bin .eql 9 false (.atom 11) (.atom 3)) false [] 1 (.atom 12) (.cond 12 (.ask (.indexAddr 36 (.atom 0) (.atom 1)) false [] 1 (.atom 13) (.ask (.fieldAddr 56 (.atom 13) 1) false [] 1 (.atom 14) (.ask (.load 25 (.atom 14)) false [] 2 (.agg [.atom 15, .atom 16]) (.call 39 [.agg [.atom 15, .atom 16], .int .i64 2000] [] [] 1 (.atom 17) false (.ask (.bin .add 3 false (.atom 2) (.atom 17)) false [] 1 (.atom 18) (.ask (.indexAddr 36 (.atom 0) (.atom 1)) true [] 1 (.atom 19) (.ask (.fieldAddr 56 (.atom 19) 1) true [] 1 (.atom 20) (.ask (.load 25 (.atom 20)) true [] 2 (.agg [.atom 21, .atom 22]) (.ret (.agg [.atom 21, .atom 22]) [(0, .cells 3 false 1 [⟨0, 0, [.atom 18]⟩])]))))))))) (.ask (.bin .add 3 true (.atom 1) (.int .i64 1)) true [] 1 (.atom 13) (.back 0 [.atom 0, .atom 13, .atom 2, .atom 3, .atom 4, .atom 5, .atom 6] [0, 1, 2]))))))) (.cut 6 [.atom 0, .atom 2, .atom 3, .atom 4, .atom 5, .atom 6] [0, 1, 2] [.cells 3 false 1 [⟨0, 0, [.atom 1]⟩], .cells 25 false 1 [⟨0, 0, [.atom 2, .atom 3]⟩], .cells 25 false 1 [⟨0, 0, [.atom 4, .atom 5]⟩]] sub1_putR))))) (.cut 6 [.atom 0, .atom 3, .atom 1, .atom 2, .str [], .nilslice] [0, 1, 2] [.cells 3 false 1 [⟨0, 0, [.atom 1]⟩], .cells 25 false 1 [⟨0, 0, [.atom 2, .atom 3]⟩], .cells 25 false 1 [⟨0, 0, [.atom 4, .atom 5]⟩]] sub1_putR))))))
theorem run_putR : xrun cfg_putR 400 [] [.code code_putR] (initT [.atom 0, .agg [.atom 1, .atom 2], .ptr ⟨0, 0, 0⟩] 0 .leaf id) (listS ⟨.leaf, 0⟩ [.cells 3 false 1 [⟨0, 0, [.atom 3]⟩]]) 4 = some tree_putR := by kernel_rfl
def anns_sameR : List LoopAnn := [⟨4, [(2, false), (3, false), (5, true)], []⟩]
noncomputable def code_sameR : Code := match Tryz.f19.body with | some c => c | none => .skip
noncomputable def cfg_sameR : Cfg := ⟨envB, Tryz.f19, anns_sameR, [(19, ⟨[], false⟩)], [⟨100002, [(2, false), (3, false), (19, true)], []⟩], 0⟩
def sub0_sameR : Tree := .ask (.bif .len #[23] [.atom 2]) true [] 1 (.atom 5) (.ask (.bin .lss 3 false (.atom 0) (.atom 5)) true [] 1 (.atom 6) (.cond 6 (.ask (.indexAddr 23 (.atom 2) (.atom 0)) false [] 1 (.atom 7) (.ask (.load 25 (.atom 7)) false [] 2 (.agg [.atom 8, .atom 9]) (.ask (.indexAddr 23 (.atom 4) (.atom 0)) false [] 1 (.atom 10) (.ask (.load 25 (.atom 10)) false [] 2 (.agg [.atom 11, .atom 12]) (.call 19 [.agg [.atom 8, .atom 9], .agg [.atom 11, .atom 12]] [] [] 1 (.atom 13) false (.ask (.un .not (.atom 13)) false [] 1 (.atom 14) (.cond 14 (.ret (.bool false) []) (.ask (.bin .add 3 true (.atom 0) (.int .i64 1)) true [] 1 (.atom 15) (.back 0 [.atom 15, .atom 1, .atom 2, .atom 3, .atom 4] [0, 1]))))))))) (.ret (.bool true) [])))
def sub1_sameR : Tree := .cond 0 (.ret (.bool false) []) (.loop 0 5 [.int .i64 0, .atom 1, .atom 2, .atom 3, .atom 4] [0, 1] [.cells 25 false 1 [⟨0, 0, [.atom 1, .atom 2]⟩], .cells 25 false 1 [⟨0, 0, [.atom 3, .atom 4]⟩]] sub0_sameR)
def tree_sameR : Tree := .new (.new (.ask (.bin .neq 9 false (.atom 0) (.atom 2)) true [] 1 (.atom 4) (.cond 4 (.cut 5 [.bool true, .atom 0, .atom 1, .atom 2, .atom 3] [0, 1] [.cells 25 false 1 [⟨0, 0, [.atom 1, .atom 2]⟩], .cells 25 false 1 [⟨0, 0, [.atom 3, .atom 4]⟩]] sub1_sameR) (.ask (.bif .len #[23] [.atom 1]) true [] 1 (.atom 5) (.ask (.bif .len #[23] [.atom 3]) true [] 1 (.atom 6) (.ask (.bin .neq 3 false (.atom 5) (.atom 6)) true [] 1 (.atom 7) (.cut 5 [.atom 7, .atom 0, .atom 1, .atom 2, .atom 3] [0, 1] [.cells 25 false 1 [⟨0, 0, [.atom 1, .atom 2]⟩], .cells 25 false 1 [⟨0, 0, [.atom 3, .atom 4]⟩]] sub1_sameR)))))))
theorem run_sameR : xrun cfg_sameR 400 [] [.code code_sameR] (initT [.agg [.atom 0, .atom 1], .agg [.atom 2, .atom 3]] 0 .leaf id) (listS ⟨.leaf, 0⟩ []) 4 = some tree_sameR := by kernel_rfl
def anns_applyI : List LoopAnn := [⟨7, [(3, false), (4, false), (6, false), (22, false), (23, false), (24, true)], []⟩]
noncomputable def code_applyI : Code := match Tryz.f17.body with | some c => c | none => .skip
noncomputable def cfg_applyI : Cfg := ⟨envB, Tryz.f17, anns_applyI, [(44, ⟨[(2, [0])], false⟩), (13, ⟨[], false⟩), (43, ⟨[], false⟩)], [⟨100011, [(3, false), (4, false), (6, false), (8, false), (22, false), (23, false), (24, false), (47, true)], []⟩], 0⟩
def sub0_applyI : Tree := .cond 4 (.ret (.tuple [.agg [.str [], .nilslice], .int .i64 1]) []) (.act (.mapUpd 78 (.atom 0) (.atom 9) (.agg [.atom 10, .atom 11])) [] 0 (.tuple []) (.ask (.bin .add 3 true (.atom 3) (.int .i64 1)) true [] 1 (.atom 12) (.back 0 [.atom 0, .atom 1, .atom 2, .atom 12, .atom 5, .atom 6, .atom 7, .atom 8] [0, 1])))
def tree_applyI : Tree := .new (.new (.call 13 [.agg [.atom 1, .atom 2]] [] [] 1 (.atom 3) false (.ask (.bin .eql 3 true (.atom 3) (.int .i64 0)) true [] 1 (.atom 4) (.cond 4 (.ret (.tuple [.agg [.str [], .nilslice], .int .i64 32]) []) (.ask (.bif .len #[36] [.atom 0]) true [] 1 (.atom 5) (.ask (.bin .gtr 3 true (.atom 5) (.int .i64 2000)) true [] 1 (.atom 6) (.cond 6 (.ret (.tuple [.agg [.str [], .nilslice], .int .i64 1]) []) (.act (.makeMap) [] 1 (.atom 7) (.ask (.bif .len #[36] [.atom 0]) true [] 1 (.atom 8) (.loop 0 8 [.atom 7, .atom 0, .atom 8, .int .i64 0, .atom 1, .atom 2, .str [], .nilslice] [0, 1] [.cells 25 false 1 [⟨0, 0, [.atom 4, .atom 5]⟩], .cells 25 false 1 [⟨0, 0, [.atom 6, .atom 7]⟩]] (.ask (.bin .lss 3 false (.atom 3) (.atom 2)) true [] 1 (.atom 8) (.cond 8 (.ask (.indexAddr 36 (.atom 1) (.atom 3)) true [] 1 (.atom 9) (.ask (.load 56 (.atom 9)) true [] 3 (.agg [.atom 10, .atom 11, .atom 12]) (.new (.ask (.lookup 78 (.atom 0) (.atom 10) true) true [] 3 (.tuple [.agg [.atom 13, .atom 14], .atom 15]) (.new (.cond 15 (.cut 12 [.atom 0, .atom 1, .atom 2, .atom 3, .bool true, .atom 4, .atom 5, .atom 6, .atom 7, .atom 10, .atom 11, .atom 12] [0, 1, 2] [.cells 25 false 1 [⟨0, 0, [.atom 5, .atom 6]⟩], .cells 25 false 1 [⟨0, 0, [.atom 7, .atom 8]⟩], .cells 56 false 1 [⟨0, 0, [.atom 9, .atom 10, .atom 11]⟩]] sub0_applyI) (.call 43 [.atom 10] [] [] 1 (.atom 16) false (.ask (.un .not (.atom 16)) true [] 1 (.atom 17) (.cond 17 (.cut 12 [.atom 0, .atom 1, .atom 2, .atom 3, .bool true, .atom 4, .atom 5, .atom 6, .atom 7, .atom 10, .atom 11, .atom 12] [0, 1, 2] [.cells 25 false 1 [⟨0, 0, [.atom 5, .atom 6]⟩], .cells 25 false 1 [⟨0, 0, [.atom 7, .atom 8]⟩], .cells 56 false 1 [⟨0, 0, [.atom 9, .atom 10, .atom 11]⟩]] sub0_applyI) (.call 13 [.agg [.atom 11, .atom 12]] [] [] 1 (.atom 18) false (.ask (.bin .eql 3 true (.atom 18) (.int .i64 0)) true [] 1 (.atom 19) (.cut 12 [.atom 0, .atom 1, .atom 2, .atom 3, .atom 19, .atom 4, .atom 5, .atom 6, .atom 7, .atom 10, .atom 11, .atom 12] [0, 1, 2] [.cells 25 false 1 [⟨0, 0, [.atom 5, .atom 6]⟩], .cells 25 false 1 [⟨0, 0, [.atom 7, .atom 8]⟩], .cells 56 false 1 [⟨0, 0, [.atom 9, .atom 10, .atom 11]⟩]] sub0_applyI)))))))))))) (.new (.call 44 [.atom 0, .agg [.atom 4, .atom 5], .ptr ⟨2, 0, 0⟩] [(2, .cells 3 false 1 [⟨0, 0, [.int .i64 0]⟩])] [(2, .cells 3 false 1 [⟨0, 0, [.atom 9]⟩])] 3 (.agg [.atom 10, .atom 11]) false (.new (.call 13 [.agg [.atom 10, .atom 11]] [] [] 1 (.atom 12) false (.ask (.bin .eql 3 true (.atom 12) (.int .i64 0)) true [] 1 (.atom 13) (.cond 13 (.ret (.tuple [.agg [.str [], .nilslice], .int .i64 39]) []) (.ret (.tuple [.agg [.atom 10, .atom 11], .int .i64 0]) [])))))))))))))))))))
theorem run_applyI : xrun cfg_applyI 400 [] [.code code_applyI] (initT [.atom 0, .agg [.atom 1, .atom 2]] 0 .leaf id) (listS ⟨.leaf, 0⟩ []) 3 = some tree_applyI := by kernel_rfl
def anns_applyR : List LoopAnn := [⟨7, [(0, false), (3, false), (4, false), (6, true), (7, true)], []⟩]
noncomputable def code_applyR : Code := match Tryz.f18.body with | some c => c | none => .skip
noncomputable def cfg_applyR : Cfg := ⟨envB, Tryz.f18, anns_applyR, [(46, ⟨[(2, [0])], false⟩), (36, ⟨[], false⟩), (45, ⟨[], false⟩), (41, ⟨[], false⟩)], [⟨100010, [(0, false), (3, false), (4, false), (6, false), (7, false), (48, true)], []⟩, ⟨100015, [(4, false), (9, false), (67, true)], []⟩], 0⟩
def sub0_applyR : Tree := .cond 3 (.ret (.tuple [.agg [.str [], .nilslice], .int .i64 1]) []) (.ask (.indexAddr 36 (.atom 0) (.atom 2)) true [] 1 (.atom 8) (.ask (.fieldAddr 56 (.atom 8) 0) true [] 1 (.atom 9) (.ask (.load 9 (.atom 9)) true [] 1 (.atom 10) (.new (.act (.bif .append #[22, 22] [.atom 1, .slice ⟨2, 0, 0⟩ 0 1 (some 1) 1]) [(2, .cells 9 false 1 [⟨0, 0, [.atom 10]⟩])] 1 (.atom 11) (.ask (.bin .add 3 true (.atom 2) (.int .i64 1)) true [] 1 (.atom 12) (.back 0 [.atom 0, .atom 11, .atom 12, .atom 4, .atom 5, .atom 6, .atom 7] [0, 1])))))))
def sub1_applyR : Tree := .cond 0 (.ret (.tuple [.agg [.str [], .nilslice], .int .i64 39]) []) (.ret (.tuple [.agg [.atom 3, .atom 4], .int .i64 0]) [])
def tree_applyR : Tree := .new (.new (.call 36 [.agg [.atom 1, .atom 2]] [] [] 1 (.atom 3) false (.ask (.un .not (.atom 3)) true [] 1 (.atom 4) (.cond 4 (.ret (.tuple [.agg [.str [], .nilslice], .int .i64 32]) []) (.ask (.bif .len #[36] [.atom 0]) true [] 1 (.atom 5) (.ask (.bin .gtr 3 true (.atom 5) (.int .i64 2000)) true [] 1 (.atom 6) (.cond 6 (.ret (.tuple [.agg [.str [], .nilslice], .int .i64 1]) []) (.loop 0 7 [.atom 0, .nilslice, .int .i64 0, .atom 1, .atom 2, .str [], .nilslice] [0, 1] [.cells 25 false 1 [⟨0, 0, [.atom 3, .atom 4]⟩], .cells 25 false 1 [⟨0, 0, [.atom 5, .atom 6]⟩]] (.ask (.bif .len #[36] [.atom 0]) true [] 1 (.atom 7) (.ask (.bin .lss 3 false (.atom 2) (.atom 7)) true [] 1 (.atom 8) (.cond 8 (.ask (.indexAddr 36 (.atom 0) (.atom 2)) true [] 1 (.atom 9) (.ask (.fieldAddr 56 (.atom 9) 0) true [] 1 (.atom 10) (.ask (.load 9 (.atom 10)) true [] 1 (.atom 11) (.call 45 [.atom 11] [] [] 1 (.atom 12) false (.ask (.bin .neq 3 true (.atom 12) (.int .i64 4)) true [] 1 (.atom 13) (.cond 13 (.cut 8 [.atom 0, .atom 1, .atom 2, .bool true, .atom 3, .atom 4, .atom 5, .atom 6] [0, 1] [.cells 25 false 1 [⟨0, 0, [.atom 4, .atom 5]⟩], .cells 25 false 1 [⟨0, 0, [.atom 6, .atom 7]⟩]] sub0_applyR) (.ask (.indexAddr 36 (.atom 0) (.atom 2)) true [] 1 (.atom 14) (.ask (.fieldAddr 56 (.atom 14) 1) true [] 1 (.atom 15) (.ask (.load 25 (.atom 15)) true [] 2 (.agg [.atom 16, .atom 17]) (.call 36 [.agg [.atom 16, .atom 17]] [] [] 1 (.atom 18) false (.ask (.un .not (.atom 18)) true [] 1 (.atom 19) (.cond 19 (.cut 8 [.atom 0, .atom 1, .atom 2, .bool true, .atom 3, .atom 4, .atom 5, .atom 6] [0, 1] [.cells 25 false 1 [⟨0, 0, [.atom 4, .atom 5]⟩], .cells 25 false 1 [⟨0, 0, [.atom 6, .atom 7]⟩]] sub0_applyR) (.ask (.indexAddr 36 (.atom 0) (.atom 2)) true [] 1 (.atom 20) (.ask (.fieldAddr 56 (.atom 20) 0) true [] 1 (.atom 21) (.ask (.load 9 (.atom 21)) true [] 1 (.atom 22) (.call 41 [.atom 1, .atom 22] [] [] 1 (.atom 23) false (.cut 8 [.atom 0, .atom 1, .atom 2, .atom 23, .atom 3, .atom 4, .atom 5, .atom 6] [0, 1] [.cells 25 false 1 [⟨0, 0, [.atom 4, .atom 5]⟩], .cells 25 false 1 [⟨0, 0, [.atom 6, .atom 7]⟩]] sub0_applyR))))))))))))))))) (.new (.call 46 [.atom 0, .agg [.atom 3, .atom 4], .ptr ⟨2, 0, 0⟩] [(2, .cells 3 false 1 [⟨0, 0, [.int .i64 0]⟩])] [(2, .cells 3 false 1 [⟨0, 0, [.atom 9]⟩])] 3 (.agg [.atom 10, .atom 11]) false (.new (.ask (.bin .gtr 3 true (.atom 9) (.int .i64 2000)) true [] 1 (.atom 12) (.cond 12 (.cut 5 [.bool true, .atom 5, .atom 6, .atom 10, .atom 11] [1, 3] [.cells 25 false 1 [⟨0, 0, [.atom 1, .atom 2]⟩], .cells 25 false 1 [⟨0, 0, [.atom 3, .atom 4]⟩]] sub1_applyR) (.call 36 [.agg [.atom 10, .atom 11]] [] [] 1 (.atom 13) false (.ask (.un .not (.atom 13)) true [] 1 (.atom 14) (.cut 5 [.atom 14, .atom 5, .atom 6, .atom 10, .atom 11] [1, 3] [.cells 25 false 1 [⟨0, 0, [.atom 1, .atom 2]⟩], .cells 25 false 1 [⟨0, 0, [.atom 3, .atom 4]⟩]] sub1_applyR)))))))))))))))))))
theorem run_applyR : xrun cfg_applyR 400 [] [.code code_applyR] (initT [.atom 0, .agg [.atom 1, .atom 2]] 0 .leaf id) (listS ⟨.leaf, 0⟩ []) 3 = some tree_applyR := by kernel_rfl
def anns_inferApplies : List LoopAnn := []
noncomputable def code_inferApplies : Code := match Tryz.f4.body with | some c => c | none => .skip
noncomputable def cfg_inferApplies : Cfg := ⟨envB, Tryz.f4, anns_inferApplies, [(7, ⟨[], false⟩), (17, ⟨[], false⟩), (18, ⟨[], false⟩), (19, ⟨[], false⟩)], [], 0⟩
def tree_inferApplies : Tree := .new (.call 7 [] [] [] 1 (.atom 3) false (.call 17 [.atom 0, .agg [.atom 1, .atom 2]] [] [] 3 (.tuple [.agg [.atom 4, .atom 5], .atom 6]) false (.new (.call 18 [.atom 0, .agg [.atom 1, .atom 2]] [] [] 3 (.tuple [.agg [.atom 7, .atom 8], .atom 9]) false (.new (.cond 3 (.ask (.bin .eql 31 false (.atom 6) (.atom 9)) true [] 1 (.atom 10) (.cond 10 (.call 19 [.agg [.atom 4, .atom 5], .agg [.atom 7, .atom 8]] [] [] 1 (.atom 11) false (.ret (.atom 11) [])) (.ret (.bool false) []))) (.ret (.bool false) [])))))))
theorem run_inferApplies : xrun cfg_inferApplies 400 [] [.code code_inferApplies] (initT [.atom 0, .agg [.atom 1, .atom 2]] 0 .leaf id) (listS ⟨.leaf, 0⟩ []) 3 = some tree_inferApplies := by kernel_rfl
end Go.AI.Lx
/- The program's substitution. -/
namespace Go.AI.Lx
open Go.Proofs Go.Proofs.YtkeaedhoaamfnaaGreatDoor
set_option maxRecDepth 10000
mutual
theorem cp_nil : ∀ (t : Ty) (c : Nat), ptI [] t c = cpT t c
  | .mk name args, c => by
    simp only [ptI, cpT, lkT, ite_self, cps_nil args]
theorem cps_nil : ∀ (l : List Ty) (c : Nat), ptIs [] l c = cpTs l c
  | [], c => by simp only [ptIs, cpTs]
  | t :: r, c => by simp only [ptIs, cpTs, cp_nil t, cps_nil r]
end
theorem len_szTs : ∀ (l : List Ty), l.length ≤ szTs l
  | [] => by simp
  | t :: r => by have h1 := len_szTs r; have h2 := szT_pos t; simp only [List.length_cons, szTs]; omega
def Lk (mv : V) (m : List (List Nat × Ty)) (K : S → Prop) : Prop := ∀ x, Bytes x → ∃ nm rw : V, nm.one = true ∧ rw.one = true ∧ (∀ t, lkT x m = some t → RdT K t nm rw) ∧ ∀ s, K s → doLookup Tryz.prog s 78 (some mv) (some (.str x)) true = some (.tuple [.agg [nm, rw], .bool (lkT x m).isSome])
def Kf (K : S → Prop) (fc n : Nat) : Prop := ∀ F s s', (∀ b ∈ F, b = fc ∨ n ≤ b) → Fw F s s' → K s → K s'
def PutW (f : FuncId) (spec : Ty → Nat → Ty × Nat) (mv : V) (K Ko : S → Prop) (fc n N : Nat) : Prop := ∀ (t : Ty) (c : Nat) (nm rw : V) (s : S), szT t ≤ N → szT t ≤ 99999 → RdT K t nm rw → WF s → K s → n ≤ s.next → s.get fc = some (CntB c) → (spec t c).2 ≤ 4611686018427387903 →
  Cw envB f [mv, .agg [nm, rw], .ptr ⟨fc, 0, 0⟩] s fun v s' => ∃ nm' rw' G, v = .agg [nm', rw'] ∧ MT Ko G (spec t c).1 nm' rw' s' ∧ (∀ g ∈ G, s.next ≤ g) ∧ s'.get fc = some (CntB (spec t c).2) ∧ Fw [fc] s s'
section
variable {K Ko : S → Prop} {fc n : Nat} {m : List (List Nat × Ty)} {mv : V}
theorem putIW (hK : Kf K fc n) (hlk : Lk mv m K) (hmv : mv.one = true) (hsz : ∀ x t, lkT x m = some t → szT t ≤ 99999) (hnil : ∀ x t, lkT x m = some t → ∀ N, PutW 44 cpT .nilmap K Ko fc n N) : ∀ N, PutW 44 (ptI m) mv K Ko fc n N := by
  intro N
  induction N with
  | zero => intro t c nm rw s h; cases t; simp only [szT] at h; omega
  | succ N ih =>
    intro t c nm rw s hN hs9 hR hw hk hn hg hcl
    have ho := hR.one
    have hfcl : fc < s.next := hw fc _ hg
    refine cw_of_co (x_enter (C := cfg_putI) (e := ⟨[mv, nm, rw, .int .i64 ((c : Nat) : Int)], [fc]⟩) (F := [fc]) (orc_no rfl rfl rfl) Tryz.func44 rfl (by kernel_rfl) run_putI rfl ⟨rfl, by simp [onesV, ho.1, ho.2, hmv, one_int], rfl⟩ rfl hw rfl (by simp) ⟨hg, trivial⟩ stb_true trivial (by simp) ?_)
    obtain ⟨name, args⟩ := t
    simp only [RdT] at hR
    obtain ⟨rfl, hb, hbl, cs, hrow, hts⟩ := hR
    have hlen := hts.len
    have hlt := hrow.lt
    simp only [szT] at hN hs9
    have hkk : ∀ F s1, Fw F s s1 → (∀ b ∈ F, b = fc ∨ s.next ≤ b) → K s1 := fun F s1 h1 hF => hK F s s1 (fun b hb => (hF b hb).imp id (fun h => Nat.le_trans hn h)) h1 hk
    have hkf : ∀ s1, Fw [fc] s s1 → K s1 := fun s1 h1 => hkk [fc] s1 h1 (by simp)
    have key : ∀ (q : Bool) (nm' rw' : V) (b1 b2 b3 : Nat) (L : List LProp), nm'.one = true → rw'.one = true → (q = true → ∃ x, (if args.length = 0 then lkT name m else none) = some x ∧ RdT K x nm' rw' ∧ szT x ≤ 99999 ∧ ∀ N, PutW 44 cpT .nilmap K Ko fc n N) → (q = false → (if args.length = 0 then lkT name m else none) = none) →
        holds envB [fc] s (Ret fun v s' => ∃ nm' rw' G, v = .agg [nm', rw'] ∧ MT Ko G (ptI m (.mk name args) c).1 nm' rw' s' ∧ (∀ g ∈ G, s.next ≤ g) ∧ s'.get fc = some (CntB (ptI m (.mk name args) c).2) ∧ Fw [fc] s s') sub1_putI ⟨[mv, .bool q, .int .i64 ((c : Nat) : Int), .str name, rw, .str [], .nilslice, nm', rw'], [fc, b1, b2, b3]⟩ [] T0 L := by
      intro q nm' rw' b1 b2 b3 L hn1 hr1 hq1 hq2
      refine h_cond rfl (fun c1 => ?_) (fun c1 => ?_)
      · obtain ⟨x, hx, hRx, hsx, hp⟩ := hq1 c1
        have hsp : ptI m (.mk name args) c = cpT x c := by simp only [ptI, hx]
        rw [hsp] at hcl
        refine h_callD fun s1 k1 k2 k3 k4 => ?_
        obtain ⟨v, s2, hcall, nm2, rw2, G, rfl, hM, hG, hc2, hf⟩ := hp (szT x) x c nm' rw' s1 (Nat.le_refl _) hsx hRx k2 (hkf s1 k1) (Nat.le_trans hn k1.next) k4.1 hcl
        have hoM := hM.one
        refine .inl ⟨[.int .i64 (((cpT x c).2 : Nat) : Int), nm2, rw2], _, s2, G, MT Ko G (cpT x c).1 nm2 rw2, inferInstance, rfl, by simp [onesV, hoM.1, hoM.2, one_int], hcall, hf.mono (by simp [idsOf]; rfl), ⟨hc2, trivial⟩, MT.stb, hM, fun g hg => ⟨hM.2 g hg, .inr (hG g hg)⟩, ?_⟩
        exact h_ret fun s3 h1 h2 h3 h4 => ⟨_, _, rfl, nm2, rw2, G, rfl, by rw [hsp]; exact h3, fun g hg => Nat.le_trans k1.next (hG g hg), by rw [hsp]; exact h4.1, h1⟩
      · have hx := hq2 c1
        refine h_add (r := ((c + 1 : Nat) : Int)) rfl rfl (by rw [show ((c : Nat) : Int) + 1 = ((c + 1 : Nat) : Int) by omega]; exact wrap_in _ ⟨by omega, by have := pt_ge (m := m) (.mk name args) c; omega⟩) rfl ?_
        refine h_gtr rfl rfl rfl ?_
        refine h_if rfl (fun c3 => ?_) (fun c3 => ?_)
        · have hsp : ptI m (.mk name args) c = (.mk [] [], c + 1) := by simp only [ptI, hx]; rw [if_pos (by omega)]
          refine h_ret fun s1 h1 h2 h3 h4 => ⟨_, _, rfl, .str [], .nilslice, [], rfl, ?_, by simp, ?_, h1⟩
          · rw [hsp]; exact MT.none
          · rw [hsp]; exact h4.1
        · have hsp : ptI m (.mk name args) c = (.mk name (ptIs m args (c + 1)).1, (ptIs m args (c + 1)).2) := by simp only [ptI, hx]; rw [if_neg (by omega)]
          rw [hsp] at hcl
          simp only at hcl
          refine h_new fun b4 hb4 hd4 => ?_
          refine h_len rfl (fun s1 _ _ => hrow.len und23 s1) rfl ?_
          refine h_loop (fun j vs bs D U => ∃ (i c' : Nat) (l2 : List Ty) (o2 : Option Nat) (out2 : V) (G2 : List Nat), i ≤ args.length ∧ j = args.length - i ∧ vs = [mv, rw, .int .i64 ((cs.length : Nat) : Int), .int .i64 ((i : Nat) : Int), .int .i64 ((c' : Nat) : Int), .str [], .nilslice, .str name, out2] ∧ bs = [fc, b2, b4] ∧ D = G2 ++ o2.toList ∧ U = TL Ko G2 l2 o2 out2 ∧ out2.one = true ∧ l2.length = i ∧
              (∀ g ∈ G2 ++ o2.toList, s.next ≤ g) ∧ (ptIs m args (c + 1)).1 = l2 ++ (ptIs m (args.drop i) c').1 ∧ (ptIs m args (c + 1)).2 = (ptIs m (args.drop i) c').2)
            args.length ⟨0, c + 1, [], none, .nilslice, [], by omega, rfl, rfl, rfl, rfl, funext fun s => propext ⟨fun _ => TL.nil s, fun _ => trivial⟩, rfl, rfl, by simp, by simp, by simp⟩ stb_true ?_
          rintro j _ _ _ _ ⟨i, c', l2, o2, out2, G2, hi, rfl, rfl, rfl, rfl, rfl, hone2, hl2, hfr, hs1, hs2⟩ - - -
          refine h_lss rfl rfl rfl ?_
          refine h_if rfl (fun c4 => ?_) (fun c4 => ?_)
          · obtain ⟨t', ht', hdr⟩ := drop_at (show i < args.length by omega)
            rw [hdr] at hs1 hs2
            simp only [ptIs] at hs1 hs2
            obtain ⟨nm3, rw3, hx3, hR3⟩ := hts.at ht'
            obtain ⟨p3, hp3, hld3⟩ := hrow.at und23 ty_size25 hx3
            have ho3 := hR3.one
            have hsz3 := szTs_at ht'
            refine h_ask1 (.ptr p3) rfl (fun s1 h1 h2 h3 h4 => hp3) rfl ?_
            refine h_askN [nm3, rw3] (.agg [nm3, rw3]) rfl (by simp [onesV, ho3.1, ho3.2]) (fun s1 h1 h2 h3 h4 => load_agg (hld3 s1 (hkf s1 h1))) rfl ?_
            refine h_new fun b5 hb5 hd5 => ?_
            refine h_callD fun s1 k1 k2 k3 k4 => ?_
            obtain ⟨v, s2, hcall, nm2, rw2, G, rfl, hM, hG, hc2, hf⟩ := ih t' c' nm3 rw3 s1 (by omega) (by omega) hR3 k2 (hkf s1 k1) (Nat.le_trans hn k1.next) k4.1 (by have := pts_ge (m := m) (args.drop (i + 1)) (ptI m t' c').2; omega)
            have hoM := hM.one
            have hblk := k3.blk k2
            have hT2 : TL Ko G2 l2 o2 out2 s2 := k3.keep (KB.fw hf (fun g hgm hgf => by simp at hgf; have := hfr g hgm; omega)) hf.next
            refine .inl ⟨[.int .i64 (((ptI m t' c').2 : Nat) : Int), nm2, rw2], _, s2, (G2 ++ o2.toList) ++ G, fun s => TL Ko G2 l2 o2 out2 s ∧ MT Ko G (ptI m t' c').1 nm2 rw2 s, inferInstance, rfl, by simp [onesV, hoM.1, hoM.2, one_int], hcall, hf.mono (by simp [idsOf]; exact .inl rfl), ⟨hc2, trivial⟩,
              fun a b ⟨h1, h2⟩ hk hn => ⟨h1.keep (fun g hg => hk g (List.mem_append_left _ hg)) hn, h2.keep (fun g hg => hk g (List.mem_append_right _ hg)) hn⟩, ⟨hT2, hM⟩, fun g hg => ?_, ?_⟩
            · rcases List.mem_append.1 hg with hg | hg
              · exact ⟨Nat.lt_of_lt_of_le (hblk g hg) hf.next, .inl hg⟩
              · exact ⟨hM.2 g hg, .inr (hG g hg)⟩
            refine h_new fun b6 hb6 hd6 => ?_
            refine h_act fun s3 j1 j2 j3 j4 => ?_
            have hoG : ∀ g ∈ G, o2 ≠ some g := fun g hg ho2 => by
              have h1 := hblk g (by simp [ho2])
              have h2 := hG g hg
              omega
            obtain ⟨v', s4, X, hrun, hT4, hf4, hXl, hXo⟩ := j3.1.app j2 (b := b6) j4.1 j3.2 hoG (by have := len_szTs args; omega)
            have hfrX : ∀ g ∈ (G2 ++ G) ++ (some X).toList, s.next ≤ g := fun g hg => by
              simp only [List.mem_append, Option.mem_toList, Option.some.injEq] at hg
              rcases hg with (hg | hg) | hg
              · exact hfr g (by simp [hg])
              · exact Nat.le_trans k1.next (hG g hg)
              · subst hg
                rcases hXo with h | h
                · exact hfr _ (by simp [h])
                · exact Nat.le_trans j1.next h
            refine ⟨[v'], _, s4, (G2 ++ G) ++ (some X).toList, TL Ko (G2 ++ G) (l2 ++ [(ptI m t' c').1]) (some X) v', inferInstance, rfl, by simp [onesV, hT4.one], hrun, hf4.mono (by intro g hg; simp at hg ⊢; simp [hg]), TL.stb, hT4, fun g hg => ⟨hT4.blk (hf4.wf j2) g hg, ?_⟩, ?_⟩
            · simp only [List.mem_append, Option.mem_toList, Option.some.injEq] at hg ⊢
              rcases hg with (hg | hg) | hg
              · exact .inl (.inl (.inl hg))
              · exact .inl (.inr hg)
              · subst hg
                rcases hXo with h | h
                · exact .inl (.inl (.inr h))
                · exact .inr h
            refine h_add (r := ((i + 1 : Nat) : Int)) rfl rfl (by rw [show ((i : Nat) : Int) + 1 = ((i + 1 : Nat) : Int) by omega]; exact wrap_in _ ⟨by omega, by omega⟩) rfl ?_
            refine h_back rfl TL.stb ⟨args.length - (i + 1), by omega, i + 1, (ptI m t' c').2, l2 ++ [(ptI m t' c').1], some X, v', G2 ++ G, by omega, rfl, rfl, rfl, rfl, rfl, hT4.one, by simp [hl2], hfrX, ?_, ?_⟩
            · rw [hs1, List.append_assoc]; rfl
            · exact hs2
          · have : i = args.length := by omega
            subst this
            rw [List.drop_length] at hs1 hs2
            simp only [ptIs, List.append_nil] at hs1 hs2
            refine h_ret fun s1 h1 h2 h3 h4 => ⟨_, _, rfl, .str name, out2, G2 ++ o2.toList, rfl, ?_, hfr, ?_, h1⟩
            · rw [hsp, hs1]
              exact TL.ty h3 h2 hb hbl (by omega)
            · rw [hsp, hs2]; exact h4.1
    refine h_new fun b1 hb1 hd1 => ?_
    refine h_new fun b2 hb2 hd2 => ?_
    obtain ⟨nm', rw', hn1, hr1, hRl, hdo⟩ := hlk name hb
    refine h_askN [nm', rw', .bool (lkT name m).isSome] (.tuple [.agg [nm', rw'], .bool (lkT name m).isSome]) rfl (by simp [onesV, hn1, hr1]; rfl) (fun s1 h1 h2 h3 h4 => hdo s1 (hkf s1 h1)) rfl ?_
    refine h_new fun b3 hb3 hd3 => ?_
    refine h_cond rfl (fun c4 => ?_) (fun c4 => ?_)
    · refine h_len rfl (fun s1 _ _ => hrow.len und23 s1) rfl ?_
      refine h_eql rfl rfl rfl ?_
      refine h_cutE (key _ nm' rw' b1 b2 b3 _ hn1 hr1 (fun q => ?_) (fun q => ?_))
      · have h0 : args.length = 0 := by have := of_decide_eq_true q; omega
        rw [if_pos h0]
        cases hx : lkT name m with
        | none => rw [hx] at c4; cases c4
        | some x => exact ⟨x, rfl, hRl x hx, hsz _ _ hx, hnil _ _ hx⟩
      · rw [if_neg]
        intro h0
        have := of_decide_eq_false q
        omega
    · refine h_cutE (key false nm' rw' b1 b2 b3 _ hn1 hr1 (fun q => by cases q) (fun q => ?_))
      cases hx : lkT name m with
      | none => simp
      | some x => rw [hx] at c4; cases c4
end
end Go.AI.Lx
/- The reference's substitution. -/
namespace Go.AI.Lx
open Go.Proofs Go.Proofs.YtkeaedhoaamfnaaGreatDoor
set_option maxRecDepth 10000
section
variable {m : List (List Nat × Ty)}
mutual
theorem ptR_ge : ∀ (t : Ty) (c : Nat), c ≤ (ptR m t c).2
  | .mk name args, c => by
    simp only [ptR]
    split
    · exact Nat.le_refl _
    · split
      · simp only; omega
      · have := ptRs_ge args (c + 1); simp only; omega
theorem ptRs_ge : ∀ (l : List Ty) (c : Nat), c ≤ (ptRs m l c).2
  | [], c => by simp [ptRs]
  | t :: r, c => by
    simp only [ptRs]
    exact Nat.le_trans (ptR_ge t c) (ptRs_ge r _)
end
end
theorem lk_drop {x : List Nat} : ∀ {m : List (List Nat × Ty)} {i : Nat} {y : List Nat} {t : Ty}, m[i]? = some (y, t) → lkT x (m.drop i) = if x = y then some t else lkT x (m.drop (i + 1))
  | [], i, y, t, h => by simp at h
  | (y', t') :: r, 0, y, t, h => by simp at h; obtain ⟨rfl, rfl⟩ := h; simp only [List.drop_zero, lkT, List.drop_succ_cons]
  | (y', t') :: r, i + 1, y, t, h => by
    have := lk_drop (x := x) (m := r) (i := i) (y := y) (t := t) (by simpa using h)
    simpa only [List.drop_succ_cons] using this
section
variable {K : S → Prop} {fc n : Nat} {m : List (List Nat × Ty)} {mv : V}
theorem putRW (hK : Kf K fc n) (hB : RdB K m mv) : ∀ N, PutW 46 (ptR m) mv K K fc n N := by
  intro N
  induction N with
  | zero => intro t c nm rw s h; cases t; simp only [szT] at h; omega
  | succ N ih =>
    intro t c nm rw s hN hs9 hR hw hk hn hg hcl
    have ho := hR.one
    have hmv := hB.one
    have hmlt := hB.lt
    have hfcl : fc < s.next := hw fc _ hg
    refine cw_of_co (x_enter (C := cfg_putR) (e := ⟨[mv, nm, rw, .int .i64 ((c : Nat) : Int)], [fc]⟩) (F := [fc]) (orc_no rfl rfl rfl) Tryz.func46 rfl (by kernel_rfl) run_putR rfl ⟨rfl, by simp [onesV, ho.1, ho.2, hmv, one_int], rfl⟩ rfl hw rfl (by simp) ⟨hg, trivial⟩ stb_true trivial (by simp) ?_)
    obtain ⟨name, args⟩ := t
    simp only [RdT] at hR
    obtain ⟨rfl, hb, hbl, cs, hrow, hts⟩ := hR
    have hlen := hts.len
    have hlt := hrow.lt
    simp only [szT] at hN hs9
    have hkk : ∀ F s1, Fw F s s1 → (∀ b ∈ F, b = fc ∨ s.next ≤ b) → K s1 := fun F s1 h1 hF => hK F s s1 (fun b hb => (hF b hb).imp id (fun h => Nat.le_trans hn h)) h1 hk
    have hkf : ∀ s1, Fw [fc] s s1 → K s1 := fun s1 h1 => hkk [fc] s1 h1 (by simp)
    have key : ∀ (b1 b2 : Nat) (L : List LProp), ¬ 2000 < c → (if isV name = true then lkT name m else none) = none →
        holds envB [fc] s (Ret fun v s' => ∃ nm' rw' G, v = .agg [nm', rw'] ∧ MT K G (ptR m (.mk name args) c).1 nm' rw' s' ∧ (∀ g ∈ G, s.next ≤ g) ∧ s'.get fc = some (CntB (ptR m (.mk name args) c).2) ∧ Fw [fc] s s') sub1_putR ⟨[mv, .int .i64 ((c : Nat) : Int), .str name, rw, .str [], .nilslice], [fc, b1, b2]⟩ [] T0 L := by
      intro b1 b2 L h2000 hx
      have hsp : ptR m (.mk name args) c = (.mk name (ptRs m args (c + 1)).1, (ptRs m args (c + 1)).2) := by simp only [ptR, hx]; rw [if_neg h2000]
      rw [hsp] at hcl
      simp only at hcl
      refine h_add (r := ((c + 1 : Nat) : Int)) rfl rfl (by rw [show ((c : Nat) : Int) + 1 = ((c + 1 : Nat) : Int) by omega]; exact wrap_in _ ⟨by omega, by omega⟩) rfl ?_
      refine h_new fun b4 hb4 hd4 => ?_
      refine h_loop (fun j vs bs D U => ∃ (i c' : Nat) (l2 : List Ty) (o2 : Option Nat) (out2 : V) (G2 : List Nat), i ≤ args.length ∧ j = args.length - i ∧ vs = [mv, .int .i64 ((i : Nat) : Int), .int .i64 ((c' : Nat) : Int), .str name, rw, .str [], .nilslice, .str name, out2] ∧ bs = [fc, b1, b2, b4] ∧ D = G2 ++ o2.toList ∧ U = TL K G2 l2 o2 out2 ∧ out2.one = true ∧ l2.length = i ∧
          (∀ g ∈ G2 ++ o2.toList, s.next ≤ g) ∧ (ptRs m args (c + 1)).1 = l2 ++ (ptRs m (args.drop i) c').1 ∧ (ptRs m args (c + 1)).2 = (ptRs m (args.drop i) c').2)
        args.length ⟨0, c + 1, [], none, .nilslice, [], by omega, rfl, rfl, rfl, rfl, funext fun s => propext ⟨fun _ => TL.nil s, fun _ => trivial⟩, rfl, rfl, by simp, by simp, by simp⟩ stb_true ?_
      rintro j _ _ _ _ ⟨i, c', l2, o2, out2, G2, hi, rfl, rfl, rfl, rfl, rfl, hone2, hl2, hfr, hs1, hs2⟩ - - -
      refine h_len rfl (fun s1 _ _ => hrow.len und23 s1) rfl ?_
      refine h_lss rfl rfl rfl ?_
      refine h_if rfl (fun c4 => ?_) (fun c4 => ?_)
      · obtain ⟨t', ht', hdr⟩ := drop_at (show i < args.length by omega)
        rw [hdr] at hs1 hs2
        simp only [ptRs] at hs1 hs2
        obtain ⟨nm3, rw3, hx3, hR3⟩ := hts.at ht'
        obtain ⟨p3, hp3, hld3⟩ := hrow.at und23 ty_size25 hx3
        have ho3 := hR3.one
        have hsz3 := szTs_at ht'
        refine h_ask1 (.ptr p3) rfl (fun s1 h1 h2 h3 h4 => hp3) rfl ?_
        refine h_askN [nm3, rw3] (.agg [nm3, rw3]) rfl (by simp [onesV, ho3.1, ho3.2]) (fun s1 h1 h2 h3 h4 => load_agg (hld3 s1 (hkf s1 h1))) rfl ?_
        refine h_callD fun s1 k1 k2 k3 k4 => ?_
        obtain ⟨v, s2, hcall, nm2, rw2, G, rfl, hM, hG, hc2, hf⟩ := ih t' c' nm3 rw3 s1 (by omega) (by omega) hR3 k2 (hkf s1 k1) (Nat.le_trans hn k1.next) k4.1 (by have := ptRs_ge (m := m) (args.drop (i + 1)) (ptR m t' c').2; omega)
        have hoM := hM.one
        have hblk := k3.blk k2
        have hT2 : TL K G2 l2 o2 out2 s2 := k3.keep (KB.fw hf (fun g hgm hgf => by simp at hgf; have := hfr g hgm; omega)) hf.next
        refine .inl ⟨[.int .i64 (((ptR m t' c').2 : Nat) : Int), nm2, rw2], _, s2, (G2 ++ o2.toList) ++ G, fun s => TL K G2 l2 o2 out2 s ∧ MT K G (ptR m t' c').1 nm2 rw2 s, inferInstance, rfl, by simp [onesV, hoM.1, hoM.2, one_int], hcall, hf.mono (by simp [idsOf]; exact .inl rfl), ⟨hc2, trivial⟩,
          fun a b ⟨h1, h2⟩ hk hn => ⟨h1.keep (fun g hg => hk g (List.mem_append_left _ hg)) hn, h2.keep (fun g hg => hk g (List.mem_append_right _ hg)) hn⟩, ⟨hT2, hM⟩, fun g hg => ?_, ?_⟩
        · rcases List.mem_append.1 hg with hg | hg
          · exact ⟨Nat.lt_of_lt_of_le (hblk g hg) hf.next, .inl hg⟩
          · exact ⟨hM.2 g hg, .inr (hG g hg)⟩
        refine h_new fun b6 hb6 hd6 => ?_
        refine h_act fun s3 j1 j2 j3 j4 => ?_
        have hoG : ∀ g ∈ G, o2 ≠ some g := fun g hg ho2 => by
          have h1 := hblk g (by simp [ho2])
          have h2 := hG g hg
          omega
        obtain ⟨v', s4, X, hrun, hT4, hf4, hXl, hXo⟩ := j3.1.app j2 (b := b6) j4.1 j3.2 hoG (by have := len_szTs args; omega)
        have hfrX : ∀ g ∈ (G2 ++ G) ++ (some X).toList, s.next ≤ g := fun g hg => by
          simp only [List.mem_append, Option.mem_toList, Option.some.injEq] at hg
          rcases hg with (hg | hg) | hg
          · exact hfr g (by simp [hg])
          · exact Nat.le_trans k1.next (hG g hg)
          · subst hg
            rcases hXo with h | h
            · exact hfr _ (by simp [h])
            · exact Nat.le_trans j1.next h
        refine ⟨[v'], _, s4, (G2 ++ G) ++ (some X).toList, TL K (G2 ++ G) (l2 ++ [(ptR m t' c').1]) (some X) v', inferInstance, rfl, by simp [onesV, hT4.one], hrun, hf4.mono (by intro g hg; simp at hg ⊢; simp [hg]), TL.stb, hT4, fun g hg => ⟨hT4.blk (hf4.wf j2) g hg, ?_⟩, ?_⟩
        · simp only [List.mem_append, Option.mem_toList, Option.some.injEq] at hg ⊢
          rcases hg with (hg | hg) | hg
          · exact .inl (.inl (.inl hg))
          · exact .inl (.inr hg)
          · subst hg
            rcases hXo with h | h
            · exact .inl (.inl (.inr h))
            · exact .inr h
        refine h_add (r := ((i + 1 : Nat) : Int)) rfl rfl (by rw [show ((i : Nat) : Int) + 1 = ((i + 1 : Nat) : Int) by omega]; exact wrap_in _ ⟨by omega, by omega⟩) rfl ?_
        refine h_back rfl TL.stb ⟨args.length - (i + 1), by omega, i + 1, (ptR m t' c').2, l2 ++ [(ptR m t' c').1], some X, v', G2 ++ G, by omega, rfl, rfl, rfl, rfl, rfl, hT4.one, by simp [hl2], hfrX, ?_, ?_⟩
        · rw [hs1, List.append_assoc]; rfl
        · exact hs2
      · have : i = args.length := by omega
        subst this
        rw [List.drop_length] at hs1 hs2
        simp only [ptRs, List.append_nil] at hs1 hs2
        refine h_ret fun s1 h1 h2 h3 h4 => ⟨_, _, rfl, .str name, out2, G2 ++ o2.toList, rfl, ?_, hfr, ?_, h1⟩
        · rw [hsp, hs1]
          exact TL.ty h3 h2 hb hbl (by omega)
        · rw [hsp, hs2]; exact h4.1
    refine h_new fun b1 hb1 hd1 => ?_
    refine h_new fun b2 hb2 hd2 => ?_
    refine h_gtr rfl rfl rfl ?_
    refine h_if rfl (fun c2 => ?_) (fun c2 => ?_)
    · have hsp : ptR m (.mk name args) c = (.mk [73, 110, 116] [], c) := by simp only [ptR]; rw [if_pos (by omega)]
      refine h_ret fun s1 h1 h2 h3 h4 => ⟨_, _, rfl, .str [73, 110, 116], .nilslice, [], rfl, ?_, by simp, ?_, h1⟩
      · rw [hsp]
        refine MT.of ?_
        simp only [RdT]
        exact ⟨trivial, lit3 (by omega) (by omega) (by omega), by simp, [], .nil, by simp only [RdTs]⟩
      · rw [hsp]; exact h4.1
    · refine h_callE (.bool (isV name)) (fun s1 h1 h2 h3 h4 => isVarRW hb hbl ho.2 h2) rfl rfl ?_
      refine h_cond rfl (fun c3 => ?_) (fun c3 => ?_)
      · refine h_loop0 (fun j vs bs => ∃ i, i ≤ m.length ∧ j = m.length - i ∧ vs = [mv, .int .i64 ((i : Nat) : Int), .int .i64 ((c : Nat) : Int), .str name, rw, .str [], .nilslice] ∧ bs = [fc, b1, b2] ∧ lkT name (m.drop i) = lkT name m) m.length ⟨0, by omega, rfl, rfl, rfl, by simp⟩ ?_
        rintro j _ _ ⟨i, hi, rfl, rfl, rfl, hf⟩
        refine h_len rfl (fun s1 _ _ => hB.len s1) rfl ?_
        refine h_lss rfl rfl rfl ?_
        refine h_if rfl (fun c4 => ?_) (fun c4 => ?_)
        · obtain ⟨⟨y, t'⟩, hy, hd⟩ := drop_at (show i < m.length by omega)
          rw [lk_drop hy] at hf
          obtain ⟨p, nm1, rw1, hp, hld, hyb, hyl, hR1⟩ := hB.at hy
          have ho1 := hR1.one
          refine h_ask1 (.ptr p) rfl (fun s1 h1 h2 h3 h4 => hp) rfl ?_
          refine h_ask1 (.ptr p) rfl (fun s1 h1 h2 h3 h4 => fa56a p) rfl ?_
          refine h_ask1 (.str y) rfl (fun s1 h1 h2 h3 h4 => load_cell (p := p) (i := 0) (hld s1 (hkf s1 h1)) rfl lv9) rfl ?_
          refine h_eqlS rfl rfl hyb hb rfl ?_
          refine h_if rfl (fun c5 => ?_) (fun c5 => ?_)
          · subst c5
            rw [if_pos rfl] at hf
            have hsp : ptR m (.mk y args) c = (t', c + cnt t' 2000) := by simp only [ptR]; rw [if_neg (by omega), if_pos c3, ← hf]
            rw [hsp] at hcl
            simp only at hcl
            refine h_ask1 (.ptr p) rfl (fun s1 h1 h2 h3 h4 => hp) rfl ?_
            refine h_ask1 (.ptr (addC p 1)) rfl (fun s1 h1 h2 h3 h4 => fa56b p) rfl ?_
            refine h_askN [nm1, rw1] (.agg [nm1, rw1]) rfl (by simp [onesV, ho1.1, ho1.2]) (fun s1 h1 h2 h3 h4 => load_bty (hld s1 (hkf s1 h1))) rfl ?_
            refine h_callE (.int .i64 ((cnt t' 2000 : Nat) : Int)) (fun s1 h1 h2 h3 h4 => countW (fun a b hf hk => hK [] a b (by simp) hf hk) (szT t') t' 2000 nm1 rw1 s1 (Nat.le_refl _) hR1 (by omega) h2 (hkf s1 h1)) rfl rfl ?_
            refine h_add (r := ((c + cnt t' 2000 : Nat) : Int)) rfl rfl (by rw [show ((c : Nat) : Int) + ((cnt t' 2000 : Nat) : Int) = ((c + cnt t' 2000 : Nat) : Int) by omega]; exact wrap_in _ ⟨by omega, by omega⟩) rfl ?_
            refine h_ask1 (.ptr p) rfl (fun s1 h1 h2 h3 h4 => hp) rfl ?_
            refine h_ask1 (.ptr (addC p 1)) rfl (fun s1 h1 h2 h3 h4 => fa56b p) rfl ?_
            refine h_askN [nm1, rw1] (.agg [nm1, rw1]) rfl (by simp [onesV, ho1.1, ho1.2]) (fun s1 h1 h2 h3 h4 => load_bty (hld s1 (hkf s1 h1))) rfl ?_
            refine h_ret fun s1 h1 h2 h3 h4 => ⟨_, _, rfl, nm1, rw1, [], rfl, ?_, by simp, ?_, h1⟩
            · rw [hsp]; exact MT.of hR1
            · rw [hsp]; exact h4.1
          · rw [if_neg (fun h => c5 h.symm)] at hf
            refine h_add (r := ((i + 1 : Nat) : Int)) rfl rfl (by rw [show ((i : Nat) : Int) + 1 = ((i + 1 : Nat) : Int) by omega]; exact wrap_in _ ⟨by omega, by omega⟩) rfl ?_
            exact h_back0 (m.length - (i + 1)) rfl (by omega) ⟨i + 1, by omega, rfl, rfl, rfl, hf⟩
        · have : i = m.length := by omega
          subst this
          rw [List.drop_length] at hf
          exact h_cutE (key b1 b2 _ (by omega) (by rw [if_pos c3, ← hf]; rfl))
      · exact h_cutE (key b1 b2 _ (by omega) (by rw [c3]; rfl))
end
end Go.AI.Lx
/- The program's Apply. -/
namespace Go.AI.Lx
open Go.Proofs Go.Proofs.YtkeaedhoaamfnaaGreatDoor
set_option maxRecDepth 10000
def TMs (K : S → Prop) : List (List Nat × V) → List (List Nat × Ty) → Prop
  | [], [] => True
  | (k, v) :: r, (k', t) :: r' => k = k' ∧ (∃ nm rw, v = .agg [nm, rw] ∧ RdT K t nm rw) ∧ TMs K r r'
  | _, _ => False
theorem TMs.mono {K K' : S → Prop} (h : ∀ s, K' s → K s) : ∀ {M : List (List Nat × V)} {m : List (List Nat × Ty)}, TMs K M m → TMs K' M m
  | [], [], r => r
  | (k, v) :: r, (k', t) :: r', ⟨h1, ⟨nm, rw, h2, h3⟩, h4⟩ => ⟨h1, ⟨nm, rw, h2, h3.mono h⟩, TMs.mono h h4⟩
  | [], _ :: _, r => r.elim
  | _ :: _, [], r => r.elim
theorem TMs.get {K : S → Prop} (x : List Nat) : ∀ {M : List (List Nat × V)} {m : List (List Nat × Ty)}, TMs K M m → (∃ t nm rw, mget x M = some (.agg [nm, rw]) ∧ lkT x m = some t ∧ RdT K t nm rw) ∨ (mget x M = none ∧ lkT x m = none)
  | [], [], _ => .inr ⟨rfl, rfl⟩
  | (k, v) :: r, (k', t) :: r', ⟨h1, ⟨nm, rw, h2, h3⟩, h4⟩ => by
    subst h1 h2
    by_cases hx : x = k
    · subst hx; exact .inl ⟨t, nm, rw, by simp [mget], by simp [lkT], h3⟩
    · have := TMs.get x h4
      simp only [mget, lkT, if_neg hx]; exact this
  | [], _ :: _, r => r.elim
  | _ :: _, [], r => r.elim
theorem TMs.snoc {K : S → Prop} {x : List Nat} {t : Ty} {nm rw : V} (hR : RdT K t nm rw) : ∀ {M : List (List Nat × V)} {m : List (List Nat × Ty)}, TMs K M m → TMs K (M ++ [(x, .agg [nm, rw])]) (m ++ [(x, t)])
  | [], [], _ => ⟨rfl, ⟨nm, rw, rfl, hR⟩, trivial⟩
  | (k, v) :: r, (k', t') :: r', ⟨h1, h2, h4⟩ => ⟨h1, h2, TMs.snoc hR h4⟩
  | [], _ :: _, r => r.elim
  | _ :: _, [], r => r.elim
theorem zero25 : found Tryz.prog 25 true (some none) = some (.tuple [.agg [.str [], .nilslice], .bool false]) := by kernel_rfl
theorem TMs.lk {K K' : S → Prop} {mm : Nat} {M : List (List Nat × V)} {m : List (List Nat × Ty)} (h : TMs K M m) (hk : Keys M) (hK : ∀ s, K' s → K s ∧ MP s mm M) : Lk (.map mm) m K' := by
  intro x hx
  have look : ∀ s, K' s → doLookup Tryz.prog s 78 (some (.map mm)) (some (.str x)) true = found Tryz.prog 25 true (some (mget x M)) := fun s hs => by
    have h' : s.get mm = some (.map (mpE M 0) M.length) := (hK s hs).2
    simp only [doLookup, Tryz.underlying78, entsOf, h', simple9, cond_true, find_mp (fun a b ha hb => eqlAt_str s a b ha hb) hx M 0 hk]
  rcases h.get x with ⟨t, nm, rw, h1, h2, h3⟩ | ⟨h1, h2⟩
  · refine ⟨nm, rw, h3.one.1, h3.one.2, fun t' ht' => ?_, fun s hs => ?_⟩
    · rw [h2] at ht'; cases ht'; exact h3.mono fun s hs => (hK s hs).1
    · rw [look s hs, h1, h2]; rfl
  · refine ⟨.str [], .nilslice, rfl, rfl, fun t' ht' => (by rw [h2] at ht'; cases ht'), fun s hs => ?_⟩
    rw [look s hs, h1, h2]; exact zero25
theorem lk_nil {K : S → Prop} : Lk .nilmap [] K := by
  intro x hx
  refine ⟨.str [], .nilslice, rfl, rfl, fun t' ht' => (by cases ht'), fun s hs => ?_⟩
  have := zero25
  simp only [doLookup, Tryz.underlying78, entsOf, simple9, cond_true, findKeyV]
  exact this
theorem lk_mem {x : List Nat} : ∀ {m : List (List Nat × Ty)}, (lkT x m).isSome = true ↔ x ∈ m.map (·.1)
  | [] => by simp [lkT]
  | (k, t) :: r => by
    have := lk_mem (x := x) (m := r)
    by_cases hx : x = k
    · subst hx; simp [lkT]
    · simp only [lkT, if_neg hx, List.map_cons, List.mem_cons]
      rw [this]
      exact ⟨.inr, fun h => h.resolve_left hx⟩
def bOk : List (List Nat × Ty) → List (List Nat) → Bool
  | [], _ => true
  | (k, t) :: r, seen => decide (kindC k = 4) && vld t && decide (k ∉ seen) && bOk r (seen ++ [k])
theorem bOk_ok : ∀ {m : List (List Nat × Ty)} {seen : List (List Nat)}, bOk m seen = true → BOk m
  | [], _, _ => fun k x h => by cases h
  | (k, t) :: r, seen, h => by
    simp only [bOk, Bool.and_eq_true, decide_eq_true_eq] at h
    intro k' x hx
    simp only [lkT] at hx
    split at hx
    · rename_i he; subst he; cases hx; exact ⟨h.1.1.1, h.1.1.2⟩
    · exact bOk_ok h.2 k' x hx
def apI (l : List (List Nat × Ty)) (t : Ty) : Ty × Int :=
  if vld t = true then (if 2000 < l.length then (.mk [] [], 1) else if bOk l [] = true then (if vld (ptI l t 0).1 = true then ((ptI l t 0).1, 0) else (.mk [] [], 39)) else (.mk [] [], 1)) else (.mk [] [], 32)
theorem MT.kn {K : S → Prop} {G : List Nat} {t : Ty} {nm rw : V} {s : S} (h : MT K G t nm rw s) {n : Nat} (hK : Kn K n) (hn : n ≤ s.next) : Kn (fun s' => K s' ∧ KB G s s') s.next := kn_and (kn_le hK hn) (kb_kn h.2)
theorem kn_t0 : Kn T0 0 := fun _ _ _ _ _ _ => trivial
theorem sz_lt {t : Ty} (h : vld t = true) : szT t ≤ 99999 := by have := (vld_parts h).1; omega
def QAp (r : Ty × Int) (Ko : S → Prop) (s : S) : Out → Prop := Ret fun v s' => ∃ nm' rw' G, v = .tuple [.agg [nm', rw'], .int .i64 r.2] ∧ MT Ko G r.1 nm' rw' s' ∧ (∀ g ∈ G, s.next ≤ g) ∧ Fw [] s s'
section
variable {K : S → Prop} {n : Nat} {l : List (List Nat × Ty)} {bv nm rw : V}
def ApInv (K : S → Prop) (l : List (List Nat × Ty)) (bv nm rw : V) (mm b1 b2 : Nat) (j : Nat) : LProp := fun vs bs D U => ∃ (i : Nat) (M : List (List Nat × V)), i ≤ l.length ∧ j = l.length - i ∧ vs = [.map mm, bv, .int .i64 ((l.length : Nat) : Int), .int .i64 ((i : Nat) : Int), nm, rw, .str [], .nilslice] ∧ bs = [b1, b2] ∧ D = [mm] ∧ U = (fun s => MP s mm M) ∧
  TMs K M (l.take i) ∧ Keys M ∧ M.length = i ∧ bOk (l.drop i) ((l.take i).map (·.1)) = bOk l []
theorem mp_stb {mm : Nat} {M : List (List Nat × V)} : Stb [mm] fun s => MP s mm M := fun _ _ h hk _ => hk mm (by simp) _ h
theorem applyIW (hK : Kn K n) {t : Ty} {s : S} (hn : n ≤ s.next) (hB : RdB K l bv) (hR : RdT K t nm rw) (hw : WF s) (hG : GlobOk s) (hk : K s) : Cw envB 17 [bv, .agg [nm, rw]] s fun v s' => ∃ nm' rw' G, v = .tuple [.agg [nm', rw'], .int .i64 (apI l t).2] ∧ MT T0 G (apI l t).1 nm' rw' s' ∧ (∀ g ∈ G, s.next ≤ g) ∧ Fw [] s s' := by
  have ho := hR.one
  have hob := hB.one
  have hlt := hB.lt
  have hpos := szT_pos t
  refine cw_of_co (x_enter (C := cfg_applyI) (e := ⟨[bv, nm, rw], []⟩) (F := []) (orc_no rfl rfl rfl) Tryz.func17 rfl (by kernel_rfl) run_applyI rfl ⟨rfl, by simp [onesV, ho.1, ho.2, hob], rfl⟩ rfl hw rfl (by simp) trivial stb_true trivial (by simp) ?_)
  show holds envB [] s (QAp (apI l t) T0 s) _ _ _ _ _
  have no : ∀ {s1 : S} {e : Int}, Fw [] s s1 → apI l t = (.mk [] [], e) → QAp (apI l t) T0 s ⟨.returned (.tuple [.agg [.str [], .nilslice], .int .i64 e]), none, s1⟩ := fun h1 he => ⟨_, _, rfl, .str [], .nilslice, [], by rw [he], by rw [he]; exact MT.none, by simp, h1⟩
  refine h_new fun b1 hb1 hd1 => ?_
  refine h_new fun b2 hb2 hd2 => ?_
  refine h_callE (.int .i64 (if vld t = true then ((szT t : Nat) : Int) else 0)) (fun s1 h1 h2 h3 h4 => sizeIW hK (Nat.le_trans hn h1.next) hR h2 (hG.keep h1.ro) (hK.still _ _ h1 hk)) rfl rfl ?_
  refine h_eql rfl rfl rfl ?_
  refine h_if rfl (fun c2 => ?_) (fun c2 => ?_)
  · have hv : ¬ vld t = true := fun h => by rw [if_pos h] at c2; omega
    exact h_ret fun s1 h1 h2 h3 h4 => no h1 (by unfold apI; rw [if_neg hv])
  have hv : vld t = true := by
    cases hv : vld t with
    | true => rfl
    | false => rw [hv] at c2; exact absurd rfl c2
  refine h_len rfl (fun s1 _ _ => hB.len s1) rfl ?_
  refine h_gtr rfl rfl rfl ?_
  refine h_if rfl (fun c3 => ?_) (fun c3 => ?_)
  · exact h_ret fun s1 h1 h2 h3 h4 => no h1 (by unfold apI; rw [if_pos hv, if_pos (by omega)])
  have hap : apI l t = if bOk l [] = true then (if vld (ptI l t 0).1 = true then ((ptI l t 0).1, 0) else (.mk [] [], 39)) else (.mk [] [], 1) := by unfold apI; rw [if_pos hv, if_neg (by omega)]
  refine h_act fun s3 j1 j2 j3 j4 => ?_
  have hal := Fw.alloc [] j2 (.map [] 0)
  refine ⟨[.map s3.next], _, s3.alloc (.map [] 0), [s3.next], fun s => MP s s3.next [], inferInstance, rfl, rfl, rfl, hal.mono (by simp), mp_stb, get_alloc_same _ _, fun g hg => ?_, ?_⟩
  · simp at hg; subst hg; rw [S.next_alloc]; exact ⟨by omega, .inr (Nat.le_refl _)⟩
  have hmn : s.next ≤ s3.next := j1.next
  generalize s3.next = mm at hmn
  refine h_len rfl (fun s1 _ _ => hB.len s1) rfl ?_
  refine h_loop (ApInv K l bv nm rw mm b1 b2) l.length ⟨0, [], by omega, rfl, rfl, rfl, rfl, rfl, trivial, (fun p hp => by cases hp), rfl, rfl⟩ mp_stb ?_
  rintro j _ _ _ _ ⟨i, M, hi, rfl, rfl, rfl, rfl, rfl, hM, hkm, hml, hbo⟩ - - -
  refine h_lss rfl rfl rfl ?_
  refine h_if rfl (fun c4 => ?_) (fun c4 => ?_)
  · obtain ⟨⟨x, tx⟩, hx, hd⟩ := drop_at (show i < l.length by omega)
    rw [hd] at hbo
    simp only [bOk] at hbo
    obtain ⟨p, nm1, rw1, hp, hld, hxb, hxl, hR1⟩ := hB.at hx
    have ho1 := hR1.one
    have hp1 := szT_pos tx
    have hlk := hM.lk (mm := mm) (K' := fun s => K s ∧ MP s mm M) hkm (fun _ h => h)
    obtain ⟨nm', rw', hn1, hr1, hRl, hdo⟩ := hlk x hxb
    have hkk : ∀ s1, Fw [] s s1 → K s1 := fun s1 h1 => hK.still _ _ h1 hk
    have htk : l.take (i + 1) = l.take i ++ [(x, tx)] := by rw [List.take_add_one, hx]; rfl
    have key : ∀ (q : Bool) (b3 b4 : Nat), (q = false ↔ (kindC x = 4 ∧ vld tx = true ∧ x ∉ (l.take i).map (·.1))) →
        holds envB [] s (QAp (apI l t) T0 s) sub0_applyI ⟨[.map mm, bv, .int .i64 ((l.length : Nat) : Int), .int .i64 ((i : Nat) : Int), .bool q, nm, rw, .str [], .nilslice, .str x, nm1, rw1], [b1, b2, b3]⟩ [mm] (fun s => MP s mm M) [fun vs bs D U => ∃ j', j' < l.length - i ∧ ApInv K l bv nm rw mm b1 b2 j' vs bs D U] := by
      intro q b3 b4 hq
      refine h_cond rfl (fun c1 => ?_) (fun c1 => ?_)
      · refine h_ret fun s1 h1 h2 h3 h4 => no h1 ?_
        rw [hap, if_neg]
        intro hb
        rw [hb] at hbo
        simp only [Bool.and_eq_true, decide_eq_true_eq] at hbo
        have := hq.2 ⟨hbo.1.1.1, hbo.1.1.2, hbo.1.2⟩
        rw [this] at c1; cases c1
      · obtain ⟨q1, q2, q3⟩ := hq.1 c1
        refine h_act fun s4 k1 k2 k3 k4 => ?_
        obtain ⟨s5, hrun, hmp, hf, hml2⟩ := MP.upd k3 k2 hkm hxb (.agg [nm1, rw1]) Tryz.underlying78
        have hnew : mset x (.agg [nm1, rw1]) M = M ++ [(x, .agg [nm1, rw1])] := by
          refine mset_new _ ?_
          rcases hM.get x with ⟨t', nm', rw', h1, h2, h3⟩ | ⟨h1, h2⟩
          · exact absurd (lk_mem.1 (by rw [h2]; rfl)) q3
          · exact h1
        refine ⟨[], _, s5, [mm], fun s => MP s mm (mset x (.agg [nm1, rw1]) M), inferInstance, rfl, rfl, hrun, hf, mp_stb, hmp, fun g hg => ?_, ?_⟩
        · simp at hg; subst hg; exact ⟨hml2, .inl (by simp)⟩
        refine h_add (r := ((i + 1 : Nat) : Int)) rfl rfl (by rw [show ((i : Nat) : Int) + 1 = ((i + 1 : Nat) : Int) by omega]; exact wrap_in _ ⟨by omega, by omega⟩) rfl ?_
        refine h_back rfl mp_stb ⟨l.length - (i + 1), by omega, i + 1, _, by omega, rfl, rfl, rfl, rfl, rfl, ?_, hkm.set hxb _, ?_, ?_⟩
        · rw [hnew, htk]; exact TMs.snoc hR1 hM
        · rw [hnew, List.length_append, hml]; rfl
        · rw [htk, List.map_append, ← hbo, decide_eq_true q1, q2, decide_eq_true q3]; rfl
    refine h_ask1 (.ptr p) rfl (fun s1 h1 h2 h3 h4 => hp) rfl ?_
    refine h_askN [.str x, nm1, rw1] (.agg [.str x, nm1, rw1]) rfl (by simp [onesV, ho1.1, ho1.2, one_str]) (fun s1 h1 h2 h3 h4 => by
      show nxVal1 (doLoad Tryz.prog s1 56 (some (.ptr p))) = _
      rw [doLoad_ptr, lv56, hld s1 (hkk s1 h1)]; rfl) rfl ?_
    refine h_new fun b3 hb3 hd3 => ?_
    refine h_askN [nm', rw', .bool (lkT x (l.take i)).isSome] (.tuple [.agg [nm', rw'], .bool (lkT x (l.take i)).isSome]) rfl (by simp [onesV, hn1, hr1]; rfl) (fun s1 h1 h2 h3 h4 => hdo s1 ⟨hkk s1 h1, h3 rfl⟩) rfl ?_
    refine h_new fun b4 hb4 hd4 => ?_
    have stb0 := @mp_stb mm M
    refine h_cond rfl (fun c5 => ?_) (fun c5 => ?_)
    · refine h_cut (fun vs bs D U => vs = [.map mm, bv, .int .i64 ((l.length : Nat) : Int), .int .i64 ((i : Nat) : Int), .bool true, nm, rw, .str [], .nilslice, .str x, nm1, rw1] ∧ bs = [b1, b2, b3] ∧ D = [mm] ∧ U = (fun s => MP s mm M)) ⟨rfl, rfl, rfl, rfl⟩ mp_stb ?_
      rintro _ _ _ _ ⟨rfl, rfl, rfl, rfl⟩ - - -
      exact key true b3 b4 ⟨fun h => (by cases h), fun h => absurd (lk_mem.1 c5) h.2.2⟩
    · have hnot : x ∉ (l.take i).map (·.1) := fun h => by rw [lk_mem.2 h] at c5; cases c5
      refine h_callE (.bool (decide (kindC x = 4))) (fun s1 h1 h2 h3 h4 => isVarW hxb hxl h2 (hG.keep h1.ro)) rfl rfl ?_
      refine h_not rfl rfl ?_
      refine h_cond rfl (fun c6 => ?_) (fun c6 => ?_)
      · refine h_cut (fun vs bs D U => vs = [.map mm, bv, .int .i64 ((l.length : Nat) : Int), .int .i64 ((i : Nat) : Int), .bool true, nm, rw, .str [], .nilslice, .str x, nm1, rw1] ∧ bs = [b1, b2, b3] ∧ D = [mm] ∧ U = (fun s => MP s mm M)) ⟨rfl, rfl, rfl, rfl⟩ mp_stb ?_
        rintro _ _ _ _ ⟨rfl, rfl, rfl, rfl⟩ - - -
        exact key true b3 b4 ⟨fun h => (by cases h), fun h => by rw [decide_eq_true h.1] at c6; cases c6⟩
      · have h4k : kindC x = 4 := by simpa using c6
        refine h_callE (.int .i64 (if vld tx = true then ((szT tx : Nat) : Int) else 0)) (fun s1 h1 h2 h3 h4 => sizeIW hK (Nat.le_trans hn h1.next) hR1 h2 (hG.keep h1.ro) (hkk s1 h1)) rfl rfl ?_
        refine h_eql rfl rfl rfl ?_
        refine h_cut (fun vs bs D U => vs = [.map mm, bv, .int .i64 ((l.length : Nat) : Int), .int .i64 ((i : Nat) : Int), .bool (decide ((if vld tx = true then ((szT tx : Nat) : Int) else 0) = 0)), nm, rw, .str [], .nilslice, .str x, nm1, rw1] ∧ bs = [b1, b2, b3] ∧ D = [mm] ∧ U = (fun s => MP s mm M)) ⟨rfl, rfl, rfl, rfl⟩ mp_stb ?_
        rintro _ _ _ _ ⟨rfl, rfl, rfl, rfl⟩ - - -
        refine key _ b3 b4 ⟨fun h => ⟨h4k, ?_, hnot⟩, fun h => decide_eq_false (by rw [if_pos h.2.1]; omega)⟩
        cases hvx : vld tx with
        | true => rfl
        | false => rw [hvx] at h; simp at h
  · have hil : i = l.length := by omega
    subst hil
    rw [List.drop_length] at hbo
    simp only [bOk] at hbo
    rw [List.take_length] at hM
    have hap2 : apI l t = if vld (ptI l t 0).1 = true then ((ptI l t 0).1, 0) else (.mk [] [], 39) := by rw [hap, if_pos hbo.symm]
    have hbok := bOk_ok hbo.symm
    refine h_new fun b5 hb5 hd5 => ?_
    refine h_callD fun s1 k1 k2 k3 k4 => ?_
    have g5 : s1.get b5 = some (CntB 0) := k4.1
    have hmp : s1.get mm = some (.map (mpE M 0) M.length) := k3
    have hne : mm ≠ b5 := fun h => by subst h; rw [hmp] at g5; cases g5
    have hml : mm < s1.next := k2 mm _ hmp
    have hKf : Kf (fun s => K s ∧ MP s mm M) b5 s1.next := by
      intro F a b hF hf hk
      refine ⟨hK F a b (fun g hg => ?_) hf hk.1, hf.keep mm _ (fun h => ?_) hk.2⟩
      · have := k1.next
        rcases hF g hg with h | h <;> omega
      · rcases hF mm h with h | h
        · exact hne h
        · omega
    have hnil : ∀ x t', lkT x l = some t' → ∀ N, PutW 44 cpT .nilmap (fun s => K s ∧ MP s mm M) T0 b5 s1.next N := fun x t' hx N => by
      have := putIW (Ko := T0) hKf lk_nil rfl (m := []) (fun x t h => by cases h) (fun x t h => by cases h) N
      rw [show (cpT : Ty → Nat → Ty × Nat) = ptI [] from funext fun t => funext fun c => (cp_nil t c).symm]
      exact this
    have hsz : ∀ x t', lkT x l = some t' → szT t' ≤ 99999 := fun x t' hx => sz_lt (hbok x t' hx).2
    have hle := pt_le (m := l) t 0
    have hsb : szT (sbT l t) ≤ 4611686018427387903 := by
      have h1 := sb_le (m := l) (B := 2000) (by omega) (fun x t' hx => (vld_parts (hbok x t' hx).2).1) t
      have h2 := (vld_parts hv).1
      have h3 : szT t * 2000 ≤ 2000 * 2000 := Nat.mul_le_mul_right _ h2
      omega
    obtain ⟨v, s2, hcall, nm2, rw2, G, rfl, hMT, hGn, hc2, hf⟩ := putIW (Ko := T0) hKf (hM.lk hkm fun _ h => h) rfl hsz hnil (szT t) t 0 nm rw s1 (Nat.le_refl _) (sz_lt hv) (hR.mono fun _ h => h.1) k2 ⟨hK.still _ _ k1 hk, k3⟩ (Nat.le_refl _) g5 (by omega)
    have hoM := hMT.one
    refine .inl ⟨[.int .i64 (((ptI l t 0).2 : Nat) : Int), nm2, rw2], _, s2, G, MT T0 G (ptI l t 0).1 nm2 rw2, inferInstance, rfl, by simp [onesV, hoM.1, hoM.2, one_int], hcall, hf.mono (by simp [idsOf]; exact .inl rfl), ⟨hc2, trivial⟩, MT.stb, hMT, fun g hg => ⟨hMT.2 g hg, .inr (hGn g hg)⟩, ?_⟩
    refine h_new fun b6 hb6 hd6 => ?_
    refine h_callE (.int .i64 (if vld (ptI l t 0).1 = true then ((szT (ptI l t 0).1 : Nat) : Int) else 0)) (fun s1 h1 h2 h3 h4 => sizeIW (h3.kn kn_t0 (Nat.zero_le _)) (Nat.le_refl _) h3.1 h2 (hG.keep h1.ro) ⟨trivial, KB.refl _ _⟩) rfl rfl ?_
    refine h_eql rfl rfl rfl ?_
    have hpo := szT_pos (ptI l t 0).1
    refine h_if rfl (fun c7 => ?_) (fun c7 => ?_)
    · have hvo : ¬ vld (ptI l t 0).1 = true := fun h => by rw [if_pos h] at c7; omega
      exact h_ret fun s1 h1 h2 h3 h4 => no h1 (by rw [hap2, if_neg hvo])
    · have hvo : vld (ptI l t 0).1 = true := by
        cases hv : vld (ptI l t 0).1 with
        | true => rfl
        | false => rw [hv] at c7; exact absurd rfl c7
      have hap3 : apI l t = ((ptI l t 0).1, 0) := by rw [hap2, if_pos hvo]
      exact h_ret fun s4 h1 h2 h3 h4 => ⟨_, _, rfl, nm2, rw2, G, by rw [hap3]; rfl, by rw [hap3]; exact h3, fun g hg => Nat.le_trans k1.next (hGn g hg), h1⟩
end
end Go.AI.Lx
/- What stands for a scheme's variables in a type, in plain terms. -/
namespace Go.AI.Lx
open Go.Proofs Go.Proofs.YtkeaedhoaamfnaaGreatDoor
set_option maxRecDepth 10000
mutual
def sameT : Ty → Ty → Bool
  | .mk a l, .mk b q => decide (a = b) && decide (l.length = q.length) && sameTs l q
def sameTs : List Ty → List Ty → Bool
  | t :: r, u :: q => sameT t u && sameTs r q
  | _, _ => true
end
mutual
theorem sameT_iff : ∀ (t u : Ty), sameT t u = true ↔ t = u
  | .mk a l, .mk b q => by
    simp only [sameT, Bool.and_eq_true, decide_eq_true_eq, Ty.mk.injEq]
    constructor
    · rintro ⟨⟨h1, h2⟩, h3⟩; exact ⟨h1, (sameTs_iff l q h2).1 h3⟩
    · rintro ⟨h1, h2⟩; subst h2; exact ⟨⟨h1, rfl⟩, (sameTs_iff l l rfl).2 rfl⟩
theorem sameTs_iff : ∀ (l q : List Ty), l.length = q.length → (sameTs l q = true ↔ l = q)
  | [], [], _ => by simp only [sameTs]
  | [], _ :: _, h => by simp at h
  | _ :: _, [], h => by simp at h
  | t :: r, u :: q, h => by
    simp only [sameTs, Bool.and_eq_true, List.cons.injEq]
    rw [sameT_iff t u, sameTs_iff r q (by simpa using h)]
end
theorem sameT_refl (t : Ty) : sameT t t = true := (sameT_iff t t).2 rfl
end Go.AI.Lx
/- The reference's comparison of types. -/
namespace Go.AI.Lx
open Go.Proofs Go.Proofs.YtkeaedhoaamfnaaGreatDoor
set_option maxRecDepth 10000
section
variable {K : S → Prop}
theorem sameRW (hK : Still K) : ∀ (N : Nat) (t u : Ty) (nm rw nm' rw' : V) (s : S), szT t ≤ N → RdT K t nm rw → RdT K u nm' rw' → WF s → K s → Cw envB 19 [.agg [nm, rw], .agg [nm', rw']] s fun v s' => v = .bool (sameT t u) ∧ Fw [] s s' := by
  intro N
  induction N with
  | zero => intro t u nm rw nm' rw' s h; cases t; simp only [szT] at h; omega
  | succ N ih =>
    intro t u nm rw nm' rw' s hN hR hR' hw hk
    have ho := hR.one
    have ho' := hR'.one
    refine cw_of_co (x_enter (C := cfg_sameR) (e := ⟨[nm, rw, nm', rw'], []⟩) (F := []) (orc_no rfl rfl rfl) Tryz.func19 rfl (by kernel_rfl) run_sameR rfl ⟨rfl, by simp [onesV, ho.1, ho.2, ho'.1, ho'.2], rfl⟩ rfl hw rfl (by simp) trivial stb_true trivial (by simp) ?_)
    obtain ⟨name, args⟩ := t
    obtain ⟨name', args'⟩ := u
    simp only [RdT] at hR hR'
    obtain ⟨rfl, hb, hbl, cs, hrow, hts⟩ := hR
    obtain ⟨rfl, hb', hbl', cs', hrow', hts'⟩ := hR'
    have hlen := hts.len
    have hlt := hrow.lt
    have hlen' := hts'.len
    have hlt' := hrow'.lt
    simp only [szT] at hN
    have key : ∀ (q : Bool) (b1 b2 : Nat) (L : List LProp), (q = false ↔ name = name' ∧ args.length = args'.length) → holds envB [] s (Ret fun v s' => v = .bool (sameT (.mk name args) (.mk name' args')) ∧ Fw [] s s') sub1_sameR ⟨[.bool q, .str name, rw, .str name', rw'], [b1, b2]⟩ [] T0 L := by
      intro q b1 b2 L hq
      refine h_cond rfl (fun c1 => ?_) (fun c1 => ?_)
      · refine h_ret fun s1 h1 h2 h3 h4 => ⟨_, _, rfl, ?_, h1⟩
        have hno : ¬ (name = name' ∧ args.length = args'.length) := fun h => by rw [hq.2 h] at c1; cases c1
        show V.bool false = _
        congr 1
        cases hs : sameT (.mk name args) (.mk name' args') with
        | false => rfl
        | true => have := (sameT_iff _ _).1 hs; simp only [Ty.mk.injEq] at this; exact absurd ⟨this.1, by rw [this.2]⟩ hno
      · obtain ⟨hn, hl⟩ := hq.1 c1
        subst hn
        have hsp : sameT (.mk name args) (.mk name args') = sameTs args args' := by simp only [sameT, hl, decide_true, Bool.true_and]
        rw [hsp]
        refine h_loop0 (fun j vs bs => ∃ i, i ≤ args.length ∧ j = args.length - i ∧ vs = [.int .i64 ((i : Nat) : Int), .str name, rw, .str name, rw'] ∧ bs = [b1, b2] ∧ sameTs (args.drop i) (args'.drop i) = sameTs args args') args.length ⟨0, by omega, rfl, rfl, rfl, by simp⟩ ?_
        rintro j _ _ ⟨i, hi, rfl, rfl, rfl, hf⟩
        refine h_len rfl (fun s1 _ _ => hrow.len und23 s1) rfl ?_
        refine h_lss rfl rfl rfl ?_
        refine h_if rfl (fun c2 => ?_) (fun c2 => ?_)
        · obtain ⟨x, hx, hd⟩ := drop_at (show i < args.length by omega)
          obtain ⟨y, hy, hd'⟩ := drop_at (show i < args'.length by omega)
          rw [hd, hd'] at hf
          simp only [sameTs] at hf
          obtain ⟨nm1, rw1, hx1, hR1⟩ := hts.at hx
          obtain ⟨p, hp, hld⟩ := hrow.at und23 ty_size25 hx1
          obtain ⟨nm2, rw2, hx2, hR2⟩ := hts'.at hy
          obtain ⟨p', hp', hld'⟩ := hrow'.at und23 ty_size25 hx2
          have ho1 := hR1.one
          have ho2 := hR2.one
          have hsz := szTs_at hx
          refine h_ask1 (.ptr p) rfl (fun s1 h1 h2 h3 h4 => hp) rfl ?_
          refine h_askN [nm1, rw1] (.agg [nm1, rw1]) rfl (by simp [onesV, ho1.1, ho1.2]) (fun s1 h1 h2 h3 h4 => load_agg (hld s1 (hK _ _ h1 hk))) rfl ?_
          refine h_ask1 (.ptr p') rfl (fun s1 h1 h2 h3 h4 => hp') rfl ?_
          refine h_askN [nm2, rw2] (.agg [nm2, rw2]) rfl (by simp [onesV, ho2.1, ho2.2]) (fun s1 h1 h2 h3 h4 => load_agg (hld' s1 (hK _ _ h1 hk))) rfl ?_
          refine h_callE (.bool (sameT x y)) (fun s1 h1 h2 h3 h4 => ih x y nm1 rw1 nm2 rw2 s1 (by omega) hR1 hR2 h2 (hK _ _ h1 hk)) rfl rfl ?_
          refine h_not rfl rfl ?_
          refine h_cond rfl (fun c3 => ?_) (fun c3 => ?_)
          · have h0 : sameT x y = false := by simpa using c3
            exact h_ret fun s1 h1 h2 h3 h4 => ⟨_, _, rfl, by rw [← hf, h0]; rfl, h1⟩
          · have h0 : sameT x y = true := by simpa using c3
            rw [h0, Bool.true_and] at hf
            refine h_add (r := ((i + 1 : Nat) : Int)) rfl rfl (by rw [show ((i : Nat) : Int) + 1 = ((i + 1 : Nat) : Int) by omega]; exact wrap_in _ ⟨by omega, by omega⟩) rfl ?_
            exact h_back0 (args.length - (i + 1)) rfl (by omega) ⟨i + 1, by omega, rfl, rfl, rfl, hf⟩
        · have : i = args.length := by omega
          subst this
          rw [List.drop_length] at hf
          simp only [sameTs] at hf
          exact h_ret fun s1 h1 h2 h3 h4 => ⟨_, _, rfl, by rw [← hf]; rfl, h1⟩
    refine h_new fun b1 hb1 hd1 => ?_
    refine h_new fun b2 hb2 hd2 => ?_
    refine h_neqS rfl rfl hb hb' rfl ?_
    refine h_cond rfl (fun c4 => ?_) (fun c4 => ?_)
    · have hne : name ≠ name' := by simpa using c4
      exact h_cutE (key true _ _ _ ⟨fun h => (by cases h), fun h => absurd h.1 hne⟩)
    · have heq : name = name' := by simpa using c4
      refine h_len rfl (fun s1 _ _ => hrow.len und23 s1) rfl ?_
      refine h_len rfl (fun s1 _ _ => hrow'.len und23 s1) rfl ?_
      refine h_neq rfl rfl rfl ?_
      exact h_cutE (key _ _ _ _ ⟨fun h => ⟨heq, by have := of_decide_eq_false h; omega⟩, fun h => decide_eq_false (by omega)⟩)
end
end Go.AI.Lx
