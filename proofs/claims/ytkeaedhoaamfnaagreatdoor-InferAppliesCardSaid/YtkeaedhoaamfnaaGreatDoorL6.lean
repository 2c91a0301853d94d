/- What the functions answer in the evaluator: part 6. No conditions beyond those of the row. -/
import Derived.Test.YtkeaedhoaamfnaaGreatDoorL5
import Derived.Test.YtkeaedhoaamfnaaGreatDoorX4
import Derived.KernelRfl
set_option linter.unusedVariables false
set_option linter.unusedSimpArgs false
noncomputable section
/- The scanner's functions in symbolic walks: words. -/
namespace Go.AI
theorem Fw.strike {b : Nat} {F : List Nat} {s s' : S} (h : Fw (b :: F) s s') (hb : ∀ B, s.get b = some B → s'.get b = some B) : Fw F s s' :=
  ⟨fun g B hg hB => if hgb : g = b then by subst hgb; exact hb B hB else h.keep g B (by simp [hgb, hg]) hB, h.ro, h.next, h.wf⟩
end Go.AI
namespace Go.AI.Lx
open Go.Proofs Go.Proofs.YtkeaedhoaamfnaaGreatDoor
abbrev signs : List Nat := [40, 41, 44, 59, 58, 124, 61, 60, 43, 45, 42, 47, 37, 95]
def signN (l : List Nat) (i : Nat) : Nat :=
  if i + 1 < l.length ∧ ((l.drop i).take 2 = [61, 62] ∨ (l.drop i).take 2 = [45, 62]) then 2 else if peekN l i ∈ signs then 1 else 0
theorem signs_lt : ∀ c ∈ signs, c < 256 := by
  intro c hc
  simp only [signs, List.mem_cons, List.mem_nil_iff, or_false] at hc
  omega
theorem drop_at' {α : Type} {l : List α} {i : Nat} (h : i < l.length) : ∃ x, l[i]? = some x ∧ l.drop i = x :: l.drop (i + 1) := ⟨l[i], List.getElem?_eq_getElem h, List.drop_eq_getElem_cons h⟩
theorem byteW {f : FuncId} {p : Nat → Bool} (hf : findByte byteFn f = some p) {c : Nat} (hc : c < 256) (s : S) : Cw envB f [.int .u8 (c : Int)] s fun w s' => w = .bool (p c) ∧ Fw [] s s' :=
  ⟨_, s, byteCall hf hc s, rfl, Fw.refl [] s⟩
theorem cw_fw {E : Env} {f : FuncId} {args : List V} {s : S} {P : V → Prop} (h : Cw E f args s fun v s' => P v ∧ s = s') : Cw E f args s fun v s' => P v ∧ Fw [] s s' :=
  h.mono fun _ _ ⟨h1, h2⟩ => ⟨h1, h2 ▸ Fw.refl [] s⟩
def numeric (l : List Nat) : Prop := bDigit (peekN l 0) = true ∨ peekN l 0 = 126
def tokC (l : List Nat) : Option (Int × Nat) :=
  if peekN l 0 = 39 ∧ 1 < l.length ∧ bSmall (peekN l 1) = true then (if 1 + runN bPart l 1 > 24 then none else some (4, 1 + runN bPart l 1))
  else if bSmall (peekN l 0) = true ∨ bGreat (peekN l 0) = true then
    (if nameLen l 0 > 24 then none else some (if bGreat (peekN l 0) = true then 3 else if l.take (nameLen l 0) ∈ words then 5 else 2, nameLen l 0))
  else if signN l 0 = 0 then none else some (6, signN l 0)
def ReadR (l : List Nat) (v : V) : Prop := ∃ (k a e : Int) (x : List Nat), v = .tuple [.agg [.int .i64 k, .int .i64 a, .str x, .int .i64 0], .int .i64 e] ∧
  (numeric l → e = 0 → k = 1) ∧ (¬ numeric l → match tokC l with | none => e ≠ 0 | some (k', m) => e = 0 ∧ k = k' ∧ x = l.take m)
theorem peek_at {l : List Nat} {i c : Nat} (h : l[i]? = some c) : peekN l i = c := by simp [peekN, h]
theorem at_of_lt {l : List Nat} {i : Nat} (hb : Bytes l) (h : i < l.length) : l[i]? = some (peekN l i) ∧ peekN l i < 256 := by
  have h1 : l[i]? = some l[i] := List.getElem?_eq_getElem h
  have h2 := peek_at h1
  rw [h2]; exact ⟨h1, hb.at h1⟩
theorem signN_le (l : List Nat) (i : Nat) (h : i < l.length) : i + signN l i ≤ l.length := by
  unfold signN
  split
  · omega
  · split <;> omega
theorem peekN_lt {l : List Nat} (hb : Bytes l) (i : Nat) : peekN l i < 256 := by
  unfold peekN
  cases h : l[i]? with
  | none => simp
  | some c => exact hb.at h
def numericAt (l : List Nat) (p : Nat) : Prop := bDigit (peekN l p) = true ∨ peekN l p = 126
theorem runN_pos {q : Nat → Bool} {l : List Nat} {p : Nat} (hp : p < l.length) (h : q (peekN l p) = true) : 1 ≤ runN q l p := by
  unfold runN
  have h1 : l.drop p = l[p] :: l.drop (p + 1) := List.drop_eq_getElem_cons hp
  rw [h1]
  have h2 : peekN l p = l[p] := peek_at (List.getElem?_eq_getElem hp)
  rw [h2] at h
  rw [List.takeWhile_cons_of_pos h]
  simp
end Go.AI.Lx
/- The reference's reading of a token: what the executor makes of it. -/
namespace Go.AI.Lx
open Go.Proofs Go.Proofs.YtkeaedhoaamfnaaGreatDoor
def anns_readR : List LoopAnn := [⟨6, [(0, false), (1, false), (4, false), (7, true)], []⟩]
noncomputable def code_readR : Code := match Tryz.f71.body with | some c => c | none => .skip
noncomputable def cfg_readR : Cfg := ⟨envB, Tryz.f71, anns_readR, [], [⟨100003, [(0, false), (1, false), (4, false), (6, false), (22, true)], []⟩, ⟨100010, [(0, false), (1, false), (4, false), (7, false), (8, false), (67, true)], []⟩, ⟨100013, [(0, false), (1, false), (4, false), (6, false), (91, true)], []⟩, ⟨100018, [(0, false), (1, false), (4, false), (6, false), (112, true)], []⟩, ⟨26, [(0, false), (1, false), (4, false), (11, false), (12, true)], []⟩], 0⟩
def sub0_readR : Tree := .cond 3 (.ret (.tuple [.agg [.int .i64 0, .int .i64 0, .str [], .int .i64 0], .int .i64 13]) []) (.ask (.slice 9 (.atom 0) (some (.int .i64 0)) (some (.atom 1)) none) true [] 1 (.atom 8) (.ret (.tuple [.agg [.int .i64 1, .atom 2, .atom 8, .int .i64 0], .int .i64 0]) []))
def sub1_readR : Tree := .ask (.bif .len #[9] [.atom 0]) true [] 1 (.atom 6) (.ask (.bin .lss 3 false (.atom 1) (.atom 6)) true [] 1 (.atom 7) (.cond 7 (.ask (.index 9 (.atom 0) (.atom 1)) true [] 1 (.atom 8) (.call 103 [.atom 8] [] [] 1 (.atom 9) false (.cond 9 (.ask (.bin .add 3 true (.atom 1) (.int .i64 1)) true [] 1 (.atom 10) (.back 0 [.atom 0, .atom 10, .atom 2, .atom 3, .atom 4, .atom 5] [0])) (.ask (.slice 9 (.atom 0) (some (.int .i64 0)) (some (.atom 1)) none) true [] 1 (.atom 10) (.call 104 [.atom 10] [] [] 2 (.tuple [.atom 11, .atom 12]) false (.ask (.bin .neq 31 true (.atom 12) (.int .i64 0)) true [] 1 (.atom 13) (.cond 13 (.cut 8 [.atom 0, .atom 1, .atom 11, .bool true, .atom 2, .atom 3, .atom 4, .atom 5] [0] [.cells 117 false 1 [⟨0, 0, [.atom 4, .atom 5, .atom 6, .atom 7]⟩]] sub0_readR) (.ask (.bif .len #[9] [.atom 0]) true [] 1 (.atom 14) (.ask (.bin .lss 3 false (.atom 1) (.atom 14)) true [] 1 (.atom 15) (.cond 15 (.ask (.index 9 (.atom 0) (.atom 1)) true [] 1 (.atom 16) (.call 105 [.atom 16] [] [] 1 (.atom 17) false (.cond 17 (.cut 8 [.atom 0, .atom 1, .atom 11, .bool true, .atom 2, .atom 3, .atom 4, .atom 5] [0] [.cells 117 false 1 [⟨0, 0, [.atom 4, .atom 5, .atom 6, .atom 7]⟩]] sub0_readR) (.ask (.index 9 (.atom 0) (.atom 1)) true [] 1 (.atom 18) (.ask (.bin .eql 5 true (.atom 18) (.int .u8 39)) true [] 1 (.atom 19) (.cut 8 [.atom 0, .atom 1, .atom 11, .atom 19, .atom 2, .atom 3, .atom 4, .atom 5] [0] [.cells 117 false 1 [⟨0, 0, [.atom 4, .atom 5, .atom 6, .atom 7]⟩]] sub0_readR)))))) (.cut 8 [.atom 0, .atom 1, .atom 11, .bool false, .atom 2, .atom 3, .atom 4, .atom 5] [0] [.cells 117 false 1 [⟨0, 0, [.atom 4, .atom 5, .atom 6, .atom 7]⟩]] sub0_readR))))))))))) (.ask (.slice 9 (.atom 0) (some (.int .i64 0)) (some (.atom 1)) none) true [] 1 (.atom 8) (.call 104 [.atom 8] [] [] 2 (.tuple [.atom 9, .atom 10]) false (.ask (.bin .neq 31 true (.atom 10) (.int .i64 0)) true [] 1 (.atom 11) (.cond 11 (.cut 8 [.atom 0, .atom 1, .atom 9, .bool true, .atom 2, .atom 3, .atom 4, .atom 5] [0] [.cells 117 false 1 [⟨0, 0, [.atom 4, .atom 5, .atom 6, .atom 7]⟩]] sub0_readR) (.ask (.bif .len #[9] [.atom 0]) true [] 1 (.atom 12) (.ask (.bin .lss 3 false (.atom 1) (.atom 12)) true [] 1 (.atom 13) (.cond 13 (.ask (.index 9 (.atom 0) (.atom 1)) true [] 1 (.atom 14) (.call 105 [.atom 14] [] [] 1 (.atom 15) false (.cond 15 (.cut 8 [.atom 0, .atom 1, .atom 9, .bool true, .atom 2, .atom 3, .atom 4, .atom 5] [0] [.cells 117 false 1 [⟨0, 0, [.atom 4, .atom 5, .atom 6, .atom 7]⟩]] sub0_readR) (.ask (.index 9 (.atom 0) (.atom 1)) true [] 1 (.atom 16) (.ask (.bin .eql 5 true (.atom 16) (.int .u8 39)) true [] 1 (.atom 17) (.cut 8 [.atom 0, .atom 1, .atom 9, .atom 17, .atom 2, .atom 3, .atom 4, .atom 5] [0] [.cells 117 false 1 [⟨0, 0, [.atom 4, .atom 5, .atom 6, .atom 7]⟩]] sub0_readR)))))) (.cut 8 [.atom 0, .atom 1, .atom 9, .bool false, .atom 2, .atom 3, .atom 4, .atom 5] [0] [.cells 117 false 1 [⟨0, 0, [.atom 4, .atom 5, .atom 6, .atom 7]⟩]] sub0_readR))))))))))
def sub2_readR : Tree := .ask (.slice 9 (.atom 0) (some (.int .i64 0)) (some (.atom 1)) none) true [] 1 (.atom 7) (.ret (.tuple [.agg [.atom 2, .int .i64 0, .atom 7, .int .i64 0], .int .i64 0]) [])
def sub3_readR : Tree := .cond 2 (.call 109 [.atom 0, .int .i64 0] [] [] 1 (.atom 7) false (.ask (.bin .sub 3 false (.atom 7) (.int .i64 0)) true [] 1 (.atom 8) (.ask (.bin .gtr 3 true (.atom 8) (.int .i64 24)) true [] 1 (.atom 9) (.cond 9 (.ret (.tuple [.agg [.int .i64 0, .int .i64 0, .str [], .int .i64 0], .int .i64 2]) []) (.call 108 [.atom 1] [] [] 1 (.atom 10) false (.cond 10 (.cut 7 [.atom 0, .atom 7, .int .i64 3, .atom 3, .atom 4, .atom 5, .atom 6] [0] [.cells 117 false 1 [⟨0, 0, [.atom 3, .atom 4, .atom 5, .atom 6]⟩]] sub2_readR) (.ask (.slice 9 (.atom 0) (some (.int .i64 0)) (some (.atom 7)) none) true [] 1 (.atom 11) (.call 110 [.atom 11] [] [] 1 (.atom 12) false (.cond 12 (.cut 7 [.atom 0, .atom 7, .int .i64 5, .atom 3, .atom 4, .atom 5, .atom 6] [0] [.cells 117 false 1 [⟨0, 0, [.atom 3, .atom 4, .atom 5, .atom 6]⟩]] sub2_readR) (.cut 7 [.atom 0, .atom 7, .int .i64 2, .atom 3, .atom 4, .atom 5, .atom 6] [0] [.cells 117 false 1 [⟨0, 0, [.atom 3, .atom 4, .atom 5, .atom 6]⟩]] sub2_readR)))))))))) (.call 111 [.atom 0, .int .i64 0] [] [] 1 (.atom 7) false (.ask (.bin .eql 3 true (.atom 7) (.int .i64 0)) true [] 1 (.atom 8) (.cond 8 (.ret (.tuple [.agg [.int .i64 0, .int .i64 0, .str [], .int .i64 0], .int .i64 11]) []) (.ask (.bin .add 3 false (.int .i64 0) (.atom 7)) true [] 1 (.atom 9) (.ask (.slice 9 (.atom 0) (some (.int .i64 0)) (some (.atom 9)) none) true [] 1 (.atom 10) (.ret (.tuple [.agg [.int .i64 6, .int .i64 0, .atom 10, .int .i64 0], .int .i64 0]) []))))))
def sub4_readR : Tree := .cond 2 (.call 107 [.atom 0, .int .i64 1] [] [] 1 (.atom 7) false (.ask (.bin .sub 3 false (.atom 7) (.int .i64 0)) true [] 1 (.atom 8) (.ask (.bin .gtr 3 true (.atom 8) (.int .i64 24)) true [] 1 (.atom 9) (.cond 9 (.ret (.tuple [.agg [.int .i64 0, .int .i64 0, .str [], .int .i64 0], .int .i64 2]) []) (.ask (.slice 9 (.atom 0) (some (.int .i64 0)) (some (.atom 7)) none) true [] 1 (.atom 10) (.ret (.tuple [.agg [.int .i64 4, .int .i64 0, .atom 10, .int .i64 0], .int .i64 0]) [])))))) (.call 106 [.atom 1] [] [] 1 (.atom 7) false (.cond 7 (.cut 7 [.atom 0, .atom 1, .bool true, .atom 3, .atom 4, .atom 5, .atom 6] [0] [.cells 117 false 1 [⟨0, 0, [.atom 3, .atom 4, .atom 5, .atom 6]⟩]] sub3_readR) (.call 108 [.atom 1] [] [] 1 (.atom 8) false (.cut 7 [.atom 0, .atom 1, .atom 8, .atom 3, .atom 4, .atom 5, .atom 6] [0] [.cells 117 false 1 [⟨0, 0, [.atom 3, .atom 4, .atom 5, .atom 6]⟩]] sub3_readR))))
def sub5_readR : Tree := .cond 2 (.ask (.bin .eql 5 true (.atom 1) (.int .u8 126)) true [] 1 (.atom 7) (.cond 7 (.loop 0 6 [.atom 0, .int .i64 1, .atom 3, .atom 4, .atom 5, .atom 6] [0] [.cells 117 false 1 [⟨0, 0, [.atom 2, .atom 3, .atom 4, .atom 5]⟩]] sub1_readR) (.loop 0 6 [.atom 0, .int .i64 0, .atom 3, .atom 4, .atom 5, .atom 6] [0] [.cells 117 false 1 [⟨0, 0, [.atom 2, .atom 3, .atom 4, .atom 5]⟩]] sub1_readR))) (.ask (.bin .eql 5 true (.atom 1) (.int .u8 39)) true [] 1 (.atom 7) (.cond 7 (.ask (.bif .len #[9] [.atom 0]) true [] 1 (.atom 8) (.ask (.bin .lss 3 false (.int .i64 1) (.atom 8)) true [] 1 (.atom 9) (.cond 9 (.ask (.index 9 (.atom 0) (.int .i64 1)) true [] 1 (.atom 10) (.call 106 [.atom 10] [] [] 1 (.atom 11) false (.cut 7 [.atom 0, .atom 1, .atom 11, .atom 3, .atom 4, .atom 5, .atom 6] [0] [.cells 117 false 1 [⟨0, 0, [.atom 3, .atom 4, .atom 5, .atom 6]⟩]] sub4_readR))) (.cut 7 [.atom 0, .atom 1, .bool false, .atom 3, .atom 4, .atom 5, .atom 6] [0] [.cells 117 false 1 [⟨0, 0, [.atom 3, .atom 4, .atom 5, .atom 6]⟩]] sub4_readR)))) (.cut 7 [.atom 0, .atom 1, .bool false, .atom 3, .atom 4, .atom 5, .atom 6] [0] [.cells 117 false 1 [⟨0, 0, [.atom 3, .atom 4, .atom 5, .atom 6]⟩]] sub4_readR)))
def tree_readR : Tree := .new (.ask (.index 9 (.atom 0) (.int .i64 0)) true [] 1 (.atom 1) (.ask (.bin .eql 5 true (.atom 1) (.int .u8 126)) true [] 1 (.atom 2) (.cond 2 (.cut 7 [.atom 0, .atom 1, .bool true, .int .i64 0, .int .i64 0, .str [], .int .i64 0] [0] [.cells 117 false 1 [⟨0, 0, [.atom 3, .atom 4, .atom 5, .atom 6]⟩]] sub5_readR) (.call 103 [.atom 1] [] [] 1 (.atom 3) false (.cut 7 [.atom 0, .atom 1, .atom 3, .int .i64 0, .int .i64 0, .str [], .int .i64 0] [0] [.cells 117 false 1 [⟨0, 0, [.atom 3, .atom 4, .atom 5, .atom 6]⟩]] sub5_readR)))))
theorem run_readR : xrun cfg_readR 400 [] [.code code_readR] (initT [.atom 0, .int .i64 0] 0 .leaf id) (listS ⟨.leaf, 0⟩ []) 1 = some tree_readR := by kernel_rfl
end Go.AI.Lx
/- Numbers in the reference: what the executor makes of them. -/
namespace Go.AI.Lx
open Go.Proofs Go.Proofs.YtkeaedhoaamfnaaGreatDoor
def anns_numberR : List LoopAnn := [⟨9, [(0, false), (4, false), (5, true), (6, false), (7, true)], []⟩]
noncomputable def code_numberR : Code := match Tryz.f104.body with | some c => c | none => .skip
noncomputable def cfg_numberR : Cfg := ⟨envB, Tryz.f104, anns_numberR, [(103, ⟨[], false⟩)], [⟨4, [(0, false), (4, true)], []⟩, ⟨100003, [(0, false), (4, false), (16, true)], []⟩, ⟨100005, [(0, false), (4, false), (36, true)], []⟩], 0⟩
def sub0_numberR : Tree := .ask (.bif .len #[9] [.atom 0]) true [] 1 (.atom 4) (.ask (.bin .lss 3 false (.atom 3) (.atom 4)) true [] 1 (.atom 5) (.cond 5 (.ask (.index 9 (.atom 0) (.atom 3)) true [] 1 (.atom 6) (.call 103 [.atom 6] [] [] 1 (.atom 7) false (.ask (.un .not (.atom 7)) true [] 1 (.atom 8) (.cond 8 (.ret (.tuple [.int .i64 0, .int .i64 13]) []) (.ask (.index 9 (.atom 0) (.atom 3)) true [] 1 (.atom 9) (.ask (.bin .sub 5 true (.atom 9) (.int .u8 48)) true [] 1 (.atom 10) (.ask (.conv 5 3 (.atom 10)) true [] 1 (.atom 11) (.ask (.bin .add 3 false (.int .i64 (-9223372036854775808)) (.atom 11)) true [] 1 (.atom 12) (.ask (.bin .quo 3 true (.atom 12) (.int .i64 10)) true [] 1 (.atom 13) (.ask (.bin .lss 3 false (.atom 2) (.atom 13)) true [] 1 (.atom 14) (.cond 14 (.ret (.tuple [.int .i64 0, .int .i64 13]) []) (.ask (.bin .mul 3 true (.int .i64 10) (.atom 2)) true [] 1 (.atom 15) (.ask (.bin .sub 3 false (.atom 15) (.atom 11)) true [] 1 (.atom 16) (.ask (.bin .add 3 true (.atom 3) (.int .i64 1)) true [] 1 (.atom 17) (.back 0 [.atom 0, .atom 1, .atom 16, .atom 17] []))))))))))))))) (.ask (.bin .eql 3 true (.atom 1) (.int .i64 1)) true [] 1 (.atom 6) (.cond 6 (.ret (.tuple [.atom 2, .int .i64 0]) []) (.ask (.bin .eql 3 false (.atom 2) (.int .i64 (-9223372036854775808))) true [] 1 (.atom 7) (.cond 7 (.ret (.tuple [.int .i64 0, .int .i64 13]) []) (.ask (.un .neg (.atom 2)) true [] 1 (.atom 8) (.ret (.tuple [.atom 8, .int .i64 0]) []))))))))
def sub1_numberR : Tree := .cond 2 (.ret (.tuple [.int .i64 0, .int .i64 13]) []) (.loop 0 4 [.atom 0, .atom 1, .int .i64 0, .atom 1] [] [] sub0_numberR)
def sub2_numberR : Tree := .ask (.bif .len #[9] [.atom 0]) true [] 1 (.atom 2) (.ask (.bin .eql 3 false (.atom 2) (.atom 1)) true [] 1 (.atom 3) (.cond 3 (.cut 3 [.atom 0, .atom 1, .bool true] [] [] sub1_numberR) (.ask (.bif .len #[9] [.atom 0]) true [] 1 (.atom 4) (.ask (.bin .gtr 3 true (.atom 4) (.int .i64 30)) true [] 1 (.atom 5) (.cond 5 (.cut 3 [.atom 0, .atom 1, .bool true] [] [] sub1_numberR) (.ask (.index 9 (.atom 0) (.atom 1)) true [] 1 (.atom 6) (.ask (.bin .eql 5 true (.atom 6) (.int .u8 48)) true [] 1 (.atom 7) (.cond 7 (.ask (.bif .len #[9] [.atom 0]) true [] 1 (.atom 8) (.ask (.bin .gtr 3 true (.atom 8) (.int .i64 1)) true [] 1 (.atom 9) (.cut 3 [.atom 0, .atom 1, .atom 9] [] [] sub1_numberR))) (.cut 3 [.atom 0, .atom 1, .bool false] [] [] sub1_numberR)))))))))
def sub3_numberR : Tree := .cond 1 (.cut 2 [.atom 0, .int .i64 1] [] [] sub2_numberR) (.cut 2 [.atom 0, .int .i64 0] [] [] sub2_numberR)
def tree_numberR : Tree := .ask (.bif .len #[9] [.atom 0]) true [] 1 (.atom 1) (.ask (.bin .gtr 3 true (.atom 1) (.int .i64 0)) true [] 1 (.atom 2) (.cond 2 (.ask (.index 9 (.atom 0) (.int .i64 0)) true [] 1 (.atom 3) (.ask (.bin .eql 5 true (.atom 3) (.int .u8 126)) true [] 1 (.atom 4) (.cut 2 [.atom 0, .atom 4] [] [] sub3_numberR))) (.cut 2 [.atom 0, .bool false] [] [] sub3_numberR)))
theorem run_numberR : xrun cfg_numberR 400 [] [.code code_numberR] (initT [.atom 0] 0 .leaf id) (listS ⟨.leaf, 0⟩ []) 1 = some tree_numberR := by kernel_rfl
end Go.AI.Lx
/- Numbers in the reference: two numbers come back. -/
namespace Go.AI.Lx
open Go.Proofs Go.Proofs.YtkeaedhoaamfnaaGreatDoor
set_option maxRecDepth 10000
section
variable {l : List Nat} {s : S} {L : List LProp}
abbrev QNum (s : S) : Out → Prop := Ret fun v s' => (∃ a e : Int, v = .tuple [.int .i64 a, .int .i64 e]) ∧ Fw [] s s'
theorem sub1_numberR_ok (hb : Bytes l) (hl : l.length < 4611686018427387904) {q : Bool} {i : Nat} (hi : i ≤ l.length) : holds envB [] s (QNum s) sub1_numberR ⟨[.str l, .int .i64 ((i : Nat) : Int), .bool q], []⟩ [] T0 L := by
  refine h_cond rfl (fun c6 => ?_) (fun c6 => ?_)
  · exact h_ret fun s1 h1 h2 h3 h4 => ⟨_, _, rfl, ⟨_, _, rfl⟩, h1⟩
  · refine h_loop0 (fun j vs bs => ∃ (n : Int) (k : Nat), k ≤ l.length ∧ j = l.length - k ∧ vs = [.str l, .int .i64 ((i : Nat) : Int), .int .i64 n, .int .i64 ((k : Nat) : Int)] ∧ bs = []) (l.length - i) ⟨0, i, hi, rfl, rfl, rfl⟩ ?_
    rintro j _ _ ⟨n, k, hk, rfl, rfl, rfl⟩
    refine h_lenS rfl Tryz.underlying9 rfl rfl ?_
    refine h_lss rfl rfl rfl ?_
    refine h_if rfl (fun c1 => ?_) (fun c1 => ?_)
    · have hat := at_of_lt hb (show k < l.length by omega)
      refine h_idxS Tryz.underlying9 rfl rfl hat rfl ?_
      refine h_callE (.bool (bDigit (peekN l k))) (fun s1 h1 h2 h3 h4 => byteW rfl hat.2 s1) rfl rfl ?_
      refine h_not rfl rfl ?_
      refine h_cond rfl (fun c2 => ?_) (fun c2 => ?_)
      · exact h_ret fun s1 h1 h2 h3 h4 => ⟨_, _, rfl, ⟨_, _, rfl⟩, h1⟩
      · refine h_idxS Tryz.underlying9 rfl rfl hat rfl ?_
        refine h_sub rfl rfl rfl rfl ?_
        refine h_convI (by rw [evB, Tryz.underlying5]; rfl) Tryz.underlying3 rfl rfl rfl ?_
        refine h_add rfl rfl rfl rfl ?_
        refine h_int (op := .quo) rfl rfl rfl ⟨rfl, rfl⟩ rfl ?_
        refine h_lss rfl rfl rfl ?_
        refine h_if rfl (fun c3 => ?_) (fun c3 => ?_)
        · exact h_ret fun s1 h1 h2 h3 h4 => ⟨_, _, rfl, ⟨_, _, rfl⟩, h1⟩
        · refine h_mul rfl rfl rfl rfl ?_
          refine h_sub rfl rfl rfl rfl ?_
          refine h_add (r := ((k + 1 : Nat) : Int)) rfl rfl (by rw [show ((k : Nat) : Int) + 1 = ((k + 1 : Nat) : Int) by omega]; exact wrap_in _ ⟨by omega, by omega⟩) rfl ?_
          exact h_back0 (l.length - (k + 1)) rfl (by omega) ⟨_, k + 1, by omega, rfl, rfl, rfl⟩
    · refine h_eql rfl rfl rfl ?_
      refine h_if rfl (fun c4 => ?_) (fun c4 => ?_)
      · exact h_ret fun s1 h1 h2 h3 h4 => ⟨_, _, rfl, ⟨_, _, rfl⟩, h1⟩
      · refine h_eql rfl rfl rfl ?_
        refine h_if rfl (fun c5 => ?_) (fun c5 => ?_)
        · exact h_ret fun s1 h1 h2 h3 h4 => ⟨_, _, rfl, ⟨_, _, rfl⟩, h1⟩
        · refine h_neg rfl rfl rfl ?_
          exact h_ret fun s1 h1 h2 h3 h4 => ⟨_, _, rfl, ⟨_, _, rfl⟩, h1⟩
theorem sub2_numberR_ok (hb : Bytes l) (hl : l.length < 4611686018427387904) {i : Nat} (hi : i ≤ l.length) : holds envB [] s (QNum s) sub2_numberR ⟨[.str l, .int .i64 ((i : Nat) : Int)], []⟩ [] T0 L := by
  refine h_lenS rfl Tryz.underlying9 rfl rfl ?_
  refine h_eql rfl rfl rfl ?_
  refine h_if rfl (fun c7 => ?_) (fun c7 => ?_)
  · exact h_cutE (sub1_numberR_ok hb hl hi (q := true))
  · refine h_lenS rfl Tryz.underlying9 rfl rfl ?_
    refine h_gtr rfl rfl rfl ?_
    refine h_if rfl (fun c8 => ?_) (fun c8 => ?_)
    · exact h_cutE (sub1_numberR_ok hb hl hi (q := true))
    · refine h_idxS Tryz.underlying9 rfl rfl (at_of_lt hb (by omega)) rfl ?_
      refine h_eql rfl rfl rfl ?_
      refine h_if rfl (fun c9 => ?_) (fun c9 => ?_)
      · refine h_lenS rfl Tryz.underlying9 rfl rfl ?_
        refine h_gtr rfl rfl rfl ?_
        exact h_cutE (sub1_numberR_ok hb hl hi)
      · exact h_cutE (sub1_numberR_ok hb hl hi (q := false))
theorem sub3_numberR_ok (hb : Bytes l) (hl : l.length < 4611686018427387904) {q : Bool} (hq : q = true → 1 ≤ l.length) : holds envB [] s (QNum s) sub3_numberR ⟨[.str l, .bool q], []⟩ [] T0 L := by
  refine h_cond rfl (fun c10 => ?_) (fun c10 => ?_)
  · exact h_cutE (sub2_numberR_ok hb hl (i := 1) (hq c10))
  · exact h_cutE (sub2_numberR_ok hb hl (i := 0) (Nat.zero_le _))
theorem numberW (hb : Bytes l) (hl : l.length < 4611686018427387904) (hw : WF s) : Cw envB 104 [.str l] s fun v s' => (∃ a e : Int, v = .tuple [.int .i64 a, .int .i64 e]) ∧ Fw [] s s' := by
  refine cw_of_co (x_enter (C := cfg_numberR) (e := ⟨[.str l], []⟩) (F := []) (orc_no rfl rfl rfl) Tryz.func104 rfl (by kernel_rfl) run_numberR rfl ⟨rfl, rfl, rfl⟩ rfl hw rfl (by simp) trivial stb_true trivial (by simp) ?_)
  refine h_lenS rfl Tryz.underlying9 rfl rfl ?_
  refine h_gtr rfl rfl rfl ?_
  refine h_if rfl (fun c11 => ?_) (fun c11 => ?_)
  · refine h_idxS (n := 0) Tryz.underlying9 rfl rfl (at_of_lt hb (by omega)) rfl ?_
    refine h_eql rfl rfl rfl ?_
    exact h_cutE (sub3_numberR_ok hb hl (fun _ => by omega))
  · exact h_cutE (sub3_numberR_ok hb hl (q := false) (fun h => by cases h))
end
end Go.AI.Lx
/- Names and signs in the reference: what the executor makes of them. -/
namespace Go.AI.Lx
open Go.Proofs Go.Proofs.YtkeaedhoaamfnaaGreatDoor
def anns_namedR : List LoopAnn := [⟨2, [(0, false), (5, true)], []⟩, ⟨5, [(0, false), (5, false), (6, true)], []⟩]
noncomputable def code_namedR : Code := match Tryz.f109.body with | some c => c | none => .skip
noncomputable def cfg_namedR : Cfg := ⟨envB, Tryz.f109, anns_namedR, [(103, ⟨[], false⟩), (105, ⟨[], false⟩), (106, ⟨[], false⟩), (108, ⟨[], false⟩), (107, ⟨[], false⟩), (109, ⟨[], false⟩), (110, ⟨[], false⟩)], [], 0⟩
def sub0_namedR : Tree := .ask (.bif .len #[9] [.atom 0]) true [] 1 (.atom 3) (.ask (.bin .lss 3 false (.atom 2) (.atom 3)) true [] 1 (.atom 4) (.cond 4 (.ask (.index 9 (.atom 0) (.atom 2)) true [] 1 (.atom 5) (.call 103 [.atom 5] [] [] 1 (.atom 6) false (.cond 6 (.ask (.bin .add 3 true (.atom 2) (.int .i64 1)) true [] 1 (.atom 7) (.back 0 [.atom 0, .atom 1, .atom 7] [])) (.ask (.bif .len #[9] [.atom 0]) true [] 1 (.atom 7) (.ask (.bin .lss 3 false (.atom 1) (.atom 7)) true [] 1 (.atom 8) (.cond 8 (.ask (.index 9 (.atom 0) (.atom 1)) true [] 1 (.atom 9) (.ask (.bin .eql 5 true (.atom 9) (.int .u8 39)) true [] 1 (.atom 10) (.cond 10 (.ask (.bin .add 3 true (.atom 1) (.int .i64 1)) true [] 1 (.atom 11) (.ask (.bin .gtr 3 false (.atom 2) (.atom 11)) true [] 1 (.atom 12) (.cond 12 (.ret (.atom 2) []) (.ret (.atom 1) [])))) (.ret (.atom 1) [])))) (.ret (.atom 1) []))))))) (.ask (.bif .len #[9] [.atom 0]) true [] 1 (.atom 5) (.ask (.bin .lss 3 false (.atom 1) (.atom 5)) true [] 1 (.atom 6) (.cond 6 (.ask (.index 9 (.atom 0) (.atom 1)) true [] 1 (.atom 7) (.ask (.bin .eql 5 true (.atom 7) (.int .u8 39)) true [] 1 (.atom 8) (.cond 8 (.ask (.bin .add 3 true (.atom 1) (.int .i64 1)) true [] 1 (.atom 9) (.ask (.bin .gtr 3 false (.atom 2) (.atom 9)) true [] 1 (.atom 10) (.cond 10 (.ret (.atom 2) []) (.ret (.atom 1) [])))) (.ret (.atom 1) [])))) (.ret (.atom 1) []))))))
def tree_namedR : Tree := .loop 0 2 [.atom 0, .atom 1] [] [] (.ask (.bif .len #[9] [.atom 0]) true [] 1 (.atom 2) (.ask (.bin .lss 3 false (.atom 1) (.atom 2)) true [] 1 (.atom 3) (.cond 3 (.ask (.index 9 (.atom 0) (.atom 1)) true [] 1 (.atom 4) (.call 105 [.atom 4] [] [] 1 (.atom 5) false (.cond 5 (.ask (.bin .add 3 true (.atom 1) (.int .i64 1)) true [] 1 (.atom 6) (.back 0 [.atom 0, .atom 6] [])) (.ask (.bin .add 3 true (.atom 1) (.int .i64 1)) true [] 1 (.atom 6) (.loop 0 3 [.atom 0, .atom 1, .atom 6] [] [] sub0_namedR))))) (.ask (.bin .add 3 true (.atom 1) (.int .i64 1)) true [] 1 (.atom 4) (.loop 0 3 [.atom 0, .atom 1, .atom 4] [] [] sub0_namedR)))))
theorem run_namedR : xrun cfg_namedR 400 [] [.code code_namedR] (initT [.atom 0, .atom 1] 0 .leaf id) (listS ⟨.leaf, 0⟩ []) 2 = some tree_namedR := by kernel_rfl
def anns_signR : List LoopAnn := [⟨5, [(0, false), (1, false), (5, false), (6, true)], []⟩]
noncomputable def code_signR : Code := match Tryz.f111.body with | some c => c | none => .skip
noncomputable def cfg_signR : Cfg := ⟨envB, Tryz.f111, anns_signR, [(103, ⟨[], false⟩), (105, ⟨[], false⟩), (106, ⟨[], false⟩), (108, ⟨[], false⟩), (107, ⟨[], false⟩), (109, ⟨[], false⟩), (110, ⟨[], false⟩)], [⟨100002, [(0, false), (1, false), (27, true)], []⟩], 0⟩
def sub0_signR : Tree := .ask (.bif .len #[9] [.str [40, 41, 44, 59, 58, 124, 61, 60, 43, 45, 42, 47, 37, 95]]) true [] 1 (.atom 3) (.ask (.bin .lss 3 false (.atom 2) (.atom 3)) true [] 1 (.atom 4) (.cond 4 (.ask (.index 9 (.str [40, 41, 44, 59, 58, 124, 61, 60, 43, 45, 42, 47, 37, 95]) (.atom 2)) false [] 1 (.atom 5) (.ask (.index 9 (.atom 0) (.atom 1)) false [] 1 (.atom 6) (.ask (.bin .eql 5 false (.atom 5) (.atom 6)) false [] 1 (.atom 7) (.cond 7 (.ret (.int .i64 1) []) (.ask (.bin .add 3 true (.atom 2) (.int .i64 1)) true [] 1 (.atom 8) (.back 0 [.atom 0, .atom 1, .atom 8] [])))))) (.ret (.int .i64 0) [])))
def sub1_signR : Tree := .cond 2 (.ret (.int .i64 2) []) (.loop 0 3 [.atom 0, .atom 1, .int .i64 0] [] [] sub0_signR)
def tree_signR : Tree := .ask (.bin .add 3 true (.atom 1) (.int .i64 1)) true [] 1 (.atom 2) (.ask (.bif .len #[9] [.atom 0]) true [] 1 (.atom 3) (.ask (.bin .lss 3 false (.atom 2) (.atom 3)) true [] 1 (.atom 4) (.cond 4 (.ask (.bin .add 3 true (.atom 1) (.int .i64 2)) true [] 1 (.atom 5) (.ask (.slice 9 (.atom 0) (some (.atom 1)) (some (.atom 5)) none) true [] 1 (.atom 6) (.ask (.bin .eql 9 true (.atom 6) (.str [61, 62])) true [] 1 (.atom 7) (.cond 7 (.cut 3 [.atom 0, .atom 1, .bool true] [] [] sub1_signR) (.ask (.bin .add 3 true (.atom 1) (.int .i64 2)) true [] 1 (.atom 8) (.ask (.slice 9 (.atom 0) (some (.atom 1)) (some (.atom 8)) none) true [] 1 (.atom 9) (.ask (.bin .eql 9 true (.atom 9) (.str [45, 62])) true [] 1 (.atom 10) (.cut 3 [.atom 0, .atom 1, .atom 10] [] [] sub1_signR)))))))) (.cut 3 [.atom 0, .atom 1, .bool false] [] [] sub1_signR))))
theorem run_signR : xrun cfg_signR 400 [] [.code code_signR] (initT [.atom 0, .atom 1] 0 .leaf id) (listS ⟨.leaf, 0⟩ []) 2 = some tree_signR := by kernel_rfl
end Go.AI.Lx
/- Names and signs in the reference. -/
namespace Go.AI.Lx
open Go.Proofs Go.Proofs.YtkeaedhoaamfnaaGreatDoor
set_option maxRecDepth 10000
section
variable {l : List Nat} {s : S}
def NI (l : List Nat) (i : Nat) (j : Nat) (vs : List V) (bs : List Nat) : Prop := ∃ k, i + 1 + runN bDigit l (i + 1) = k + runN bDigit l k ∧ i + 1 ≤ k ∧ j = l.length + 1 - k ∧ k ≤ l.length + 1 ∧ vs = [.str l, .int .i64 ((i : Nat) : Int), .int .i64 ((k : Nat) : Int)] ∧ bs = []
theorem named_in (hb : Bytes l) (hl : l.length < 4611686018427387904) {i j0 : Nat} (hi : i ≤ l.length) (hp : j0 + runN bPart l j0 = i) (j : Nat) (vs : List V) (bs : List Nat) (h : NI l i j vs bs) :
    holds envB [] s (Ret fun v s' => v = .int .i64 ((j0 + nameLen l j0 : Nat) : Int) ∧ Fw [] s s') sub0_namedR ⟨vs, bs⟩ [] T0 [LpOf (NI l i) j] := by
  obtain ⟨k, hk, hk2, rfl, hk3, rfl, rfl⟩ := h
  have hn : j0 + nameLen l j0 = if peekN l i = 39 ∧ 0 < runN bDigit l (i + 1) then i + 1 + runN bDigit l (i + 1) else i := by
    unfold nameLen; rw [hp]; split <;> omega
  have fin : ∀ (L : List LProp) (x : V) (h0 : runN bDigit l k = 0) (c3 : i < l.length), (peekN l i = 39 → x = .int .i64 ((if k > i + 1 then k else i : Nat) : Int)) → (peekN l i ≠ 39 → x = .int .i64 ((i : Nat) : Int)) → x = .int .i64 ((j0 + nameLen l j0 : Nat) : Int) := by
    intro L x h0 c3 h1 h2
    rw [hn]
    by_cases h39 : peekN l i = 39
    · rw [h1 h39]
      by_cases hgt : k > i + 1
      · rw [if_pos hgt, if_pos ⟨h39, by omega⟩, show i + 1 + runN bDigit l (i + 1) = k by omega]
      · rw [if_neg hgt, if_neg (fun h => by omega)]
    · rw [h2 h39, if_neg (fun h => h39 h.1)]
  refine h_lenS rfl Tryz.underlying9 rfl rfl ?_
  refine h_lss rfl rfl rfl ?_
  refine h_if rfl (fun c1 => ?_) (fun c1 => ?_)
  · have hat := at_of_lt hb (show k < l.length by omega)
    have hst := runN_step (q := bDigit) hat.1
    refine h_idxS Tryz.underlying9 rfl rfl hat rfl ?_
    refine h_callE (.bool (bDigit (peekN l k))) (fun s1 h1 h2 h3 h4 => byteW rfl hat.2 s1) rfl rfl ?_
    refine h_cond rfl (fun c2 => ?_) (fun c2 => ?_)
    · rw [if_pos c2] at hst
      refine h_add (r := ((k + 1 : Nat) : Int)) rfl rfl (by rw [show ((k : Nat) : Int) + 1 = ((k + 1 : Nat) : Int) by omega]; exact wrap_in _ ⟨by omega, by omega⟩) rfl ?_
      exact h_back0 (l.length + 1 - (k + 1)) rfl (by omega) ⟨k + 1, by omega, by omega, rfl, by omega, rfl, rfl⟩
    · rw [if_neg (by rw [c2]; simp)] at hst
      refine h_lenS rfl Tryz.underlying9 rfl rfl ?_
      refine h_lss rfl rfl rfl ?_
      refine h_if rfl (fun c3 => ?_) (fun c3 => ?_)
      · refine h_idxS Tryz.underlying9 rfl rfl (at_of_lt hb (by omega)) rfl ?_
        refine h_eql rfl rfl rfl ?_
        refine h_if rfl (fun c4 => ?_) (fun c4 => ?_)
        · refine h_add (r := ((i + 1 : Nat) : Int)) rfl rfl (by rw [show ((i : Nat) : Int) + 1 = ((i + 1 : Nat) : Int) by omega]; exact wrap_in _ ⟨by omega, by omega⟩) rfl ?_
          refine h_gtr rfl rfl rfl ?_
          refine h_if rfl (fun c5 => ?_) (fun c5 => ?_)
          · exact h_ret fun s1 h1 h2 h3 h4 => ⟨_, _, rfl, fin [] _ hst (by omega) (fun _ => by rw [if_pos (by omega)]; rfl) (fun h => absurd (by omega) h), h1⟩
          · exact h_ret fun s1 h1 h2 h3 h4 => ⟨_, _, rfl, fin [] _ hst (by omega) (fun _ => by rw [if_neg (by omega)]; rfl) (fun h => absurd (by omega) h), h1⟩
        · exact h_ret fun s1 h1 h2 h3 h4 => ⟨_, _, rfl, fin [] _ hst (by omega) (fun h => absurd (by omega) c4) (fun _ => rfl), h1⟩
      · omega
  · have hst := runN_end bDigit (l := l) (i := k) (by omega)
    refine h_lenS rfl Tryz.underlying9 rfl rfl ?_
    refine h_lss rfl rfl rfl ?_
    refine h_if rfl (fun c6 => ?_) (fun c6 => ?_)
    · refine h_idxS Tryz.underlying9 rfl rfl (at_of_lt hb (by omega)) rfl ?_
      refine h_eql rfl rfl rfl ?_
      refine h_if rfl (fun c7 => ?_) (fun c7 => ?_)
      · refine h_add (r := ((i + 1 : Nat) : Int)) rfl rfl (by rw [show ((i : Nat) : Int) + 1 = ((i + 1 : Nat) : Int) by omega]; exact wrap_in _ ⟨by omega, by omega⟩) rfl ?_
        refine h_gtr rfl rfl rfl ?_
        refine h_if rfl (fun c8 => ?_) (fun c8 => ?_)
        · exact h_ret fun s1 h1 h2 h3 h4 => ⟨_, _, rfl, fin [] _ hst (by omega) (fun _ => by rw [if_pos (by omega)]; rfl) (fun h => absurd (by omega) h), h1⟩
        · exact h_ret fun s1 h1 h2 h3 h4 => ⟨_, _, rfl, fin [] _ hst (by omega) (fun _ => by rw [if_neg (by omega)]; rfl) (fun h => absurd (by omega) h), h1⟩
      · exact h_ret fun s1 h1 h2 h3 h4 => ⟨_, _, rfl, fin [] _ hst (by omega) (fun h => absurd (by omega) c7) (fun _ => rfl), h1⟩
    · have he : i = l.length := by omega
      have h0 := runN_end bDigit (l := l) (i := i + 1) (by omega)
      exact h_ret fun s1 h1 h2 h3 h4 => ⟨_, _, rfl, by rw [hn, if_neg (fun h => by omega)]; rfl, h1⟩
theorem namedW (hb : Bytes l) (hl : l.length < 4611686018427387904) {i : Nat} (hi : i ≤ l.length) (hw : WF s) : Cw envB 109 [.str l, .int .i64 ((i : Nat) : Int)] s fun v s' => v = .int .i64 ((i + nameLen l i : Nat) : Int) ∧ Fw [] s s' := by
  refine cw_of_co (x_enter (C := cfg_namedR) (e := ⟨[.str l, .int .i64 ((i : Nat) : Int)], []⟩) (F := []) (orc_no rfl rfl rfl) Tryz.func109 rfl (by kernel_rfl) run_namedR rfl ⟨rfl, rfl, rfl⟩ rfl hw rfl (by simp) trivial stb_true trivial (by simp) ?_)
  refine h_loop0 (fun j vs bs => ∃ k, i ≤ k ∧ k ≤ l.length ∧ k + runN bPart l k = i + runN bPart l i ∧ j = l.length - k ∧ vs = [.str l, .int .i64 ((k : Nat) : Int)] ∧ bs = []) (l.length - i) ⟨i, Nat.le_refl _, hi, rfl, rfl, rfl, rfl⟩ ?_
  rintro j _ _ ⟨k, hk1, hk2, hk3, rfl, rfl, rfl⟩
  refine h_lenS rfl Tryz.underlying9 rfl rfl ?_
  refine h_lss rfl rfl rfl ?_
  refine h_if rfl (fun c9 => ?_) (fun c9 => ?_)
  · have hat := at_of_lt hb (show k < l.length by omega)
    have hst := runN_step (q := bPart) hat.1
    refine h_idxS Tryz.underlying9 rfl rfl hat rfl ?_
    refine h_callE (.bool (bPart (peekN l k))) (fun s1 h1 h2 h3 h4 => byteW rfl hat.2 s1) rfl rfl ?_
    refine h_cond rfl (fun c10 => ?_) (fun c10 => ?_)
    · rw [if_pos c10] at hst
      refine h_add (r := ((k + 1 : Nat) : Int)) rfl rfl (by rw [show ((k : Nat) : Int) + 1 = ((k + 1 : Nat) : Int) by omega]; exact wrap_in _ ⟨by omega, by omega⟩) rfl ?_
      exact h_back0 (l.length - (k + 1)) rfl (by omega) ⟨k + 1, by omega, by omega, by omega, rfl, rfl, rfl⟩
    · rw [if_neg (by rw [c10]; simp)] at hst
      refine h_add (r := ((k + 1 : Nat) : Int)) rfl rfl (by rw [show ((k : Nat) : Int) + 1 = ((k + 1 : Nat) : Int) by omega]; exact wrap_in _ ⟨by omega, by omega⟩) rfl ?_
      exact h_loop0 (NI l k) (l.length + 1 - (k + 1)) ⟨k + 1, rfl, Nat.le_refl _, rfl, by omega, rfl, rfl⟩ (named_in hb hl (by omega) (by omega))
  · have hst := runN_end bPart (l := l) (i := k) (by omega)
    refine h_add (r := ((k + 1 : Nat) : Int)) rfl rfl (by rw [show ((k : Nat) : Int) + 1 = ((k + 1 : Nat) : Int) by omega]; exact wrap_in _ ⟨by omega, by omega⟩) rfl ?_
    exact h_loop0 (NI l k) (l.length + 1 - (k + 1)) ⟨k + 1, rfl, Nat.le_refl _, rfl, by omega, rfl, rfl⟩ (named_in hb hl (by omega) (by omega))
theorem sub1_signR_ok (hb : Bytes l) {i : Nat} (hi : i < l.length) {q : Bool} (hq : q = true ↔ i + 1 < l.length ∧ ((l.drop i).take 2 = [61, 62] ∨ (l.drop i).take 2 = [45, 62])) {L : List LProp} :
    holds envB [] s (Ret fun v s' => v = .int .i64 ((signN l i : Nat) : Int) ∧ Fw [] s s') sub1_signR ⟨[.str l, .int .i64 ((i : Nat) : Int), .bool q], []⟩ [] T0 L := by
  refine h_cond rfl (fun c3 => ?_) (fun c3 => ?_)
  · exact h_ret fun s1 h1 h2 h3 h4 => ⟨_, _, rfl, by unfold signN; rw [if_pos (hq.1 c3)]; rfl, h1⟩
  · have hs : signN l i = if peekN l i ∈ signs then 1 else 0 := by unfold signN; rw [if_neg (fun h => by rw [hq.2 h] at c3; cases c3)]
    rw [hs]
    have hsl : signs.length = 14 := rfl
    refine h_loop0 (fun j vs bs => ∃ k, k ≤ 14 ∧ j = 14 - k ∧ vs = [.str l, .int .i64 ((i : Nat) : Int), .int .i64 ((k : Nat) : Int)] ∧ bs = [] ∧ (peekN l i ∈ signs ↔ peekN l i ∈ signs.drop k)) 14 ⟨0, by omega, rfl, rfl, rfl, by simp⟩ ?_
    rintro j _ _ ⟨k, hk, rfl, rfl, rfl, hm⟩
    refine h_lenS rfl Tryz.underlying9 rfl rfl ?_
    refine h_lss rfl rfl rfl ?_
    refine h_if rfl (fun c1 => ?_) (fun c1 => ?_)
    · have hk2 : k < signs.length := by have : ((k : Nat) : Int) < 14 := c1; omega
      obtain ⟨x, hx, hd⟩ := drop_at' hk2
      rw [hd] at hm
      refine h_idxS (l := signs) (ch := x) Tryz.underlying9 rfl rfl ⟨hx, signs_lt x (List.mem_of_getElem? hx)⟩ rfl ?_
      refine h_idxS Tryz.underlying9 rfl rfl (at_of_lt hb hi) rfl ?_
      refine h_eql rfl rfl rfl ?_
      refine h_if rfl (fun c2 => ?_) (fun c2 => ?_)
      · have hin : peekN l i ∈ x :: signs.drop (k + 1) := by rw [show x = peekN l i by omega]; exact List.mem_cons_self
        exact h_ret fun s1 h1 h2 h3 h4 => ⟨_, _, rfl, by rw [if_pos (hm.2 hin)]; rfl, h1⟩
      · refine h_add (r := ((k + 1 : Nat) : Int)) rfl rfl (by rw [show ((k : Nat) : Int) + 1 = ((k + 1 : Nat) : Int) by omega]; exact wrap_in _ ⟨by omega, by omega⟩) rfl ?_
        refine h_back0 (14 - (k + 1)) rfl (by omega) ⟨k + 1, by omega, rfl, rfl, rfl, ?_⟩
        rw [hm, List.mem_cons]
        exact ⟨fun h => h.resolve_left (fun h => by omega), .inr⟩
    · have hk2 : k = 14 := by have : ¬ ((k : Nat) : Int) < 14 := c1; omega
      subst hk2
      exact h_ret fun s1 h1 h2 h3 h4 => ⟨_, _, rfl, by rw [if_neg (fun h => by have := hm.1 h; simp [signs] at this)]; rfl, h1⟩
theorem signW (hb : Bytes l) (hl : l.length < 4611686018427387904) {i : Nat} (hi : i < l.length) (hw : WF s) : Cw envB 111 [.str l, .int .i64 ((i : Nat) : Int)] s fun v s' => v = .int .i64 ((signN l i : Nat) : Int) ∧ Fw [] s s' := by
  refine cw_of_co (x_enter (C := cfg_signR) (e := ⟨[.str l, .int .i64 ((i : Nat) : Int)], []⟩) (F := []) (orc_no rfl rfl rfl) Tryz.func111 rfl (by kernel_rfl) run_signR rfl ⟨rfl, rfl, rfl⟩ rfl hw rfl (by simp) trivial stb_true trivial (by simp) ?_)
  have hsb : ∀ z ∈ (l.drop i).take (i + 2 - i), z < 256 := fun z hz => hb z (List.mem_of_mem_drop (List.mem_of_mem_take hz))
  have h2 : i + 2 - i = 2 := by omega
  refine h_add (r := ((i + 1 : Nat) : Int)) rfl rfl (by rw [show ((i : Nat) : Int) + 1 = ((i + 1 : Nat) : Int) by omega]; exact wrap_in _ ⟨by omega, by omega⟩) rfl ?_
  refine h_lenS rfl Tryz.underlying9 rfl rfl ?_
  refine h_lss rfl rfl rfl ?_
  refine h_if rfl (fun c4 => ?_) (fun c4 => ?_)
  · refine h_add (r := ((i + 2 : Nat) : Int)) rfl rfl (by rw [show ((i : Nat) : Int) + 2 = ((i + 2 : Nat) : Int) by omega]; exact wrap_in _ ⟨by omega, by omega⟩) rfl ?_
    refine h_slS Tryz.underlying9 rfl rfl rfl (by omega) (by omega) rfl ?_
    refine h_eqlS rfl rfl hsb (by intro z hz; simp at hz; omega) rfl ?_
    refine h_if rfl (fun c5 => ?_) (fun c5 => ?_)
    · rw [h2] at c5
      exact h_cutE (sub1_signR_ok hb hi (q := true) ⟨fun _ => ⟨by omega, .inl c5⟩, fun _ => rfl⟩)
    · rw [h2] at c5
      refine h_add (r := ((i + 2 : Nat) : Int)) rfl rfl (by rw [show ((i : Nat) : Int) + 2 = ((i + 2 : Nat) : Int) by omega]; exact wrap_in _ ⟨by omega, by omega⟩) rfl ?_
      refine h_slS Tryz.underlying9 rfl rfl rfl (by omega) (by omega) rfl ?_
      refine h_eqlS rfl rfl hsb (by intro z hz; simp at hz; omega) rfl ?_
      rw [h2]
      exact h_cutE (sub1_signR_ok hb hi ⟨fun h => ⟨by omega, .inr (of_decide_eq_true h)⟩, fun h => decide_eq_true (h.2.resolve_left c5)⟩)
  · exact h_cutE (sub1_signR_ok hb hi (q := false) ⟨fun h => (by cases h), fun h => by omega⟩)
end
end Go.AI.Lx
/- The reference's reading of a token at a text's beginning. -/
namespace Go.AI.Lx
open Go.Proofs Go.Proofs.YtkeaedhoaamfnaaGreatDoor
set_option maxRecDepth 10000
section
variable {l : List Nat} {s : S} {L : List LProp} {b w1 w2 w3 w4 : V} {b0 : Nat} {a1 a2 a4 : Int} {x3 : List Nat}
def QR (l : List Nat) (s : S) : Out → Prop := Ret fun v s' => ReadR l v ∧ Fw [] s s'
theorem qr_err {s1 : S} {e : Int} (h : Fw [] s s1) (he : e ≠ 0) (hn : ¬ numeric l → tokC l = none) : QR l s ⟨.returned (.tuple [.agg [.int .i64 0, .int .i64 0, .str [], .int .i64 0], .int .i64 e]), none, s1⟩ :=
  ⟨_, _, rfl, ⟨0, 0, e, [], rfl, fun _ h0 => absurd h0 he, fun hh => by rw [hn hh]; exact he⟩, h⟩
theorem qr_ok {s1 : S} {k a : Int} {x : List Nat} (h : Fw [] s s1) (h1 : numeric l → k = 1) (hn : ¬ numeric l → ∃ m, tokC l = some (k, m) ∧ x = l.take m) : QR l s ⟨.returned (.tuple [.agg [.int .i64 k, .int .i64 a, .str x, .int .i64 0], .int .i64 0]), none, s1⟩ :=
  ⟨_, _, rfl, ⟨k, a, 0, x, rfl, fun hh _ => h1 hh, fun hh => by obtain ⟨m, h2, h3⟩ := hn hh; rw [h2]; exact ⟨rfl, rfl, h3⟩⟩, h⟩
theorem sub0_readR_ok (hn : numeric l) {p : Nat} (hp : p ≤ l.length) {q : Bool} : holds envB [] s (QR l s) sub0_readR ⟨[.str l, .int .i64 (p : Int), .int .i64 a1, .bool q, w1, w2, w3, w4], [b0]⟩ [] T0 L := by
  refine h_cond rfl (fun c1 => ?_) (fun c1 => ?_)
  · exact h_ret fun s1 h1 h2 h3 h4 => qr_err h1 (by decide) (fun h => absurd hn h)
  · refine h_slS Tryz.underlying9 rfl rfl rfl (Nat.zero_le p) hp rfl ?_
    exact h_ret fun s1 h1 h2 h3 h4 => qr_ok h1 (fun _ => rfl) (fun h => absurd hn h)
def Jr (l : List Nat) (b0 : Nat) : Nat → List V → List Nat → Prop := fun j vs bs => ∃ (p : Nat) (w1 w2 w3 w4 : V), j = l.length - p ∧ p ≤ l.length ∧ vs = [.str l, .int .i64 (p : Int), w1, w2, w3, w4] ∧ bs = [b0]
theorem sub1_readR_ok (hb : Bytes l) (hl : l.length < 4611686018427387904) (hn : numeric l) (j : Nat) (vs : List V) (bs : List Nat) (hj : Jr l b0 j vs bs) : holds envB [] s (QR l s) sub1_readR ⟨vs, bs⟩ [] T0 [LpOf (Jr l b0) j] := by
  obtain ⟨p, w1, w2, w3, w4, rfl, hp, rfl, rfl⟩ := hj
  have num : ∀ (s1 : S), WF s1 → Cw envB 104 [.str ((l.drop 0).take (p - 0))] s1 fun v s' => (∃ a e : Int, v = .tuple [.int .i64 a, .int .i64 e]) ∧ Fw [] s1 s' := fun s1 hw1 =>
    numberW (fun z hz => hb z (List.mem_of_mem_drop (List.mem_of_mem_take hz))) (by rw [List.length_take, List.length_drop]; omega) hw1
  refine h_lenS rfl Tryz.underlying9 rfl rfl ?_
  refine h_lss rfl rfl rfl ?_
  refine h_if rfl (fun c2 => ?_) (fun c2 => ?_)
  · have hpl : p < l.length := by omega
    refine h_idxS Tryz.underlying9 rfl rfl (at_of_lt hb hpl) rfl ?_
    refine h_callE (.bool (bDigit (peekN l p))) (fun s1 h1 h2 h3 h4 => byteW rfl (at_of_lt hb hpl).2 s1) rfl rfl ?_
    refine h_cond rfl (fun c3 => ?_) (fun c3 => ?_)
    · refine h_add rfl rfl (wrap_in _ ⟨by omega, by omega⟩) rfl ?_
      exact h_back0 (l.length - (p + 1)) rfl (by omega) ⟨p + 1, _, _, _, _, rfl, by omega, rfl, rfl⟩
    · refine h_slS Tryz.underlying9 rfl rfl rfl (Nat.zero_le p) hp rfl ?_
      refine h_call (fun s1 h1 h2 h3 h4 => num s1 h2) ?_
      rintro _ s1 s2 ⟨a, e, rfl⟩ - -
      refine c_vals [.int .i64 a, .int .i64 e] rfl rfl rfl ?_
      refine h_neq rfl rfl rfl ?_
      refine h_if rfl (fun c4 => ?_) (fun c4 => ?_)
      · exact h_cutE (sub0_readR_ok hn hp)
      · refine h_lenS rfl Tryz.underlying9 rfl rfl ?_
        refine h_lss rfl rfl rfl ?_
        refine h_if rfl (fun c5 => ?_) (fun c5 => ?_)
        · refine h_idxS Tryz.underlying9 rfl rfl (at_of_lt hb hpl) rfl ?_
          refine h_callE (.bool (bPart (peekN l p))) (fun s1 h1 h2 h3 h4 => byteW rfl (at_of_lt hb hpl).2 s1) rfl rfl ?_
          refine h_cond rfl (fun c6 => ?_) (fun c6 => ?_)
          · exact h_cutE (sub0_readR_ok hn hp)
          · refine h_idxS Tryz.underlying9 rfl rfl (at_of_lt hb hpl) rfl ?_
            refine h_eql rfl rfl rfl ?_
            exact h_cutE (sub0_readR_ok hn hp)
        · exact h_cutE (sub0_readR_ok hn hp)
  · refine h_slS Tryz.underlying9 rfl rfl rfl (Nat.zero_le p) hp rfl ?_
    refine h_call (fun s1 h1 h2 h3 h4 => num s1 h2) ?_
    rintro _ s1 s2 ⟨a, e, rfl⟩ - -
    refine c_vals [.int .i64 a, .int .i64 e] rfl rfl rfl ?_
    refine h_neq rfl rfl rfl ?_
    refine h_if rfl (fun c7 => ?_) (fun c7 => ?_)
    · exact h_cutE (sub0_readR_ok hn hp)
    · refine h_lenS rfl Tryz.underlying9 rfl rfl ?_
      refine h_lss rfl rfl rfl ?_
      refine h_if rfl (fun c8 => ?_) (fun c8 => ?_)
      · exact absurd c8 c2
      · exact h_cutE (sub0_readR_ok hn hp)
theorem sub2_readR_ok {m : Nat} {k : Int} (hm : m ≤ l.length) (hn : ¬ numeric l) (ht : tokC l = some (k, m)) : holds envB [] s (QR l s) sub2_readR ⟨[.str l, .int .i64 (m : Int), .int .i64 k, w1, w2, w3, w4], [b0]⟩ [] T0 L := by
  refine h_slS Tryz.underlying9 rfl rfl rfl (Nat.zero_le m) hm rfl ?_
  exact h_ret fun s1 h1 h2 h3 h4 => qr_ok h1 (fun h => absurd h hn) (fun _ => ⟨m, ht, by simp⟩)
theorem sub3_readR_ok (hb : Bytes l) (hl : l.length < 4611686018427387904) (h0 : 0 < l.length) (hn : ¬ numeric l) (hq : ¬ (peekN l 0 = 39 ∧ 1 < l.length ∧ bSmall (peekN l 1) = true)) {q : Bool} (hqq : q = true ↔ (bSmall (peekN l 0) = true ∨ bGreat (peekN l 0) = true)) :
    holds envB [] s (QR l s) sub3_readR ⟨[.str l, .int .u8 ((peekN l 0 : Nat) : Int), .bool q, w1, w2, w3, w4], [b0]⟩ [] T0 L := by
  have hc := (at_of_lt hb h0).2
  refine h_cond rfl (fun c10 => ?_) (fun c10 => ?_)
  · have hsg := hqq.1 c10
    have hnl := nameLen_le l 0 (Nat.zero_le _)
    refine h_callE (.int .i64 ((0 + nameLen l 0 : Nat) : Int)) (fun s1 h1 h2 h3 h4 => namedW (i := 0) hb hl (Nat.zero_le _) h2) rfl rfl ?_
    refine h_sub (r := ((0 + nameLen l 0 : Nat) : Int)) rfl rfl (by rw [Int.sub_zero]; exact wrap_in _ ⟨by omega, by omega⟩) rfl ?_
    refine h_gtr rfl rfl rfl ?_
    refine h_if rfl (fun c11 => ?_) (fun c11 => ?_)
    · exact h_ret fun s1 h1 h2 h3 h4 => qr_err h1 (by decide) (fun _ => by unfold tokC; rw [if_neg hq, if_pos hsg, if_pos (by omega)])
    · have htok : ∀ k, k = (if bGreat (peekN l 0) = true then (3 : Int) else if l.take (nameLen l 0) ∈ words then 5 else 2) → tokC l = some (k, 0 + nameLen l 0) := fun k hk => by
        unfold tokC; rw [if_neg hq, if_pos hsg, if_neg (by omega), Nat.zero_add, hk]
      refine h_callE (.bool (bGreat (peekN l 0))) (fun s1 h1 h2 h3 h4 => byteW rfl hc s1) rfl rfl ?_
      refine h_cond rfl (fun c12 => ?_) (fun c12 => ?_)
      · exact h_cutE (sub2_readR_ok (by omega) hn (htok 3 (by rw [if_pos c12])))
      · have c12' : ¬ bGreat (peekN l 0) = true := by rw [c12]; decide
        refine h_slS Tryz.underlying9 rfl rfl rfl (Nat.zero_le _) (by omega) rfl ?_
        refine h_callE (.bool (decide ((l.drop 0).take (0 + nameLen l 0 - 0) ∈ words))) (fun s1 h1 h2 h3 h4 => wordW (x := (l.drop 0).take (0 + nameLen l 0 - 0)) (fun z hz => hb z (List.mem_of_mem_drop (List.mem_of_mem_take hz))) h2) rfl rfl ?_
        refine h_if rfl (fun c13 => ?_) (fun c13 => ?_)
        · exact h_cutE (sub2_readR_ok (by omega) hn (htok 5 (by rw [if_neg c12', if_pos (by simpa using c13)])))
        · exact h_cutE (sub2_readR_ok (by omega) hn (htok 2 (by rw [if_neg c12', if_neg (by simpa using c13)])))
  · have hsg : ¬ (bSmall (peekN l 0) = true ∨ bGreat (peekN l 0) = true) := fun h => by have := hqq.2 h; rw [c10] at this; cases this
    have hle := signN_le l 0 h0
    refine h_callE (.int .i64 ((signN l 0 : Nat) : Int)) (fun s1 h1 h2 h3 h4 => signW (i := 0) hb hl h0 h2) rfl rfl ?_
    refine h_eql rfl rfl rfl ?_
    refine h_if rfl (fun c14 => ?_) (fun c14 => ?_)
    · exact h_ret fun s1 h1 h2 h3 h4 => qr_err h1 (by decide) (fun _ => by unfold tokC; rw [if_neg hq, if_neg hsg, if_pos (by omega)])
    · refine h_add (r := ((signN l 0 : Nat) : Int)) rfl rfl (by rw [Int.zero_add]; exact wrap_in _ ⟨by omega, by omega⟩) rfl ?_
      refine h_slS Tryz.underlying9 rfl rfl rfl (Nat.zero_le _) (by omega) rfl ?_
      exact h_ret fun s1 h1 h2 h3 h4 => qr_ok h1 (fun h => absurd h hn) (fun _ => ⟨signN l 0, by unfold tokC; rw [if_neg hq, if_neg hsg, if_neg (by omega)], by simp⟩)
theorem sub4_readR_ok (hb : Bytes l) (hl : l.length < 4611686018427387904) (h0 : 0 < l.length) (hn : ¬ numeric l) {q : Bool} (hqq : q = true ↔ (peekN l 0 = 39 ∧ 1 < l.length ∧ bSmall (peekN l 1) = true)) :
    holds envB [] s (QR l s) sub4_readR ⟨[.str l, .int .u8 ((peekN l 0 : Nat) : Int), .bool q, w1, w2, w3, w4], [b0]⟩ [] T0 L := by
  have hc := (at_of_lt hb h0).2
  refine h_cond rfl (fun c15 => ?_) (fun c15 => ?_)
  · have hq := hqq.1 c15
    have hle := runN_le bPart l 1 (by omega)
    refine h_callE (.int .i64 ((1 + runN bPart l 1 : Nat) : Int)) (fun s1 h1 h2 h3 h4 => cw_fw (plainW (i := 1) hb hl (by omega))) rfl rfl ?_
    refine h_sub (r := ((1 + runN bPart l 1 : Nat) : Int)) rfl rfl (by rw [Int.sub_zero]; exact wrap_in _ ⟨by omega, by omega⟩) rfl ?_
    refine h_gtr rfl rfl rfl ?_
    refine h_if rfl (fun c16 => ?_) (fun c16 => ?_)
    · exact h_ret fun s1 h1 h2 h3 h4 => qr_err h1 (by decide) (fun _ => by unfold tokC; rw [if_pos hq, if_pos (by omega)])
    · refine h_slS Tryz.underlying9 rfl rfl rfl (Nat.zero_le _) (by omega) rfl ?_
      exact h_ret fun s1 h1 h2 h3 h4 => qr_ok h1 (fun h => absurd h hn) (fun _ => ⟨1 + runN bPart l 1, by unfold tokC; rw [if_pos hq, if_neg (by omega)], by simp⟩)
  · have hq : ¬ (peekN l 0 = 39 ∧ 1 < l.length ∧ bSmall (peekN l 1) = true) := fun h => by have := hqq.2 h; rw [c15] at this; cases this
    refine h_callE (.bool (bSmall (peekN l 0))) (fun s1 h1 h2 h3 h4 => byteW rfl hc s1) rfl rfl ?_
    refine h_cond rfl (fun c17 => ?_) (fun c17 => ?_)
    · exact h_cutE (sub3_readR_ok hb hl h0 hn hq ⟨fun _ => .inl c17, fun _ => rfl⟩)
    · refine h_callE (.bool (bGreat (peekN l 0))) (fun s1 h1 h2 h3 h4 => byteW rfl hc s1) rfl rfl ?_
      exact h_cutE (sub3_readR_ok hb hl h0 hn hq ⟨.inr, fun h => h.elim (fun h => by rw [c17] at h; cases h) id⟩)
theorem sub5_readR_ok (hb : Bytes l) (hl : l.length < 4611686018427387904) (h0 : 0 < l.length) {q : Bool} (hqq : q = true ↔ numeric l) :
    holds envB [] s (QR l s) sub5_readR ⟨[.str l, .int .u8 ((peekN l 0 : Nat) : Int), .bool q, w1, w2, w3, w4], [b0]⟩ [] T0 [] := by
  refine h_cond rfl (fun c18 => ?_) (fun c18 => ?_)
  · have hn := hqq.1 c18
    refine h_eql rfl rfl rfl ?_
    refine h_if rfl (fun c19 => ?_) (fun c19 => ?_)
    · exact h_loop0 (Jr l b0) (l.length - 1) ⟨1, _, _, _, _, rfl, by omega, rfl, rfl⟩ fun j vs bs => sub1_readR_ok hb hl hn j vs bs
    · exact h_loop0 (Jr l b0) (l.length - 0) ⟨0, _, _, _, _, rfl, by omega, rfl, rfl⟩ fun j vs bs => sub1_readR_ok hb hl hn j vs bs
  · have hn : ¬ numeric l := fun h => by have := hqq.2 h; rw [c18] at this; cases this
    refine h_eql rfl rfl rfl ?_
    refine h_if rfl (fun c20 => ?_) (fun c20 => ?_)
    · have h39 : peekN l 0 = 39 := by omega
      refine h_lenS rfl Tryz.underlying9 rfl rfl ?_
      refine h_lss rfl rfl rfl ?_
      refine h_if rfl (fun c21 => ?_) (fun c21 => ?_)
      · have h1l : 1 < l.length := by omega
        refine h_idxS (n := 1) Tryz.underlying9 rfl rfl (at_of_lt hb h1l) rfl ?_
        refine h_callE (.bool (bSmall (peekN l 1))) (fun s1 h1 h2 h3 h4 => byteW rfl (at_of_lt hb h1l).2 s1) rfl rfl ?_
        exact h_cutE (sub4_readR_ok hb hl h0 hn ⟨fun h => ⟨h39, h1l, h⟩, fun h => h.2.2⟩)
      · exact h_cutE (sub4_readR_ok hb hl h0 hn ⟨fun h => (by cases h), fun h => absurd h.2.1 (by omega)⟩)
    · exact h_cutE (sub4_readR_ok hb hl h0 hn ⟨fun h => (by cases h), fun h => absurd h.1 (by omega)⟩)
theorem readW (hb : Bytes l) (hl : l.length < 4611686018427387904) (h0 : 0 < l.length) {s : S} (hw : WF s) : Cw envB 71 [.str l, .int .i64 0] s fun v s' => ReadR l v ∧ Fw [] s s' := by
  have hc := (at_of_lt hb h0).2
  refine cw_of_co (x_enter (C := cfg_readR) (e := ⟨[.str l], []⟩) (F := []) rfl Tryz.func71 rfl (by kernel_rfl) run_readR rfl ⟨rfl, rfl, rfl⟩ rfl hw rfl (by simp) trivial stb_true trivial (by simp) ?_)
  refine h_new fun b1 hb1 hd1 => ?_
  refine h_idxS (n := 0) Tryz.underlying9 rfl rfl (at_of_lt hb h0) rfl ?_
  refine h_eql rfl rfl rfl ?_
  refine h_if rfl (fun c22 => ?_) (fun c22 => ?_)
  · exact h_cutE (sub5_readR_ok hb hl h0 ⟨fun _ => .inr (by omega), fun _ => rfl⟩)
  · refine h_callE (.bool (bDigit (peekN l 0))) (fun s1 h1 h2 h3 h4 => byteW rfl hc s1) rfl rfl ?_
    exact h_cutE (sub5_readR_ok hb hl h0 ⟨.inl, fun h => h.elim id (fun h => absurd h (by omega))⟩)
end
end Go.AI.Lx
/- The reference's kind of a text. -/
namespace Go.AI.Lx
open Go.Proofs Go.Proofs.YtkeaedhoaamfnaaGreatDoor
set_option maxRecDepth 10000
def anns_kindR : List LoopAnn := []
noncomputable def code_kindR : Code := match Tryz.f45.body with | some c => c | none => .skip
noncomputable def cfg_kindR : Cfg := ⟨envB, Tryz.f45, anns_kindR, [], [⟨100002, [(0, false), (12, true)], []⟩, ⟨100004, [(0, false), (25, true)], []⟩], 0⟩
def sub0_kindR : Tree := .cond 1 (.ret (.int .i64 0) []) (.call 71 [.atom 0, .int .i64 0] [] [] 5 (.tuple [.agg [.atom 2, .atom 3, .atom 4, .atom 5], .atom 6]) false (.new (.ask (.bin .neq 31 true (.atom 6) (.int .i64 0)) true [] 1 (.atom 7) (.cond 7 (.ret (.int .i64 0) []) (.ask (.bif .len #[9] [.atom 4]) true [] 1 (.atom 8) (.ask (.bif .len #[9] [.atom 0]) true [] 1 (.atom 9) (.ask (.bin .neq 3 false (.atom 8) (.atom 9)) true [] 1 (.atom 10) (.cond 10 (.ret (.int .i64 0) []) (.ret (.atom 2) [])))))))))
def sub1_kindR : Tree := .cond 1 (.ret (.int .i64 0) []) (.ask (.index 9 (.atom 0) (.int .i64 0)) true [] 1 (.atom 2) (.call 70 [.atom 2] [] [] 1 (.atom 3) false (.cond 3 (.cut 2 [.atom 0, .bool true] [] [] sub0_kindR) (.ask (.bif .len #[9] [.atom 0]) true [] 1 (.atom 4) (.ask (.bin .gtr 3 true (.atom 4) (.int .i64 1)) true [] 1 (.atom 5) (.cond 5 (.ask (.slice 9 (.atom 0) none (some (.int .i64 2)) none) true [] 1 (.atom 6) (.ask (.bin .eql 9 true (.atom 6) (.str [40, 42])) true [] 1 (.atom 7) (.cut 2 [.atom 0, .atom 7] [] [] sub0_kindR))) (.cut 2 [.atom 0, .bool false] [] [] sub0_kindR)))))))
def tree_kindR : Tree := .ask (.bif .len #[9] [.atom 0]) true [] 1 (.atom 1) (.ask (.bin .eql 3 true (.atom 1) (.int .i64 0)) true [] 1 (.atom 2) (.cond 2 (.cut 2 [.atom 0, .bool true] [] [] sub1_kindR) (.ask (.bif .len #[9] [.atom 0]) true [] 1 (.atom 3) (.ask (.bin .gtr 3 true (.atom 3) (.int .i64 100)) true [] 1 (.atom 4) (.cut 2 [.atom 0, .atom 4] [] [] sub1_kindR)))))
theorem run_kindR : xrun cfg_kindR 400 [] [.code code_kindR] (initT [.atom 0] 0 .leaf id) (listS ⟨.leaf, 0⟩ []) 1 = some tree_kindR := by kernel_rfl
instance (l : List Nat) : Decidable (numeric l) := inferInstanceAs (Decidable (_ ∨ _))
def kindC (l : List Nat) : Int := if l.length = 0 ∨ 24 < l.length ∨ bSpace (peekN l 0) = true ∨ l.take 2 = [40, 42] ∨ numeric l then 0 else match tokC l with
  | none => 0
  | some (k, m) => if m = l.length then k else 0
def KindOk (l : List Nat) (v : V) : Prop := ∃ k : Int, v = .int .i64 k ∧ (k = kindC l ∨ numeric l ∧ k = 1)
theorem tokC_le {l : List Nat} {k : Int} {m : Nat} (h : tokC l = some (k, m)) : m ≤ 24 := by
  unfold tokC at h
  split at h
  · split at h
    · cases h
    · cases h; omega
  · split at h
    · split at h
      · cases h
      · cases h; omega
    · split at h
      · cases h
      · cases h
        unfold signN
        split
        · omega
        · split <;> omega
theorem kindC_bad {l : List Nat} (h : l.length = 0 ∨ bSpace (peekN l 0) = true ∨ l.take 2 = [40, 42]) : kindC l = 0 := by
  unfold kindC; rw [if_pos]
  rcases h with h | h | h
  · exact .inl h
  · exact .inr (.inr (.inl h))
  · exact .inr (.inr (.inr (.inl h)))
theorem tokC_len {l : List Nat} {k : Int} {m : Nat} (h : tokC l = some (k, m)) (h0 : l.length ≠ 0) : m ≤ l.length := by
  unfold tokC at h
  split at h
  · rename_i hq
    have := runN_le bPart l 1 (by omega)
    split at h
    · cases h
    · cases h; omega
  · split at h
    · have := nameLen_le l 0 (Nat.zero_le _)
      split at h
      · cases h
      · cases h; omega
    · have := signN_le l 0 (by omega)
      split at h
      · cases h
      · cases h; omega
theorem kind_of {l : List Nat} {k e : Int} {x : List Nat} (h0 : l.length ≠ 0) (h1 : numeric l → e = 0 → k = 1) (h2 : ¬ numeric l → match tokC l with | none => e ≠ 0 | some (k', m) => e = 0 ∧ k = k' ∧ x = l.take m)
    (hs : ¬ bSpace (peekN l 0) = true) (hc : ¬ l.take 2 = [40, 42]) (hx : numeric l → x.length = l.length → True) : KindOk l (.int .i64 (if e ≠ 0 then 0 else if x.length ≠ l.length then 0 else k)) := by
  refine ⟨_, rfl, ?_⟩
  by_cases hn : numeric l
  · have hk : kindC l = 0 := by unfold kindC; rw [if_pos (.inr (.inr (.inr (.inr hn))))]
    by_cases he : e = 0
    · rw [if_neg (fun h => h he)]
      by_cases hl : x.length = l.length
      · rw [if_neg (fun h => h hl), h1 hn he]; exact .inr ⟨hn, rfl⟩
      · rw [if_pos hl, hk]; exact .inl rfl
    · rw [if_pos he, hk]; exact .inl rfl
  · refine .inl ?_
    have h3 := h2 hn
    cases ht : tokC l with
    | none =>
      rw [ht] at h3
      rw [if_pos h3]
      unfold kindC; rw [ht]; split <;> rfl
    | some p =>
      obtain ⟨k', m⟩ := p
      rw [ht] at h3
      obtain ⟨h4, h5, h6⟩ := h3
      subst h5; subst h6
      rw [if_neg (fun h => h h4)]
      have hm := tokC_le ht
      by_cases hl : m = l.length
      · have h24 : ¬ (l.length = 0 ∨ 24 < l.length ∨ bSpace (peekN l 0) = true ∨ l.take 2 = [40, 42] ∨ numeric l) := by
          rintro (h | h | h | h | h)
          · exact h0 h
          · omega
          · exact hs h
          · exact hc h
          · exact hn h
        rw [if_neg (by simp [hl])]
        unfold kindC; rw [if_neg h24, ht]; simp only [if_pos hl]
      · have hml := tokC_len ht h0
        rw [if_pos (show (l.take m).length ≠ l.length by rw [List.length_take]; omega)]
        unfold kindC; rw [ht]; split
        · rfl
        · simp only [if_neg hl]
section
variable {l : List Nat} {s : S} {L : List LProp}
abbrev QK (l : List Nat) (s : S) : Out → Prop := Ret fun v s' => KindOk l v ∧ Fw [] s s'
theorem qk_0 {s1 : S} (h : Fw [] s s1) (hk : kindC l = 0) : QK l s ⟨.returned (.int .i64 0), none, s1⟩ := ⟨_, _, rfl, ⟨0, rfl, .inl hk.symm⟩, h⟩
theorem sub0_kindR_ok (hb : Bytes l) (hl : l.length < 4611686018427387904) (h0 : l.length ≠ 0) (hs : bSpace (peekN l 0) = false) {q : Bool} (hq : q = true ↔ l.take 2 = [40, 42]) (hq2 : q = true → kindC l = 0) : holds envB [] s (QK l s) sub0_kindR ⟨[.str l, .bool q], []⟩ [] T0 L := by
  refine h_cond rfl (fun c1 => ?_) (fun c1 => ?_)
  · exact h_ret fun s1 h1 h2 h3 h4 => qk_0 h1 (hq2 c1)
  · have hc : ¬ l.take 2 = [40, 42] := fun h => by have := hq.2 h; rw [c1] at this; cases this
    refine h_call (fun s1 h1 h2 h3 h4 => readW hb hl (by omega) h2) ?_
    rintro _ s1 s2 ⟨k, a, e, x, rfl, g1, g2⟩ - -
    refine c_vals [.int .i64 k, .int .i64 a, .str x, .int .i64 0, .int .i64 e] rfl rfl rfl ?_
    have hko := kind_of h0 g1 g2 (by rw [hs]; decide) hc (fun _ _ => trivial)
    refine h_new fun b1 hb1 hd1 => ?_
    refine h_neq rfl rfl rfl ?_
    refine h_if rfl (fun c2 => ?_) (fun c2 => ?_)
    · rw [if_pos c2] at hko
      exact h_ret fun s1 h1 h2 h3 h4 => ⟨_, _, rfl, hko, h1⟩
    · rw [if_neg c2] at hko
      refine h_lenS rfl Tryz.underlying9 rfl rfl ?_
      refine h_lenS rfl Tryz.underlying9 rfl rfl ?_
      refine h_neq rfl rfl rfl ?_
      refine h_if rfl (fun c3 => ?_) (fun c3 => ?_)
      · rw [if_pos (by omega)] at hko
        exact h_ret fun s1 h1 h2 h3 h4 => ⟨_, _, rfl, hko, h1⟩
      · rw [if_neg (by omega)] at hko
        exact h_ret fun s1 h1 h2 h3 h4 => ⟨_, _, rfl, hko, h1⟩
theorem sub1_kindR_ok (hb : Bytes l) (hl : l.length < 4611686018427387904) {q : Bool} (hq : q = false → l.length ≠ 0) (hq2 : q = true → kindC l = 0) : holds envB [] s (QK l s) sub1_kindR ⟨[.str l, .bool q], []⟩ [] T0 L := by
  refine h_cond rfl (fun c4 => ?_) (fun c4 => ?_)
  · exact h_ret fun s1 h1 h2 h3 h4 => qk_0 h1 (hq2 c4)
  · have h0 := hq c4
    have hi := at_of_lt (l := l) (i := 0) hb (by omega)
    refine h_idxS (n := 0) Tryz.underlying9 rfl rfl hi rfl ?_
    refine h_callE (.bool (bSpace (peekN l 0))) (fun s1 h1 h2 h3 h4 => byteW rfl hi.2 s1) rfl rfl ?_
    refine h_cond rfl (fun c5 => ?_) (fun c5 => ?_)
    · refine h_cutE ?_
      refine h_cond (q := true) rfl (fun _ => ?_) (fun h => by cases h)
      exact h_ret fun s1 h1 h2 h3 h4 => qk_0 h1 (kindC_bad (.inr (.inl c5)))
    · refine h_lenS rfl Tryz.underlying9 rfl rfl ?_
      refine h_gtr rfl rfl rfl ?_
      refine h_if rfl (fun c6 => ?_) (fun c6 => ?_)
      · refine h_slS (n := 0) (m := 2) Tryz.underlying9 rfl rfl rfl (by omega) (by omega) rfl ?_
        refine h_eqlS rfl rfl (fun z hz => hb z (List.mem_of_mem_drop (List.mem_of_mem_take hz))) (fun z hz => by simp at hz; omega) rfl ?_
        exact h_cutE (sub0_kindR_ok hb hl h0 c5 ⟨fun h => (by simpa using of_decide_eq_true h), fun h => decide_eq_true (by simpa using h)⟩ (fun h => kindC_bad (.inr (.inr (by simpa using of_decide_eq_true h)))))
      · exact h_cutE (sub0_kindR_ok hb hl h0 c5 ⟨fun h => (by cases h), fun h => by have := congrArg List.length h; rw [List.length_take] at this; simp at this; omega⟩ (fun h => by cases h))
theorem kindRW (hb : Bytes l) (hl : l.length < 4611686018427387904) {s : S} (hw : WF s) : Cw envB 45 [.str l] s fun v s' => KindOk l v ∧ Fw [] s s' := by
  refine cw_of_co (x_enter (C := cfg_kindR) (e := ⟨[.str l], []⟩) (F := []) rfl Tryz.func45 rfl (by kernel_rfl) run_kindR rfl ⟨rfl, rfl, rfl⟩ rfl hw rfl (by simp) trivial stb_true trivial (by simp) ?_)
  refine h_lenS rfl Tryz.underlying9 rfl rfl ?_
  refine h_eql rfl rfl rfl ?_
  refine h_if rfl (fun c7 => ?_) (fun c7 => ?_)
  · exact h_cutE (sub1_kindR_ok hb hl (fun h => by cases h) (fun _ => kindC_bad (.inl (by omega))))
  · refine h_lenS rfl Tryz.underlying9 rfl rfl ?_
    refine h_gtr rfl rfl rfl ?_
    exact h_cutE (sub1_kindR_ok hb hl (fun _ => by omega) (fun h => by have := of_decide_eq_true h; unfold kindC; rw [if_pos (.inr (.inl (by omega)))]))
end
end Go.AI.Lx
/- The scanner's tokens: what the executor makes of them. -/
namespace Go.AI.Lx
open Go.Proofs Go.Proofs.YtkeaedhoaamfnaaGreatDoor
def anns_numberL : List LoopAnn := []
noncomputable def code_numberL : Code := match Tryz.f240.body with | some c => c | none => .skip
noncomputable def cfg_numberL : Cfg := ⟨envB, Tryz.f240, anns_numberL, [], [⟨4, [(0, false), (2, false), (3, true)], []⟩, ⟨100009, [(0, false), (2, false), (6, false), (7, false), (60, true)], []⟩], 1⟩
def sub0_numberL : Tree := .cond 2 (.pan (.iface 172 (.agg [.atom 4, .int .i64 13])) [(0, .cells 274 false 1 [⟨0, 0, [.atom 3, .atom 4, .atom 5, .atom 6]⟩])]) (.ret (.agg [.int .i64 1, .atom 1, .atom 0, .atom 4]) [(0, .cells 274 false 1 [⟨0, 0, [.atom 3, .atom 4, .atom 5, .atom 6]⟩])])
def sub1_numberL : Tree := .call 234 [.ptr ⟨0, 0, 0⟩, .atom 0, .func (.func 239) [] []] [(0, .cells 274 false 1 [⟨0, 0, [.atom 1, .atom 2, .atom 3, .atom 4]⟩])] [] 1 (.atom 9) false (.ask (.bin .add 3 false (.atom 0) (.atom 9)) true [] 1 (.atom 10) (.call 238 [.ptr ⟨0, 0, 0⟩, .atom 10] [(0, .cells 274 false 1 [⟨0, 0, [.atom 1, .atom 2, .atom 3, .atom 4]⟩])] [] 1 (.atom 11) false (.ask (.bin .add 3 false (.atom 2) (.atom 0)) false [] 1 (.atom 12) (.ask (.bin .add 3 false (.atom 12) (.atom 9)) false [] 1 (.atom 13) (.ask (.slice 9 (.atom 1) (some (.atom 2)) (some (.atom 13)) none) false [] 1 (.atom 14) (.call 272 [.atom 14] [] [] 2 (.tuple [.atom 15, .atom 16]) false (.ask (.bin .neq 31 true (.atom 16) (.int .i64 0)) true [] 1 (.atom 17) (.cond 17 (.cut 11 [.atom 14, .atom 15, .bool true, .atom 1, .atom 2, .atom 3, .atom 4, .atom 5, .atom 6, .atom 7, .atom 8] [0, 1] [.cells 274 false 1 [⟨0, 0, [.atom 3, .atom 4, .atom 5, .atom 6]⟩], .cells 117 false 1 [⟨0, 0, [.atom 7, .atom 8, .atom 9, .atom 10]⟩]] sub0_numberL) (.call 245 [.atom 11] [] [] 1 (.atom 18) false (.cond 18 (.cut 11 [.atom 14, .atom 15, .bool true, .atom 1, .atom 2, .atom 3, .atom 4, .atom 5, .atom 6, .atom 7, .atom 8] [0, 1] [.cells 274 false 1 [⟨0, 0, [.atom 3, .atom 4, .atom 5, .atom 6]⟩], .cells 117 false 1 [⟨0, 0, [.atom 7, .atom 8, .atom 9, .atom 10]⟩]] sub0_numberL) (.ask (.bin .eql 5 true (.atom 11) (.int .u8 39)) true [] 1 (.atom 19) (.cut 11 [.atom 14, .atom 15, .atom 19, .atom 1, .atom 2, .atom 3, .atom 4, .atom 5, .atom 6, .atom 7, .atom 8] [0, 1] [.cells 274 false 1 [⟨0, 0, [.atom 3, .atom 4, .atom 5, .atom 6]⟩], .cells 117 false 1 [⟨0, 0, [.atom 7, .atom 8, .atom 9, .atom 10]⟩]] sub0_numberL))))))))))))
def tree_numberL : Tree := .new (.call 238 [.ptr ⟨0, 0, 0⟩, .int .i64 0] [(0, .cells 274 false 1 [⟨0, 0, [.atom 0, .atom 1, .atom 2, .atom 3]⟩])] [] 1 (.atom 4) false (.ask (.bin .eql 5 true (.atom 4) (.int .u8 126)) true [] 1 (.atom 5) (.cond 5 (.cut 9 [.int .i64 1, .atom 0, .atom 1, .atom 2, .atom 3, .int .i64 0, .int .i64 0, .str [], .int .i64 0] [0, 1] [.cells 274 false 1 [⟨0, 0, [.atom 1, .atom 2, .atom 3, .atom 4]⟩], .cells 117 false 1 [⟨0, 0, [.atom 5, .atom 6, .atom 7, .atom 8]⟩]] sub1_numberL) (.cut 9 [.int .i64 0, .atom 0, .atom 1, .atom 2, .atom 3, .int .i64 0, .int .i64 0, .str [], .int .i64 0] [0, 1] [.cells 274 false 1 [⟨0, 0, [.atom 1, .atom 2, .atom 3, .atom 4]⟩], .cells 117 false 1 [⟨0, 0, [.atom 5, .atom 6, .atom 7, .atom 8]⟩]] sub1_numberL))))
theorem run_numberL : xrun cfg_numberL 400 [] [.code code_numberL] (initT [.ptr ⟨0, 0, 0⟩] 0 .leaf id) (listS ⟨.leaf, 0⟩ [.cells 274 false 1 [⟨0, 0, [.atom 0, .atom 1, .atom 2, .atom 3]⟩]]) 4 = some tree_numberL := by kernel_rfl
def anns_tokenL : List LoopAnn := []
noncomputable def code_tokenL : Code := match Tryz.f204.body with | some c => c | none => .skip
noncomputable def cfg_tokenL : Cfg := ⟨envB, Tryz.f204, anns_tokenL, [(240, ⟨[], true⟩)], [⟨100004, [(0, false), (2, false), (3, false), (8, true)], []⟩, ⟨100010, [(0, false), (2, false), (3, false), (25, true)], []⟩, ⟨100013, [(0, false), (2, false), (3, false), (42, true)], []⟩], 1⟩
def sub0_tokenL : Tree := .cond 1 (.call 244 [.ptr ⟨0, 0, 0⟩, .int .i64 6, .int .i64 2] [(0, .cells 274 false 1 [⟨0, 0, [.atom 2, .atom 3, .atom 4, .atom 5]⟩])] [] 4 (.agg [.atom 10, .atom 11, .atom 12, .atom 13]) false (.ret (.agg [.atom 10, .atom 11, .atom 12, .atom 13]) [(0, .cells 274 false 1 [⟨0, 0, [.atom 2, .atom 3, .atom 4, .atom 5]⟩])])) (.call 246 [.str [40, 41, 44, 59, 58, 124, 61, 60, 43, 45, 42, 47, 37, 95], .atom 0] [] [] 1 (.atom 10) false (.ask (.bin .geq 3 true (.atom 10) (.int .i64 0)) true [] 1 (.atom 11) (.cond 11 (.call 244 [.ptr ⟨0, 0, 0⟩, .int .i64 6, .int .i64 1] [(0, .cells 274 false 1 [⟨0, 0, [.atom 2, .atom 3, .atom 4, .atom 5]⟩])] [] 4 (.agg [.atom 12, .atom 13, .atom 14, .atom 15]) false (.ret (.agg [.atom 12, .atom 13, .atom 14, .atom 15]) [(0, .cells 274 false 1 [⟨0, 0, [.atom 2, .atom 3, .atom 4, .atom 5]⟩])])) (.pan (.iface 172 (.agg [.atom 3, .int .i64 11])) [(0, .cells 274 false 1 [⟨0, 0, [.atom 2, .atom 3, .atom 4, .atom 5]⟩])]))))
def sub1_tokenL : Tree := .cond 1 (.call 234 [.ptr ⟨0, 0, 0⟩, .int .i64 1, .func (.func 245) [] []] [(0, .cells 274 false 1 [⟨0, 0, [.atom 2, .atom 3, .atom 4, .atom 5]⟩])] [] 1 (.atom 10) false (.ask (.bin .add 3 true (.int .i64 1) (.atom 10)) true [] 1 (.atom 11) (.call 244 [.ptr ⟨0, 0, 0⟩, .int .i64 4, .atom 11] [(0, .cells 274 false 1 [⟨0, 0, [.atom 2, .atom 3, .atom 4, .atom 5]⟩])] [] 4 (.agg [.atom 12, .atom 13, .atom 14, .atom 15]) false (.ret (.agg [.atom 12, .atom 13, .atom 14, .atom 15]) [(0, .cells 274 false 1 [⟨0, 0, [.atom 2, .atom 3, .atom 4, .atom 5]⟩])])))) (.call 236 [.ptr ⟨0, 0, 0⟩, .str [61, 62]] [(0, .cells 274 false 1 [⟨0, 0, [.atom 2, .atom 3, .atom 4, .atom 5]⟩])] [] 1 (.atom 10) false (.cond 10 (.cut 10 [.atom 0, .bool true, .atom 2, .atom 3, .atom 4, .atom 5, .atom 6, .atom 7, .atom 8, .atom 9] [0, 1] [.cells 274 false 1 [⟨0, 0, [.atom 2, .atom 3, .atom 4, .atom 5]⟩], .cells 117 false 1 [⟨0, 0, [.atom 6, .atom 7, .atom 8, .atom 9]⟩]] sub0_tokenL) (.call 236 [.ptr ⟨0, 0, 0⟩, .str [45, 62]] [(0, .cells 274 false 1 [⟨0, 0, [.atom 2, .atom 3, .atom 4, .atom 5]⟩])] [] 1 (.atom 11) false (.cut 10 [.atom 0, .atom 11, .atom 2, .atom 3, .atom 4, .atom 5, .atom 6, .atom 7, .atom 8, .atom 9] [0, 1] [.cells 274 false 1 [⟨0, 0, [.atom 2, .atom 3, .atom 4, .atom 5]⟩], .cells 117 false 1 [⟨0, 0, [.atom 6, .atom 7, .atom 8, .atom 9]⟩]] sub0_tokenL))))
def sub2_tokenL : Tree := .cond 1 (.call 240 [.ptr ⟨0, 0, 0⟩] [(0, .cells 274 false 1 [⟨0, 0, [.atom 2, .atom 3, .atom 4, .atom 5]⟩])] [] 4 (.agg [.atom 10, .atom 11, .atom 12, .atom 13]) true (.ret (.agg [.atom 10, .atom 11, .atom 12, .atom 13]) [(0, .cells 274 false 1 [⟨0, 0, [.atom 2, .atom 3, .atom 4, .atom 5]⟩])])) (.call 241 [.atom 0] [] [] 1 (.atom 10) false (.cond 10 (.call 242 [.ptr ⟨0, 0, 0⟩, .int .i64 2] [(0, .cells 274 false 1 [⟨0, 0, [.atom 2, .atom 3, .atom 4, .atom 5]⟩])] [] 4 (.agg [.atom 11, .atom 12, .atom 13, .atom 14]) false (.ret (.agg [.atom 11, .atom 12, .atom 13, .atom 14]) [(0, .cells 274 false 1 [⟨0, 0, [.atom 2, .atom 3, .atom 4, .atom 5]⟩])])) (.call 243 [.atom 0] [] [] 1 (.atom 11) false (.cond 11 (.call 242 [.ptr ⟨0, 0, 0⟩, .int .i64 3] [(0, .cells 274 false 1 [⟨0, 0, [.atom 2, .atom 3, .atom 4, .atom 5]⟩])] [] 4 (.agg [.atom 12, .atom 13, .atom 14, .atom 15]) false (.ret (.agg [.atom 12, .atom 13, .atom 14, .atom 15]) [(0, .cells 274 false 1 [⟨0, 0, [.atom 2, .atom 3, .atom 4, .atom 5]⟩])])) (.ask (.bin .eql 5 true (.atom 0) (.int .u8 39)) true [] 1 (.atom 12) (.cond 12 (.call 238 [.ptr ⟨0, 0, 0⟩, .int .i64 1] [(0, .cells 274 false 1 [⟨0, 0, [.atom 2, .atom 3, .atom 4, .atom 5]⟩])] [] 1 (.atom 13) false (.call 241 [.atom 13] [] [] 1 (.atom 14) false (.cut 10 [.atom 0, .atom 14, .atom 2, .atom 3, .atom 4, .atom 5, .atom 6, .atom 7, .atom 8, .atom 9] [0, 1] [.cells 274 false 1 [⟨0, 0, [.atom 2, .atom 3, .atom 4, .atom 5]⟩], .cells 117 false 1 [⟨0, 0, [.atom 6, .atom 7, .atom 8, .atom 9]⟩]] sub1_tokenL))) (.cut 10 [.atom 0, .bool false, .atom 2, .atom 3, .atom 4, .atom 5, .atom 6, .atom 7, .atom 8, .atom 9] [0, 1] [.cells 274 false 1 [⟨0, 0, [.atom 2, .atom 3, .atom 4, .atom 5]⟩], .cells 117 false 1 [⟨0, 0, [.atom 6, .atom 7, .atom 8, .atom 9]⟩]] sub1_tokenL)))))))
def tree_tokenL : Tree := .new (.call 238 [.ptr ⟨0, 0, 0⟩, .int .i64 0] [(0, .cells 274 false 1 [⟨0, 0, [.atom 0, .atom 1, .atom 2, .atom 3]⟩])] [] 1 (.atom 4) false (.call 239 [.atom 4] [] [] 1 (.atom 5) false (.cond 5 (.cut 10 [.atom 4, .bool true, .atom 0, .atom 1, .atom 2, .atom 3, .int .i64 0, .int .i64 0, .str [], .int .i64 0] [0, 1] [.cells 274 false 1 [⟨0, 0, [.atom 2, .atom 3, .atom 4, .atom 5]⟩], .cells 117 false 1 [⟨0, 0, [.atom 6, .atom 7, .atom 8, .atom 9]⟩]] sub2_tokenL) (.ask (.bin .eql 5 true (.atom 4) (.int .u8 126)) true [] 1 (.atom 6) (.cut 10 [.atom 4, .atom 6, .atom 0, .atom 1, .atom 2, .atom 3, .int .i64 0, .int .i64 0, .str [], .int .i64 0] [0, 1] [.cells 274 false 1 [⟨0, 0, [.atom 2, .atom 3, .atom 4, .atom 5]⟩], .cells 117 false 1 [⟨0, 0, [.atom 6, .atom 7, .atom 8, .atom 9]⟩]] sub2_tokenL)))))
theorem run_tokenL : xrun cfg_tokenL 400 [] [.code code_tokenL] (initT [.ptr ⟨0, 0, 0⟩] 0 .leaf id) (listS ⟨.leaf, 0⟩ [.cells 274 false 1 [⟨0, 0, [.atom 0, .atom 1, .atom 2, .atom 3]⟩]]) 4 = some tree_tokenL := by kernel_rfl
def anns_idxByte : List LoopAnn := []
noncomputable def code_idxByte : Code := match Tryz.f246.body with | some c => c | none => .skip
noncomputable def cfg_idxByte : Cfg := ⟨envB, Tryz.f246, anns_idxByte, [], [], 0⟩
def tree_idxByte : Tree := .call 273 [.atom 0, .atom 1] [] [] 1 (.atom 2) false (.ret (.atom 2) [])
theorem run_idxByte : xrun cfg_idxByte 400 [] [.code code_idxByte] (initT [.atom 0, .atom 1] 0 .leaf id) (listS ⟨.leaf, 0⟩ []) 2 = some tree_idxByte := by kernel_rfl
def anns_idxByte2 : List LoopAnn := []
noncomputable def code_idxByte2 : Code := match Tryz.f273.body with | some c => c | none => .skip
noncomputable def cfg_idxByte2 : Cfg := ⟨envB, Tryz.f273, anns_idxByte2, [], [], 0⟩
def tree_idxByte2 : Tree := .ask (.ext .indexByte [.atom 0, .atom 1]) true [] 1 (.atom 2) (.ret (.atom 2) [])
theorem run_idxByte2 : xrun cfg_idxByte2 400 [] [.code code_idxByte2] (initT [.atom 0, .atom 1] 0 .leaf id) (listS ⟨.leaf, 0⟩ []) 2 = some tree_idxByte2 := by kernel_rfl
end Go.AI.Lx
/- Names in the scanner: what the executor makes of them. -/
namespace Go.AI.Lx
open Go.Proofs Go.Proofs.YtkeaedhoaamfnaaGreatDoor
def anns_nameS : List LoopAnn := []
noncomputable def code_nameS : Code := match Tryz.f242.body with | some c => c | none => .skip
noncomputable def cfg_nameS : Cfg := ⟨envB, Tryz.f242, anns_nameS, [(234, ⟨[], false⟩), (238, ⟨[], false⟩), (244, ⟨[], false⟩)], [⟨6, [(0, false), (1, false), (4, false), (5, true)], []⟩], 1⟩
def sub0_nameS : Tree := .call 244 [.ptr ⟨0, 0, 0⟩, .atom 0, .atom 1] [(0, .cells 274 false 1 [⟨0, 0, [.atom 2, .atom 3, .atom 4, .atom 5]⟩])] [] 4 (.agg [.atom 10, .atom 11, .atom 12, .atom 13]) false (.new (.ask (.lookup 86 (.atom 4) (.atom 12) true) false [] 2 (.tuple [.atom 14, .atom 15]) (.cond 15 (.ret (.agg [.atom 14, .atom 11, .atom 12, .atom 13]) [(0, .cells 274 false 1 [⟨0, 0, [.atom 2, .atom 3, .atom 4, .atom 5]⟩])]) (.ret (.agg [.atom 10, .atom 11, .atom 12, .atom 13]) [(0, .cells 274 false 1 [⟨0, 0, [.atom 2, .atom 3, .atom 4, .atom 5]⟩])]))))
def tree_nameS : Tree := .new (.call 234 [.ptr ⟨0, 0, 0⟩, .int .i64 0, .func (.func 245) [] []] [(0, .cells 274 false 1 [⟨0, 0, [.atom 0, .atom 1, .atom 2, .atom 3]⟩])] [] 1 (.atom 5) false (.call 238 [.ptr ⟨0, 0, 0⟩, .atom 5] [(0, .cells 274 false 1 [⟨0, 0, [.atom 0, .atom 1, .atom 2, .atom 3]⟩])] [] 1 (.atom 6) false (.ask (.bin .eql 5 true (.atom 6) (.int .u8 39)) true [] 1 (.atom 7) (.cond 7 (.ask (.bin .add 3 true (.atom 5) (.int .i64 1)) true [] 1 (.atom 8) (.call 234 [.ptr ⟨0, 0, 0⟩, .atom 8, .func (.func 239) [] []] [(0, .cells 274 false 1 [⟨0, 0, [.atom 0, .atom 1, .atom 2, .atom 3]⟩])] [] 1 (.atom 9) false (.ask (.bin .gtr 3 true (.atom 9) (.int .i64 0)) true [] 1 (.atom 10) (.cond 10 (.ask (.bin .add 3 true (.int .i64 1) (.atom 9)) true [] 1 (.atom 11) (.ask (.bin .add 3 false (.atom 5) (.atom 11)) true [] 1 (.atom 12) (.cut 10 [.atom 4, .atom 12, .atom 0, .atom 1, .atom 2, .atom 3, .int .i64 0, .int .i64 0, .str [], .int .i64 0] [0, 1] [.cells 274 false 1 [⟨0, 0, [.atom 2, .atom 3, .atom 4, .atom 5]⟩], .cells 117 false 1 [⟨0, 0, [.atom 6, .atom 7, .atom 8, .atom 9]⟩]] sub0_nameS))) (.cut 10 [.atom 4, .atom 5, .atom 0, .atom 1, .atom 2, .atom 3, .int .i64 0, .int .i64 0, .str [], .int .i64 0] [0, 1] [.cells 274 false 1 [⟨0, 0, [.atom 2, .atom 3, .atom 4, .atom 5]⟩], .cells 117 false 1 [⟨0, 0, [.atom 6, .atom 7, .atom 8, .atom 9]⟩]] sub0_nameS))))) (.cut 10 [.atom 4, .atom 5, .atom 0, .atom 1, .atom 2, .atom 3, .int .i64 0, .int .i64 0, .str [], .int .i64 0] [0, 1] [.cells 274 false 1 [⟨0, 0, [.atom 2, .atom 3, .atom 4, .atom 5]⟩], .cells 117 false 1 [⟨0, 0, [.atom 6, .atom 7, .atom 8, .atom 9]⟩]] sub0_nameS)))))
theorem run_nameS : xrun cfg_nameS 400 [] [.code code_nameS] (initT [.ptr ⟨0, 0, 0⟩, .atom 4] 0 .leaf id) (listS ⟨.leaf, 0⟩ [.cells 274 false 1 [⟨0, 0, [.atom 0, .atom 1, .atom 2, .atom 3]⟩]]) 5 = some tree_nameS := by kernel_rfl
end Go.AI.Lx
