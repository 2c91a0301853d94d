/- What the functions answer in the evaluator: part 6. No conditions beyond those of the row. -/
import Derived.Test.YtkeaedhoaamfnaaGreatDoorL5
import Derived.Test.YtkeaedhoaamfnaaGreatDoorX4
set_option linter.unusedVariables false
set_option linter.unusedSimpArgs false
noncomputable section
namespace Go.AI
theorem Fw.strike {b : Nat} {F : List Nat} {s s' : S} (h : Fw (b :: F) s s') (hb : ∀ B, s.get b = some B → s'.get b = some B) : Fw F s s' :=
 ⟨fun g B hg hB => if hgb : g = b then by subst hgb; exact hb B hB else h.keep g B (by simp [hgb, hg]) hB, h.ro, h.next, h.wf⟩
end Go.AI
namespace Go.AI.Lx
open Go.Proofs Go.Proofs.YtkeaedhoaamfnaaGreatDoor
abbrev kH : List Nat := [40, 41, 44, 59, 58, 124, 61, 60, 43, 45, 42, 47, 37, 95]
def kc (l : List Nat) (i : Nat) : Nat :=
 if i + 1 < l.length ∧ ((l.drop i).take 2 = [61, 62] ∨ (l.drop i).take 2 = [45, 62]) then 2 else if aw l i ∈ kH then 1 else 0
theorem EO : ∀ c ∈ kH, c < 256 := by
 intro c hc
 simp only [kH, List.mem_cons, List.mem_nil_iff, or_false] at hc
 omega
theorem PR {α : Type} {l : List α} {i : Nat} (h : i < l.length) : ∃ x, l[i]? = some x ∧ l.drop i = x :: l.drop (i + 1) := ⟨l[i], List.getElem?_eq_getElem h, List.drop_eq_getElem_cons h⟩
theorem jB {f : FuncId} {p : Nat → Bool} (hf : jh qH f = some p) {c : Nat} (hc : c < 256) (s : S) : Cw aq f [.int .u8 (c : Int)] s fun w s' => w = .bool (p c) ∧ Fw [] s s' :=
 ⟨_, s, xV hf hc s, rfl, Fw.refl [] s⟩
theorem lc {E : cx} {f : FuncId} {args : List V} {s : S} {P : V → Prop} (h : Cw E f args s fun v s' => P v ∧ s = s') : Cw E f args s fun v s' => P v ∧ Fw [] s s' :=
 h.mono fun _ _ ⟨h1, h2⟩ => ⟨h1, h2 ▸ Fw.refl [] s⟩
def dD (l : List Nat) : Prop := bq (aw l 0) = true ∨ aw l 0 = 126
def li (l : List Nat) : Option (Int × Nat) :=
 if aw l 0 = 39 ∧ 1 < l.length ∧ cA (aw l 1) = true then (if 1 + aV bb l 1 > 24 then none else some (4, 1 + aV bb l 1))
 else if cA (aw l 0) = true ∨ eU (aw l 0) = true then
  (if bf l 0 > 24 then none else some (if eU (aw l 0) = true then 3 else if l.take (bf l 0) ∈ bL then 5 else 2, bf l 0))
 else if kc l 0 = 0 then none else some (6, kc l 0)
def Tk (l : List Nat) (v : V) : Prop := ∃ (k a e : Int) (x : List Nat), v = .tuple [.agg [.int .i64 k, .int .i64 a, .str x, .int .i64 0], .int .i64 e] ∧
 (dD l → e = 0 → k = 1) ∧ (¬ dD l → match li l with | none => e ≠ 0 | some (k', m) => e = 0 ∧ k = k' ∧ x = l.take m)
theorem KY {l : List Nat} {i c : Nat} (h : l[i]? = some c) : aw l i = c := by simp [aw, h]
theorem cC {l : List Nat} {i : Nat} (hb : Bytes l) (h : i < l.length) : l[i]? = some (aw l i) ∧ aw l i < 256 := by
 have h1 : l[i]? = some l[i] := List.getElem?_eq_getElem h
 have h2 := KY h1
 rw [h2]; exact ⟨h1, hb.at h1⟩
theorem EP (l : List Nat) (i : Nat) (h : i < l.length) : i + kc l i ≤ l.length := by
 unfold kc
 split
 ·omega
 ·split <;> omega
theorem kh {l : List Nat} (hb : Bytes l) (i : Nat) : aw l i < 256 := by
 unfold aw
 cases h : l[i]? with
 | none => simp
 | some c => exact hb.at h
def cN (l : List Nat) (p : Nat) : Prop := bq (aw l p) = true ∨ aw l p = 126
theorem wn {q : Nat → Bool} {l : List Nat} {p : Nat} (hp : p < l.length) (h : q (aw l p) = true) : 1 ≤ aV q l p := by
 unfold aV
 have h1 : l.drop p = l[p] :: l.drop (p + 1) := List.drop_eq_getElem_cons hp
 rw [h1]
 have h2 : aw l p = l[p] := KY (List.getElem?_eq_getElem hp)
 rw [h2] at h
 rw [List.takeWhile_cons_of_pos h]
 simp
def JX : List aA := [⟨6, [(0, false), (1, false), (4, false), (7, true)], []⟩]
def Jt : Code := match Tryz.f71.body with | some c => c | none => .skip
def AL : eK := ⟨aq, Tryz.f71, JX, [], [⟨100003, [(0, false), (1, false), (4, false), (6, false), (22, true)], []⟩, ⟨100010, [(0, false), (1, false), (4, false), (7, false), (8, false), (67, true)], []⟩, ⟨100013, [(0, false), (1, false), (4, false), (6, false), (91, true)], []⟩, ⟨100018, [(0, false), (1, false), (4, false), (6, false), (112, true)], []⟩, ⟨26, [(0, false), (1, false), (4, false), (11, false), (12, true)], []⟩], 0⟩
def eX : ax := .cond 3 (rT (.tuple [.agg [iV 0, iV 0, s0, iV 0], iV 13])) (aT (.slice 9 0 (some (iV 0)) (some 1) none) 8 (rT (.tuple [.agg [iV 1, 2, 8, iV 0], iV 0])))
def qh : ax := aT (.bif .len #[9] [0]) 6 (aT (.bin .lss 3 false 1 6) 7 (.cond 7 (aT (.index 9 0 1) 8 (cT 103 [8] 9 (.cond 9 (aT (.bin .add 3 true 1 (iV 1)) 10 (.back 0 [0, 10, 2, 3, 4, 5] [0])) (aT (.slice 9 0 (some (iV 0)) (some 1) none) 10 (.call 104 [10] [] [] 2 (.tuple [11, 12]) false (aT (.bin .neq 31 true 12 (iV 0)) 13 (.cond 13 (.cut 8 [0, 1, 11, .bool true, 2, 3, 4, 5] [0] [cB 117 [4, 5, 6, 7]] eX) (aT (.bif .len #[9] [0]) 14 (aT (.bin .lss 3 false 1 14) 15 (.cond 15 (aT (.index 9 0 1) 16 (cT 105 [16] 17 (.cond 17 (.cut 8 [0, 1, 11, .bool true, 2, 3, 4, 5] [0] [cB 117 [4, 5, 6, 7]] eX) (aT (.index 9 0 1) 18 (aT (.bin .eql 5 true 18 (.int .u8 39)) 19 (.cut 8 [0, 1, 11, 19, 2, 3, 4, 5] [0] [cB 117 [4, 5, 6, 7]] eX)))))) (.cut 8 [0, 1, 11, .bool false, 2, 3, 4, 5] [0] [cB 117 [4, 5, 6, 7]] eX))))))))))) (aT (.slice 9 0 (some (iV 0)) (some 1) none) 8 (.call 104 [8] [] [] 2 (.tuple [9, 10]) false (aT (.bin .neq 31 true 10 (iV 0)) 11 (.cond 11 (.cut 8 [0, 1, 9, .bool true, 2, 3, 4, 5] [0] [cB 117 [4, 5, 6, 7]] eX) (aT (.bif .len #[9] [0]) 12 (aT (.bin .lss 3 false 1 12) 13 (.cond 13 (aT (.index 9 0 1) 14 (cT 105 [14] 15 (.cond 15 (.cut 8 [0, 1, 9, .bool true, 2, 3, 4, 5] [0] [cB 117 [4, 5, 6, 7]] eX) (aT (.index 9 0 1) 16 (aT (.bin .eql 5 true 16 (.int .u8 39)) 17 (.cut 8 [0, 1, 9, 17, 2, 3, 4, 5] [0] [cB 117 [4, 5, 6, 7]] eX)))))) (.cut 8 [0, 1, 9, .bool false, 2, 3, 4, 5] [0] [cB 117 [4, 5, 6, 7]] eX))))))))))
def mj : ax := aT (.slice 9 0 (some (iV 0)) (some 1) none) 7 (rT (.tuple [.agg [2, iV 0, 7, iV 0], iV 0]))
def qb : ax := .cond 2 (cT 109 [0, iV 0] 7 (aT (.bin .sub 3 false 7 (iV 0)) 8 (aT (.bin .gtr 3 true 8 (iV 24)) 9 (.cond 9 (rT (.tuple [.agg [iV 0, iV 0, s0, iV 0], iV 2])) (cT 108 [1] 10 (.cond 10 (.cut 7 [0, 7, iV 3, 3, 4, 5, 6] [0] [cB 117 [3, 4, 5, 6]] mj) (aT (.slice 9 0 (some (iV 0)) (some 7) none) 11 (cT 110 [11] 12 (.cond 12 (.cut 7 [0, 7, iV 5, 3, 4, 5, 6] [0] [cB 117 [3, 4, 5, 6]] mj) (.cut 7 [0, 7, iV 2, 3, 4, 5, 6] [0] [cB 117 [3, 4, 5, 6]] mj)))))))))) (cT 111 [0, iV 0] 7 (aT (.bin .eql 3 true 7 (iV 0)) 8 (.cond 8 (rT (.tuple [.agg [iV 0, iV 0, s0, iV 0], iV 11])) (aT (.bin .add 3 false (iV 0) 7) 9 (aT (.slice 9 0 (some (iV 0)) (some 9) none) 10 (rT (.tuple [.agg [iV 6, iV 0, 10, iV 0], iV 0])))))))
def mh : ax := .cond 2 (cT 107 [0, iV 1] 7 (aT (.bin .sub 3 false 7 (iV 0)) 8 (aT (.bin .gtr 3 true 8 (iV 24)) 9 (.cond 9 (rT (.tuple [.agg [iV 0, iV 0, s0, iV 0], iV 2])) (aT (.slice 9 0 (some (iV 0)) (some 7) none) 10 (rT (.tuple [.agg [iV 4, iV 0, 10, iV 0], iV 0]))))))) (cT 106 [1] 7 (.cond 7 (.cut 7 [0, 1, .bool true, 3, 4, 5, 6] [0] [cB 117 [3, 4, 5, 6]] qb) (cT 108 [1] 8 (.cut 7 [0, 1, 8, 3, 4, 5, 6] [0] [cB 117 [3, 4, 5, 6]] qb))))
def qa : ax := .cond 2 (aT (.bin .eql 5 true 1 (.int .u8 126)) 7 (.cond 7 (.loop 0 6 [0, iV 1, 3, 4, 5, 6] [0] [cB 117 [2, 3, 4, 5]] qh) (.loop 0 6 [0, iV 0, 3, 4, 5, 6] [0] [cB 117 [2, 3, 4, 5]] qh))) (aT (.bin .eql 5 true 1 (.int .u8 39)) 7 (.cond 7 (aT (.bif .len #[9] [0]) 8 (aT (.bin .lss 3 false (iV 1) 8) 9 (.cond 9 (aT (.index 9 0 (iV 1)) 10 (cT 106 [10] 11 (.cut 7 [0, 1, 11, 3, 4, 5, 6] [0] [cB 117 [3, 4, 5, 6]] mh))) (.cut 7 [0, 1, .bool false, 3, 4, 5, 6] [0] [cB 117 [3, 4, 5, 6]] mh)))) (.cut 7 [0, 1, .bool false, 3, 4, 5, 6] [0] [cB 117 [3, 4, 5, 6]] mh)))
def Hz : ax := .new (aT (.index 9 0 (iV 0)) 1 (aT (.bin .eql 5 true 1 (.int .u8 126)) 2 (.cond 2 (.cut 7 [0, 1, .bool true, iV 0, iV 0, s0, iV 0] [0] [cB 117 [3, 4, 5, 6]] qa) (cT 103 [1] 3 (.cut 7 [0, 1, 3, iV 0, iV 0, s0, iV 0] [0] [cB 117 [3, 4, 5, 6]] qa)))))
theorem Mr : bu AL 400 [] [.code Jt] (aO [.atom 0, .int .i64 0] 0 .leaf id) (aR ⟨.leaf, 0⟩ []) 1 = some Hz := by kernel_rfl
def DK : List aA := [⟨9, [(0, false), (4, false), (5, true), (6, false), (7, true)], []⟩]
def Dq : Code := match Tryz.f104.body with | some c => c | none => .skip
def ut : eK := ⟨aq, Tryz.f104, DK, [(103, ⟨[], false⟩)], [⟨4, [(0, false), (4, true)], []⟩, ⟨100003, [(0, false), (4, false), (16, true)], []⟩, ⟨100005, [(0, false), (4, false), (36, true)], []⟩], 0⟩
def BJ : ax := aT (.bif .len #[9] [0]) 4 (aT (.bin .lss 3 false 3 4) 5 (.cond 5 (aT (.index 9 0 3) 6 (cT 103 [6] 7 (aT (.un .not 7) 8 (.cond 8 (rT (.tuple [iV 0, iV 13])) (aT (.index 9 0 3) 9 (aT (.bin .sub 5 true 9 (.int .u8 48)) 10 (aT (.conv 5 3 10) 11 (aT (.bin .add 3 false (iV (-9223372036854775808)) 11) 12 (aT (.bin .quo 3 true 12 (iV 10)) 13 (aT (.bin .lss 3 false 2 13) 14 (.cond 14 (rT (.tuple [iV 0, iV 13])) (aT (.bin .mul 3 true (iV 10) 2) 15 (aT (.bin .sub 3 false 15 11) 16 (aT (.bin .add 3 true 3 (iV 1)) 17 (.back 0 [0, 1, 16, 17] []))))))))))))))) (aT (.bin .eql 3 true 1 (iV 1)) 6 (.cond 6 (rT (.tuple [2, iV 0])) (aT (.bin .eql 3 false 2 (iV (-9223372036854775808))) 7 (.cond 7 (rT (.tuple [iV 0, iV 13])) (aT (.un .neg 2) 8 (rT (.tuple [8, iV 0])))))))))
def ig : ax := .cond 2 (rT (.tuple [iV 0, iV 13])) (.loop 0 4 [0, 1, iV 0, 1] [] [] BJ)
def ml : ax := aT (.bif .len #[9] [0]) 2 (aT (.bin .eql 3 false 2 1) 3 (.cond 3 (.cut 3 [0, 1, .bool true] [] [] ig) (aT (.bif .len #[9] [0]) 4 (aT (.bin .gtr 3 true 4 (iV 30)) 5 (.cond 5 (.cut 3 [0, 1, .bool true] [] [] ig) (aT (.index 9 0 1) 6 (aT (.bin .eql 5 true 6 (.int .u8 48)) 7 (.cond 7 (aT (.bif .len #[9] [0]) 8 (aT (.bin .gtr 3 true 8 (iV 1)) 9 (.cut 3 [0, 1, 9] [] [] ig))) (.cut 3 [0, 1, .bool false] [] [] ig)))))))))
def mi : ax := .cond 1 (.cut 2 [0, iV 1] [] [] ml) (.cut 2 [0, iV 0] [] [] ml)
def Bs : ax := aT (.bif .len #[9] [0]) 1 (aT (.bin .gtr 3 true 1 (iV 0)) 2 (.cond 2 (aT (.index 9 0 (iV 0)) 3 (aT (.bin .eql 5 true 3 (.int .u8 126)) 4 (.cut 2 [0, 4] [] [] mi))) (.cut 2 [0, .bool false] [] [] mi)))
theorem EU : bu ut 400 [] [.code Dq] (aO [.atom 0] 0 .leaf id) (aR ⟨.leaf, 0⟩ []) 1 = some Bs := by kernel_rfl
end Go.AI.Lx
namespace Go.AI.Lx
open Go.Proofs Go.Proofs.YtkeaedhoaamfnaaGreatDoor
set_option maxRecDepth 10000
section
variable {l : List Nat} {s : S} {L : List bS}
abbrev Vp (s : S) : dz → Prop := sq fun v s' => (∃ a e : Int, v = .tuple [.int .i64 a, .int .i64 e]) ∧ Fw [] s s'
theorem gC (hb : Bytes l) (hl : l.length < 4611686018427387904) {q : Bool} {i : Nat} (hi : i ≤ l.length) : ai aq [] s (Vp s) ig ⟨[.str l, .int .i64 ((i : Nat) : Int), .bool q], []⟩ [] T0 L := by
 refine aB rfl (fun c6 => ?_) (fun c6 => ?_)
 ·exact ak fun s1 h1 h2 h3 h4 => ⟨_, _, rfl, ⟨_, _, rfl⟩, h1⟩
 ·refine ej (fun j vs bs => ∃ (n : Int) (k : Nat), k ≤ l.length ∧ j = l.length - k ∧ vs = [.str l, .int .i64 ((i : Nat) : Int), .int .i64 n, .int .i64 ((k : Nat) : Int)] ∧ bs = []) (l.length - i) ⟨0, i, hi, rfl, rfl, rfl⟩ ?_
  rintro j _ _ ⟨n, k, hk, rfl, rfl, rfl⟩
  refine dV rfl Tryz.underlying9 rfl rfl ?_
  refine cP rfl rfl rfl ?_
  refine aP rfl (fun c1 => ?_) (fun c1 => ?_)
  ·have hat := cC hb (show k < l.length by omega)
   refine fL Tryz.underlying9 rfl rfl hat rfl ?_
   refine aj (.bool (bq (aw l k))) (fun a _ _ _ _ => jB rfl hat.2 a) rfl rfl ?_
   refine dR rfl rfl ?_
   refine aB rfl (fun c2 => ?_) (fun c2 => ?_)
   ·exact ak fun s1 h1 h2 h3 h4 => ⟨_, _, rfl, ⟨_, _, rfl⟩, h1⟩
   ·refine fL Tryz.underlying9 rfl rfl hat rfl ?_
    refine Aa rfl rfl rfl rfl ?_
    refine vA (by rw [jT, Tryz.underlying5]; rfl) Tryz.underlying3 rfl rfl rfl ?_
    refine br rfl rfl rfl rfl ?_
    refine jA (op := .quo) rfl rfl rfl ⟨rfl, rfl⟩ rfl ?_
    refine cP rfl rfl rfl ?_
    refine aP rfl (fun c3 => ?_) (fun c3 => ?_)
    ·exact ak fun s1 h1 h2 h3 h4 => ⟨_, _, rfl, ⟨_, _, rfl⟩, h1⟩
    ·refine PE rfl rfl rfl rfl ?_
     refine Aa rfl rfl rfl rfl ?_
     refine br (r := ((k + 1 : Nat) : Int)) rfl rfl (wI (by omega)) rfl ?_
     exact eJ (l.length - (k + 1)) rfl (by omega) ⟨_, k + 1, by omega, rfl, rfl, rfl⟩
  ·refine cQ rfl rfl rfl ?_
   refine aP rfl (fun c4 => ?_) (fun c4 => ?_)
   ·exact ak fun s1 h1 h2 h3 h4 => ⟨_, _, rfl, ⟨_, _, rfl⟩, h1⟩
   ·refine cQ rfl rfl rfl ?_
    refine aP rfl (fun c5 => ?_) (fun c5 => ?_)
    ·exact ak fun s1 h1 h2 h3 h4 => ⟨_, _, rfl, ⟨_, _, rfl⟩, h1⟩
    ·refine ST rfl rfl rfl ?_
     exact ak fun s1 h1 h2 h3 h4 => ⟨_, _, rfl, ⟨_, _, rfl⟩, h1⟩
theorem nk (hb : Bytes l) (hl : l.length < 4611686018427387904) {i : Nat} (hi : i ≤ l.length) : ai aq [] s (Vp s) ml ⟨[.str l, .int .i64 ((i : Nat) : Int)], []⟩ [] T0 L := by
 refine dV rfl Tryz.underlying9 rfl rfl ?_
 refine cQ rfl rfl rfl ?_
 refine aP rfl (fun c7 => ?_) (fun c7 => ?_)
 ·exact aK (gC hb hl hi (q := true))
 ·refine dV rfl Tryz.underlying9 rfl rfl ?_
  refine gp rfl rfl rfl ?_
  refine aP rfl (fun c8 => ?_) (fun c8 => ?_)
  ·exact aK (gC hb hl hi (q := true))
  ·refine fL Tryz.underlying9 rfl rfl (cC hb (by omega)) rfl ?_
   refine cQ rfl rfl rfl ?_
   refine aP rfl (fun c9 => ?_) (fun c9 => ?_)
   ·refine dV rfl Tryz.underlying9 rfl rfl ?_
    refine gp rfl rfl rfl ?_
    exact aK (gC hb hl hi)
   ·exact aK (gC hb hl hi (q := false))
theorem nj (hb : Bytes l) (hl : l.length < 4611686018427387904) {q : Bool} (hq : q = true → 1 ≤ l.length) : ai aq [] s (Vp s) mi ⟨[.str l, .bool q], []⟩ [] T0 L := by
 refine aB rfl (fun c10 => ?_) (fun c10 => ?_)
 ·exact aK (nk hb hl (i := 1) (hq c10))
 ·exact aK (nk hb hl (i := 0) (Nat.zero_le _))
theorem Ry (hb : Bytes l) (hl : l.length < 4611686018427387904) (hw : WF s) : Cw aq 104 [.str l] s fun v s' => (∃ a e : Int, v = .tuple [.int .i64 a, .int .i64 e]) ∧ Fw [] s s' := by
 refine ay (aI (C := ut) (e := ⟨[.str l], []⟩) (F := []) (bE rfl rfl rfl) Tryz.func104 rfl (by kernel_rfl) EU rfl ⟨rfl, rfl, rfl⟩ rfl hw rfl (by simp) trivial am trivial (by simp) ?_)
 refine dV rfl Tryz.underlying9 rfl rfl ?_
 refine gp rfl rfl rfl ?_
 refine aP rfl (fun c11 => ?_) (fun c11 => ?_)
 ·refine fL (n := 0) Tryz.underlying9 rfl rfl (cC hb (by omega)) rfl ?_
  refine cQ rfl rfl rfl ?_
  exact aK (nj hb hl (fun _ => by omega))
 ·exact aK (nj hb hl (q := false) (fun h => by cases h))
end
end Go.AI.Lx
namespace Go.AI.Lx
open Go.Proofs Go.Proofs.YtkeaedhoaamfnaaGreatDoor
def GV : List aA := [⟨2, [(0, false), (5, true)], []⟩, ⟨5, [(0, false), (5, false), (6, true)], []⟩]
def Gw : Code := match Tryz.f109.body with | some c => c | none => .skip
def xI : eK := ⟨aq, Tryz.f109, GV, [(103, ⟨[], false⟩), (105, ⟨[], false⟩), (106, ⟨[], false⟩), (108, ⟨[], false⟩), (107, ⟨[], false⟩), (109, ⟨[], false⟩), (110, ⟨[], false⟩)], [], 0⟩
def nO : ax := aT (.bif .len #[9] [0]) 3 (aT (.bin .lss 3 false 2 3) 4 (.cond 4 (aT (.index 9 0 2) 5 (cT 103 [5] 6 (.cond 6 (aT (.bin .add 3 true 2 (iV 1)) 7 (.back 0 [0, 1, 7] [])) (aT (.bif .len #[9] [0]) 7 (aT (.bin .lss 3 false 1 7) 8 (.cond 8 (aT (.index 9 0 1) 9 (aT (.bin .eql 5 true 9 (.int .u8 39)) 10 (.cond 10 (aT (.bin .add 3 true 1 (iV 1)) 11 (aT (.bin .gtr 3 false 2 11) 12 (.cond 12 (rT 2) (rT 1)))) (rT 1)))) (rT 1))))))) (aT (.bif .len #[9] [0]) 5 (aT (.bin .lss 3 false 1 5) 6 (.cond 6 (aT (.index 9 0 1) 7 (aT (.bin .eql 5 true 7 (.int .u8 39)) 8 (.cond 8 (aT (.bin .add 3 true 1 (iV 1)) 9 (aT (.bin .gtr 3 false 2 9) 10 (.cond 10 (rT 2) (rT 1)))) (rT 1)))) (rT 1))))))
def Ew : ax := .loop 0 2 [0, 1] [] [] (aT (.bif .len #[9] [0]) 2 (aT (.bin .lss 3 false 1 2) 3 (.cond 3 (aT (.index 9 0 1) 4 (cT 105 [4] 5 (.cond 5 (aT (.bin .add 3 true 1 (iV 1)) 6 (.back 0 [0, 6] [])) (aT (.bin .add 3 true 1 (iV 1)) 6 (.loop 0 3 [0, 1, 6] [] [] nO))))) (aT (.bin .add 3 true 1 (iV 1)) 4 (.loop 0 3 [0, 1, 4] [] [] nO)))))
theorem Ip : bu xI 400 [] [.code Gw] (aO [.atom 0, .atom 1] 0 .leaf id) (aR ⟨.leaf, 0⟩ []) 2 = some Ew := by kernel_rfl
def JU : List aA := [⟨5, [(0, false), (1, false), (5, false), (6, true)], []⟩]
def Jp : Code := match Tryz.f111.body with | some c => c | none => .skip
def AH : eK := ⟨aq, Tryz.f111, JU, [(103, ⟨[], false⟩), (105, ⟨[], false⟩), (106, ⟨[], false⟩), (108, ⟨[], false⟩), (107, ⟨[], false⟩), (109, ⟨[], false⟩), (110, ⟨[], false⟩)], [⟨100002, [(0, false), (1, false), (27, true)], []⟩], 0⟩
def HT : ax := aT (.bif .len #[9] [.str [40, 41, 44, 59, 58, 124, 61, 60, 43, 45, 42, 47, 37, 95]]) 3 (aT (.bin .lss 3 false 2 3) 4 (.cond 4 (aF (.index 9 (.str [40, 41, 44, 59, 58, 124, 61, 60, 43, 45, 42, 47, 37, 95]) 2) 5 (aF (.index 9 0 1) 6 (aF (.bin .eql 5 false 5 6) 7 (.cond 7 (rT (iV 1)) (aT (.bin .add 3 true 2 (iV 1)) 8 (.back 0 [0, 1, 8] [])))))) (rT (iV 0))))
def mr : ax := .cond 2 (rT (iV 2)) (.loop 0 3 [0, 1, iV 0] [] [] HT)
def Hw : ax := aT (.bin .add 3 true 1 (iV 1)) 2 (aT (.bif .len #[9] [0]) 3 (aT (.bin .lss 3 false 2 3) 4 (.cond 4 (aT (.bin .add 3 true 1 (iV 2)) 5 (aT (.slice 9 0 (some 1) (some 5) none) 6 (aT (.bin .eql 9 true 6 (.str [61, 62])) 7 (.cond 7 (.cut 3 [0, 1, .bool true] [] [] mr) (aT (.bin .add 3 true 1 (iV 2)) 8 (aT (.slice 9 0 (some 1) (some 8) none) 9 (aT (.bin .eql 9 true 9 (.str [45, 62])) 10 (.cut 3 [0, 1, 10] [] [] mr)))))))) (.cut 3 [0, 1, .bool false] [] [] mr))))
theorem Mn : bu AH 400 [] [.code Jp] (aO [.atom 0, .atom 1] 0 .leaf id) (aR ⟨.leaf, 0⟩ []) 2 = some Hw := by kernel_rfl
end Go.AI.Lx
namespace Go.AI.Lx
open Go.Proofs Go.Proofs.YtkeaedhoaamfnaaGreatDoor
set_option maxRecDepth 10000
section
variable {l : List Nat} {s : S}
def NI (l : List Nat) (i : Nat) (j : Nat) (vs : List V) (bs : List Nat) : Prop := ∃ k, i + 1 + aV bq l (i + 1) = k + aV bq l k ∧ i + 1 ≤ k ∧ j = l.length + 1 - k ∧ k ≤ l.length + 1 ∧ vs = [.str l, .int .i64 ((i : Nat) : Int), .int .i64 ((k : Nat) : Int)] ∧ bs = []
theorem Fz (hb : Bytes l) (hl : l.length < 4611686018427387904) {i j0 : Nat} (hi : i ≤ l.length) (hp : j0 + aV bb l j0 = i) (j : Nat) (vs : List V) (bs : List Nat) (h : NI l i j vs bs) :
 ai aq [] s (sq fun v s' => v = .int .i64 ((j0 + bf l j0 : Nat) : Int) ∧ Fw [] s s') nO ⟨vs, bs⟩ [] T0 [QH (NI l i) j] := by
 obtain ⟨k, hk, hk2, rfl, hk3, rfl, rfl⟩ := h
 have hn : j0 + bf l j0 = if aw l i = 39 ∧ 0 < aV bq l (i + 1) then i + 1 + aV bq l (i + 1) else i := by
  unfold bf; rw [hp]; split <;> omega
 have fin : ∀ (L : List bS) (x : V) (h0 : aV bq l k = 0) (c3 : i < l.length), (aw l i = 39 → x = .int .i64 ((if k > i + 1 then k else i : Nat) : Int)) → (aw l i ≠ 39 → x = .int .i64 ((i : Nat) : Int)) → x = .int .i64 ((j0 + bf l j0 : Nat) : Int) := by
  intro L x h0 c3 h1 h2
  rw [hn]
  by_cases h39 : aw l i = 39
  ·rw [h1 h39]
   by_cases hgt : k > i + 1
   ·rw [if_pos hgt, if_pos ⟨h39, by omega⟩, show i + 1 + aV bq l (i + 1) = k by omega]
   ·rw [if_neg hgt, if_neg (fun h => by omega)]
  ·rw [h2 h39, if_neg (fun h => h39 h.1)]
 refine dV rfl Tryz.underlying9 rfl rfl ?_
 refine cP rfl rfl rfl ?_
 refine aP rfl (fun c1 => ?_) (fun c1 => ?_)
 ·have hat := cC hb (show k < l.length by omega)
  have hst := oT (q := bq) hat.1
  refine fL Tryz.underlying9 rfl rfl hat rfl ?_
  refine aj (.bool (bq (aw l k))) (fun a _ _ _ _ => jB rfl hat.2 a) rfl rfl ?_
  refine aB rfl (fun c2 => ?_) (fun c2 => ?_)
  ·rw [if_pos c2] at hst
   refine br (r := ((k + 1 : Nat) : Int)) rfl rfl (wI (by omega)) rfl ?_
   exact eJ (l.length + 1 - (k + 1)) rfl (by omega) ⟨k + 1, by omega, by omega, rfl, by omega, rfl, rfl⟩
  ·rw [if_neg (by rw [c2]; simp)] at hst
   refine dV rfl Tryz.underlying9 rfl rfl ?_
   refine cP rfl rfl rfl ?_
   refine aP rfl (fun c3 => ?_) (fun c3 => ?_)
   ·refine fL Tryz.underlying9 rfl rfl (cC hb (by omega)) rfl ?_
    refine cQ rfl rfl rfl ?_
    refine aP rfl (fun c4 => ?_) (fun c4 => ?_)
    ·refine br (r := ((i + 1 : Nat) : Int)) rfl rfl (wI (by omega)) rfl ?_
     refine gp rfl rfl rfl ?_
     refine aP rfl (fun c5 => ?_) (fun c5 => ?_)
     ·exact ak fun s1 h1 h2 h3 h4 => ⟨_, _, rfl, fin [] _ hst (by omega) (fun _ => by rw [if_pos (by omega)]; rfl) (fun h => absurd (by omega) h), h1⟩
     ·exact ak fun s1 h1 h2 h3 h4 => ⟨_, _, rfl, fin [] _ hst (by omega) (fun _ => by rw [if_neg (by omega)]; rfl) (fun h => absurd (by omega) h), h1⟩
    ·exact ak fun s1 h1 h2 h3 h4 => ⟨_, _, rfl, fin [] _ hst (by omega) (fun h => absurd (by omega) c4) (fun _ => rfl), h1⟩
   ·omega
 ·have hst := lJ bq (l := l) (i := k) (by omega)
  refine dV rfl Tryz.underlying9 rfl rfl ?_
  refine cP rfl rfl rfl ?_
  refine aP rfl (fun c6 => ?_) (fun c6 => ?_)
  ·refine fL Tryz.underlying9 rfl rfl (cC hb (by omega)) rfl ?_
   refine cQ rfl rfl rfl ?_
   refine aP rfl (fun c7 => ?_) (fun c7 => ?_)
   ·refine br (r := ((i + 1 : Nat) : Int)) rfl rfl (wI (by omega)) rfl ?_
    refine gp rfl rfl rfl ?_
    refine aP rfl (fun c8 => ?_) (fun c8 => ?_)
    ·exact ak fun s1 h1 h2 h3 h4 => ⟨_, _, rfl, fin [] _ hst (by omega) (fun _ => by rw [if_pos (by omega)]; rfl) (fun h => absurd (by omega) h), h1⟩
    ·exact ak fun s1 h1 h2 h3 h4 => ⟨_, _, rfl, fin [] _ hst (by omega) (fun _ => by rw [if_neg (by omega)]; rfl) (fun h => absurd (by omega) h), h1⟩
   ·exact ak fun s1 h1 h2 h3 h4 => ⟨_, _, rfl, fin [] _ hst (by omega) (fun h => absurd (by omega) c7) (fun _ => rfl), h1⟩
  ·have he : i = l.length := by omega
   have h0 := lJ bq (l := l) (i := i + 1) (by omega)
   exact ak fun s1 h1 h2 h3 h4 => ⟨_, _, rfl, by rw [hn, if_neg (fun h => by omega)]; rfl, h1⟩
theorem TS (hb : Bytes l) (hl : l.length < 4611686018427387904) {i : Nat} (hi : i ≤ l.length) (hw : WF s) : Cw aq 109 [.str l, .int .i64 ((i : Nat) : Int)] s fun v s' => v = .int .i64 ((i + bf l i : Nat) : Int) ∧ Fw [] s s' := by
 refine ay (aI (C := xI) (e := ⟨[.str l, .int .i64 ((i : Nat) : Int)], []⟩) (F := []) (bE rfl rfl rfl) Tryz.func109 rfl (by kernel_rfl) Ip rfl ⟨rfl, rfl, rfl⟩ rfl hw rfl (by simp) trivial am trivial (by simp) ?_)
 refine ej (fun j vs bs => ∃ k, i ≤ k ∧ k ≤ l.length ∧ k + aV bb l k = i + aV bb l i ∧ j = l.length - k ∧ vs = [.str l, .int .i64 ((k : Nat) : Int)] ∧ bs = []) (l.length - i) ⟨i, Nat.le_refl _, hi, rfl, rfl, rfl, rfl⟩ ?_
 rintro j _ _ ⟨k, hk1, hk2, hk3, rfl, rfl, rfl⟩
 refine dV rfl Tryz.underlying9 rfl rfl ?_
 refine cP rfl rfl rfl ?_
 refine aP rfl (fun c9 => ?_) (fun c9 => ?_)
 ·have hat := cC hb (show k < l.length by omega)
  have hst := oT (q := bb) hat.1
  refine fL Tryz.underlying9 rfl rfl hat rfl ?_
  refine aj (.bool (bb (aw l k))) (fun a _ _ _ _ => jB rfl hat.2 a) rfl rfl ?_
  refine aB rfl (fun c10 => ?_) (fun c10 => ?_)
  ·rw [if_pos c10] at hst
   refine br (r := ((k + 1 : Nat) : Int)) rfl rfl (wI (by omega)) rfl ?_
   exact eJ (l.length - (k + 1)) rfl (by omega) ⟨k + 1, by omega, by omega, by omega, rfl, rfl, rfl⟩
  ·rw [if_neg (by rw [c10]; simp)] at hst
   refine br (r := ((k + 1 : Nat) : Int)) rfl rfl (wI (by omega)) rfl ?_
   exact ej (NI l k) (l.length + 1 - (k + 1)) ⟨k + 1, rfl, Nat.le_refl _, rfl, by omega, rfl, rfl⟩ (Fz hb hl (by omega) (by omega))
 ·have hst := lJ bb (l := l) (i := k) (by omega)
  refine br (r := ((k + 1 : Nat) : Int)) rfl rfl (wI (by omega)) rfl ?_
  exact ej (NI l k) (l.length + 1 - (k + 1)) ⟨k + 1, rfl, Nat.le_refl _, rfl, by omega, rfl, rfl⟩ (Fz hb hl (by omega) (by omega))
theorem ln (hb : Bytes l) {i : Nat} (hi : i < l.length) {q : Bool} (hq : q = true ↔ i + 1 < l.length ∧ ((l.drop i).take 2 = [61, 62] ∨ (l.drop i).take 2 = [45, 62])) {L : List bS} :
 ai aq [] s (sq fun v s' => v = .int .i64 ((kc l i : Nat) : Int) ∧ Fw [] s s') mr ⟨[.str l, .int .i64 ((i : Nat) : Int), .bool q], []⟩ [] T0 L := by
 refine aB rfl (fun c3 => ?_) (fun c3 => ?_)
 ·exact ak fun s1 h1 h2 h3 h4 => ⟨_, _, rfl, by unfold kc; rw [if_pos (hq.1 c3)]; rfl, h1⟩
 ·have hs : kc l i = if aw l i ∈ kH then 1 else 0 := by unfold kc; rw [if_neg (fun h => by rw [hq.2 h] at c3; cases c3)]
  rw [hs]
  have hsl : kH.length = 14 := rfl
  refine ej (fun j vs bs => ∃ k, k ≤ 14 ∧ j = 14 - k ∧ vs = [.str l, .int .i64 ((i : Nat) : Int), .int .i64 ((k : Nat) : Int)] ∧ bs = [] ∧ (aw l i ∈ kH ↔ aw l i ∈ kH.drop k)) 14 ⟨0, by omega, rfl, rfl, rfl, by simp⟩ ?_
  rintro j _ _ ⟨k, hk, rfl, rfl, rfl, hm⟩
  refine dV rfl Tryz.underlying9 rfl rfl ?_
  refine cP rfl rfl rfl ?_
  refine aP rfl (fun c1 => ?_) (fun c1 => ?_)
  ·have hk2 : k < kH.length := by have : ((k : Nat) : Int) < 14 := c1; omega
   obtain ⟨x, hx, hd⟩ := PR hk2
   rw [hd] at hm
   refine fL (l := kH) (ch := x) Tryz.underlying9 rfl rfl ⟨hx, EO x (List.mem_of_getElem? hx)⟩ rfl ?_
   refine fL Tryz.underlying9 rfl rfl (cC hb hi) rfl ?_
   refine cQ rfl rfl rfl ?_
   refine aP rfl (fun c2 => ?_) (fun c2 => ?_)
   ·have hin : aw l i ∈ x :: kH.drop (k + 1) := by rw [show x = aw l i by omega]; exact List.mem_cons_self
    exact ak fun s1 h1 h2 h3 h4 => ⟨_, _, rfl, by rw [if_pos (hm.2 hin)]; rfl, h1⟩
   ·refine br (r := ((k + 1 : Nat) : Int)) rfl rfl (wI (by omega)) rfl ?_
    refine eJ (14 - (k + 1)) rfl (by omega) ⟨k + 1, by omega, rfl, rfl, rfl, ?_⟩
    rw [hm, List.mem_cons]
    exact ⟨fun h => h.resolve_left (fun h => by omega), .inr⟩
  ·have hk2 : k = 14 := by have : ¬ ((k : Nat) : Int) < 14 := c1; omega
   subst hk2
   exact ak fun s1 h1 h2 h3 h4 => ⟨_, _, rfl, by rw [if_neg (fun h => by have := hm.1 h; simp [kH] at this)]; rfl, h1⟩
theorem VD (hb : Bytes l) (hl : l.length < 4611686018427387904) {i : Nat} (hi : i < l.length) (hw : WF s) : Cw aq 111 [.str l, .int .i64 ((i : Nat) : Int)] s fun v s' => v = .int .i64 ((kc l i : Nat) : Int) ∧ Fw [] s s' := by
 refine ay (aI (C := AH) (e := ⟨[.str l, .int .i64 ((i : Nat) : Int)], []⟩) (F := []) (bE rfl rfl rfl) Tryz.func111 rfl (by kernel_rfl) Mn rfl ⟨rfl, rfl, rfl⟩ rfl hw rfl (by simp) trivial am trivial (by simp) ?_)
 have hsb : ∀ z ∈ (l.drop i).take (i + 2 - i), z < 256 := fun z hz => hb z (List.mem_of_mem_drop (List.mem_of_mem_take hz))
 have h2 : i + 2 - i = 2 := by omega
 refine br (r := ((i + 1 : Nat) : Int)) rfl rfl (wI (by omega)) rfl ?_
 refine dV rfl Tryz.underlying9 rfl rfl ?_
 refine cP rfl rfl rfl ?_
 refine aP rfl (fun c4 => ?_) (fun c4 => ?_)
 ·refine br (r := ((i + 2 : Nat) : Int)) rfl rfl (by rw [show ((i : Nat) : Int) + 2 = ((i + 2 : Nat) : Int) by omega]; exact aY _ ⟨by omega, by omega⟩) rfl ?_
  refine lP Tryz.underlying9 rfl rfl rfl (by omega) (by omega) rfl ?_
  refine gi rfl rfl hsb (by intro z hz; simp at hz; omega) rfl ?_
  refine aP rfl (fun c5 => ?_) (fun c5 => ?_)
  ·rw [h2] at c5
   exact aK (ln hb hi (q := true) ⟨fun _ => ⟨by omega, .inl c5⟩, fun _ => rfl⟩)
  ·rw [h2] at c5
   refine br (r := ((i + 2 : Nat) : Int)) rfl rfl (by rw [show ((i : Nat) : Int) + 2 = ((i + 2 : Nat) : Int) by omega]; exact aY _ ⟨by omega, by omega⟩) rfl ?_
   refine lP Tryz.underlying9 rfl rfl rfl (by omega) (by omega) rfl ?_
   refine gi rfl rfl hsb (by intro z hz; simp at hz; omega) rfl ?_
   rw [h2]
   exact aK (ln hb hi ⟨fun h => ⟨by omega, .inr (of_decide_eq_true h)⟩, fun h => decide_eq_true (h.2.resolve_left c5)⟩)
 ·exact aK (ln hb hi (q := false) ⟨fun h => (by cases h), fun h => by omega⟩)
end
section
variable {l : List Nat} {s : S} {L : List bS} {b w1 w2 w3 w4 : V} {b0 : Nat} {a1 a2 a4 : Int} {x3 : List Nat}
def QR (l : List Nat) (s : S) : dz → Prop := sq fun v s' => Tk l v ∧ Fw [] s s'
theorem Ct {s1 : S} {e : Int} (h : Fw [] s s1) (he : e ≠ 0) (hn : ¬ dD l → li l = none) : QR l s ⟨.returned (.tuple [.agg [.int .i64 0, .int .i64 0, .str [], .int .i64 0], .int .i64 e]), none, s1⟩ :=
 ⟨_, _, rfl, ⟨0, 0, e, [], rfl, fun _ h0 => absurd h0 he, fun hh => by rw [hn hh]; exact he⟩, h⟩
theorem KQ {s1 : S} {k a : Int} {x : List Nat} (h : Fw [] s s1) (h1 : dD l → k = 1) (hn : ¬ dD l → ∃ m, li l = some (k, m) ∧ x = l.take m) : QR l s ⟨.returned (.tuple [.agg [.int .i64 k, .int .i64 a, .str x, .int .i64 0], .int .i64 0]), none, s1⟩ :=
 ⟨_, _, rfl, ⟨k, a, 0, x, rfl, fun hh _ => h1 hh, fun hh => by obtain ⟨m, h2, h3⟩ := hn hh; rw [h2]; exact ⟨rfl, rfl, h3⟩⟩, h⟩
theorem fj (hn : dD l) {p : Nat} (hp : p ≤ l.length) {q : Bool} : ai aq [] s (QR l s) eX ⟨[.str l, .int .i64 (p : Int), .int .i64 a1, .bool q, w1, w2, w3, w4], [b0]⟩ [] T0 L := by
 refine aB rfl (fun c1 => ?_) (fun c1 => ?_)
 ·exact ak fun s1 h1 h2 h3 h4 => Ct h1 (by decide) (fun h => absurd hn h)
 ·refine lP Tryz.underlying9 rfl rfl rfl (Nat.zero_le p) hp rfl ?_
  exact ak fun s1 h1 h2 h3 h4 => KQ h1 (fun _ => rfl) (fun h => absurd hn h)
def Jr (l : List Nat) (b0 : Nat) : Nat → List V → List Nat → Prop := fun j vs bs => ∃ (p : Nat) (w1 w2 w3 w4 : V), j = l.length - p ∧ p ≤ l.length ∧ vs = [.str l, .int .i64 (p : Int), w1, w2, w3, w4] ∧ bs = [b0]
theorem pB (hb : Bytes l) (hl : l.length < 4611686018427387904) (hn : dD l) (j : Nat) (vs : List V) (bs : List Nat) (hj : Jr l b0 j vs bs) : ai aq [] s (QR l s) qh ⟨vs, bs⟩ [] T0 [QH (Jr l b0) j] := by
 obtain ⟨p, w1, w2, w3, w4, rfl, hp, rfl, rfl⟩ := hj
 have num : ∀ (s1 : S), WF s1 → Cw aq 104 [.str ((l.drop 0).take (p - 0))] s1 fun v s' => (∃ a e : Int, v = .tuple [.int .i64 a, .int .i64 e]) ∧ Fw [] s1 s' := fun s1 hw1 =>
  Ry (fun z hz => hb z (List.mem_of_mem_drop (List.mem_of_mem_take hz))) (by rw [List.length_take, List.length_drop]; omega) hw1
 refine dV rfl Tryz.underlying9 rfl rfl ?_
 refine cP rfl rfl rfl ?_
 refine aP rfl (fun c2 => ?_) (fun c2 => ?_)
 ·have hpl : p < l.length := by omega
  refine fL Tryz.underlying9 rfl rfl (cC hb hpl) rfl ?_
  refine aj (.bool (bq (aw l p))) (fun a _ _ _ _ => jB rfl (cC hb hpl).2 a) rfl rfl ?_
  refine aB rfl (fun c3 => ?_) (fun c3 => ?_)
  ·refine br rfl rfl (aY _ ⟨by omega, by omega⟩) rfl ?_
   exact eJ (l.length - (p + 1)) rfl (by omega) ⟨p + 1, _, _, _, _, rfl, by omega, rfl, rfl⟩
  ·refine lP Tryz.underlying9 rfl rfl rfl (Nat.zero_le p) hp rfl ?_
   refine gI (fun a _ b _ _ => num a b) ?_
   rintro _ s1 s2 ⟨a, e, rfl⟩ - -
   refine DC [.int .i64 a, .int .i64 e] rfl rfl rfl ?_
   refine iv rfl rfl rfl ?_
   refine aP rfl (fun c4 => ?_) (fun c4 => ?_)
   ·exact aK (fj hn hp)
   ·refine dV rfl Tryz.underlying9 rfl rfl ?_
    refine cP rfl rfl rfl ?_
    refine aP rfl (fun c5 => ?_) (fun c5 => ?_)
    ·refine fL Tryz.underlying9 rfl rfl (cC hb hpl) rfl ?_
     refine aj (.bool (bb (aw l p))) (fun a _ _ _ _ => jB rfl (cC hb hpl).2 a) rfl rfl ?_
     refine aB rfl (fun c6 => ?_) (fun c6 => ?_)
     ·exact aK (fj hn hp)
     ·refine fL Tryz.underlying9 rfl rfl (cC hb hpl) rfl ?_
      refine cQ rfl rfl rfl ?_
      exact aK (fj hn hp)
    ·exact aK (fj hn hp)
 ·refine lP Tryz.underlying9 rfl rfl rfl (Nat.zero_le p) hp rfl ?_
  refine gI (fun a _ b _ _ => num a b) ?_
  rintro _ s1 s2 ⟨a, e, rfl⟩ - -
  refine DC [.int .i64 a, .int .i64 e] rfl rfl rfl ?_
  refine iv rfl rfl rfl ?_
  refine aP rfl (fun c7 => ?_) (fun c7 => ?_)
  ·exact aK (fj hn hp)
  ·refine dV rfl Tryz.underlying9 rfl rfl ?_
   refine cP rfl rfl rfl ?_
   refine aP rfl (fun c8 => ?_) (fun c8 => ?_)
   ·exact absurd c8 c2
   ·exact aK (fj hn hp)
theorem lm {m : Nat} {k : Int} (hm : m ≤ l.length) (hn : ¬ dD l) (ht : li l = some (k, m)) : ai aq [] s (QR l s) mj ⟨[.str l, .int .i64 (m : Int), .int .i64 k, w1, w2, w3, w4], [b0]⟩ [] T0 L := by
 refine lP Tryz.underlying9 rfl rfl rfl (Nat.zero_le m) hm rfl ?_
 exact ak fun s1 h1 h2 h3 h4 => KQ h1 (fun h => absurd h hn) (fun _ => ⟨m, ht, by simp⟩)
theorem pA (hb : Bytes l) (hl : l.length < 4611686018427387904) (h0 : 0 < l.length) (hn : ¬ dD l) (hq : ¬ (aw l 0 = 39 ∧ 1 < l.length ∧ cA (aw l 1) = true)) {q : Bool} (hqq : q = true ↔ (cA (aw l 0) = true ∨ eU (aw l 0) = true)) :
 ai aq [] s (QR l s) qb ⟨[.str l, .int .u8 ((aw l 0 : Nat) : Int), .bool q, w1, w2, w3, w4], [b0]⟩ [] T0 L := by
 have hc := (cC hb h0).2
 refine aB rfl (fun c10 => ?_) (fun c10 => ?_)
 ·have hsg := hqq.1 c10
  have hnl := kj l 0 (Nat.zero_le _)
  refine aj (.int .i64 ((0 + bf l 0 : Nat) : Int)) (fun _ _ a _ _ => TS (i := 0) hb hl (Nat.zero_le _) a) rfl rfl ?_
  refine Aa (r := ((0 + bf l 0 : Nat) : Int)) rfl rfl (by rw [Int.sub_zero]; exact aY _ ⟨by omega, by omega⟩) rfl ?_
  refine gp rfl rfl rfl ?_
  refine aP rfl (fun c11 => ?_) (fun c11 => ?_)
  ·exact ak fun s1 h1 h2 h3 h4 => Ct h1 (by decide) (fun _ => by unfold li; rw [if_neg hq, if_pos hsg, if_pos (by omega)])
  ·have htok : ∀ k, k = (if eU (aw l 0) = true then (3 : Int) else if l.take (bf l 0) ∈ bL then 5 else 2) → li l = some (k, 0 + bf l 0) := fun k hk => by
    unfold li; rw [if_neg hq, if_pos hsg, if_neg (by omega), Nat.zero_add, hk]
   refine aj (.bool (eU (aw l 0))) (fun a _ _ _ _ => jB rfl hc a) rfl rfl ?_
   refine aB rfl (fun c12 => ?_) (fun c12 => ?_)
   ·exact aK (lm (by omega) hn (htok 3 (by rw [if_pos c12])))
   ·have c12' : ¬ eU (aw l 0) = true := by rw [c12]; decide
    refine lP Tryz.underlying9 rfl rfl rfl (Nat.zero_le _) (by omega) rfl ?_
    refine aj (.bool (decide ((l.drop 0).take (0 + bf l 0 - 0) ∈ bL))) (fun _ _ a _ _ => Vy (x := (l.drop 0).take (0 + bf l 0 - 0)) (fun z hz => hb z (List.mem_of_mem_drop (List.mem_of_mem_take hz))) a) rfl rfl ?_
    refine aP rfl (fun c13 => ?_) (fun c13 => ?_)
    ·exact aK (lm (by omega) hn (htok 5 (by rw [if_neg c12', if_pos (by simpa using c13)])))
    ·exact aK (lm (by omega) hn (htok 2 (by rw [if_neg c12', if_neg (by simpa using c13)])))
 ·have hsg : ¬ (cA (aw l 0) = true ∨ eU (aw l 0) = true) := fun h => by have := hqq.2 h; rw [c10] at this; cases this
  have hle := EP l 0 h0
  refine aj (.int .i64 ((kc l 0 : Nat) : Int)) (fun _ _ a _ _ => VD (i := 0) hb hl h0 a) rfl rfl ?_
  refine cQ rfl rfl rfl ?_
  refine aP rfl (fun c14 => ?_) (fun c14 => ?_)
  ·exact ak fun s1 h1 h2 h3 h4 => Ct h1 (by decide) (fun _ => by unfold li; rw [if_neg hq, if_neg hsg, if_pos (by omega)])
  ·refine br (r := ((kc l 0 : Nat) : Int)) rfl rfl (by rw [Int.zero_add]; exact aY _ ⟨by omega, by omega⟩) rfl ?_
   refine lP Tryz.underlying9 rfl rfl rfl (Nat.zero_le _) (by omega) rfl ?_
   exact ak fun s1 h1 h2 h3 h4 => KQ h1 (fun h => absurd h hn) (fun _ => ⟨kc l 0, by unfold li; rw [if_neg hq, if_neg hsg, if_neg (by omega)], by simp⟩)
theorem ll (hb : Bytes l) (hl : l.length < 4611686018427387904) (h0 : 0 < l.length) (hn : ¬ dD l) {q : Bool} (hqq : q = true ↔ (aw l 0 = 39 ∧ 1 < l.length ∧ cA (aw l 1) = true)) :
 ai aq [] s (QR l s) mh ⟨[.str l, .int .u8 ((aw l 0 : Nat) : Int), .bool q, w1, w2, w3, w4], [b0]⟩ [] T0 L := by
 have hc := (cC hb h0).2
 refine aB rfl (fun c15 => ?_) (fun c15 => ?_)
 ·have hq := hqq.1 c15
  have hle := iT bb l 1 (by omega)
  refine aj (.int .i64 ((1 + aV bb l 1 : Nat) : Int)) (fun _ _ _ _ _ => lc (TN (i := 1) hb hl (by omega))) rfl rfl ?_
  refine Aa (r := ((1 + aV bb l 1 : Nat) : Int)) rfl rfl (by rw [Int.sub_zero]; exact aY _ ⟨by omega, by omega⟩) rfl ?_
  refine gp rfl rfl rfl ?_
  refine aP rfl (fun c16 => ?_) (fun c16 => ?_)
  ·exact ak fun s1 h1 h2 h3 h4 => Ct h1 (by decide) (fun _ => by unfold li; rw [if_pos hq, if_pos (by omega)])
  ·refine lP Tryz.underlying9 rfl rfl rfl (Nat.zero_le _) (by omega) rfl ?_
   exact ak fun s1 h1 h2 h3 h4 => KQ h1 (fun h => absurd h hn) (fun _ => ⟨1 + aV bb l 1, by unfold li; rw [if_pos hq, if_neg (by omega)], by simp⟩)
 ·have hq : ¬ (aw l 0 = 39 ∧ 1 < l.length ∧ cA (aw l 1) = true) := fun h => by have := hqq.2 h; rw [c15] at this; cases this
  refine aj (.bool (cA (aw l 0))) (fun a _ _ _ _ => jB rfl hc a) rfl rfl ?_
  refine aB rfl (fun c17 => ?_) (fun c17 => ?_)
  ·exact aK (pA hb hl h0 hn hq ⟨fun _ => .inl c17, fun _ => rfl⟩)
  ·refine aj (.bool (eU (aw l 0))) (fun a _ _ _ _ => jB rfl hc a) rfl rfl ?_
   exact aK (pA hb hl h0 hn hq ⟨.inr, fun h => h.elim (fun h => by rw [c17] at h; cases h) id⟩)
theorem pz (hb : Bytes l) (hl : l.length < 4611686018427387904) (h0 : 0 < l.length) {q : Bool} (hqq : q = true ↔ dD l) :
 ai aq [] s (QR l s) qa ⟨[.str l, .int .u8 ((aw l 0 : Nat) : Int), .bool q, w1, w2, w3, w4], [b0]⟩ [] T0 [] := by
 refine aB rfl (fun c18 => ?_) (fun c18 => ?_)
 ·have hn := hqq.1 c18
  refine cQ rfl rfl rfl ?_
  refine aP rfl (fun c19 => ?_) (fun c19 => ?_)
  ·exact ej (Jr l b0) (l.length - 1) ⟨1, _, _, _, _, rfl, by omega, rfl, rfl⟩ fun j vs bs => pB hb hl hn j vs bs
  ·exact ej (Jr l b0) (l.length - 0) ⟨0, _, _, _, _, rfl, by omega, rfl, rfl⟩ fun j vs bs => pB hb hl hn j vs bs
 ·have hn : ¬ dD l := fun h => by have := hqq.2 h; rw [c18] at this; cases this
  refine cQ rfl rfl rfl ?_
  refine aP rfl (fun c20 => ?_) (fun c20 => ?_)
  ·have h39 : aw l 0 = 39 := by omega
   refine dV rfl Tryz.underlying9 rfl rfl ?_
   refine cP rfl rfl rfl ?_
   refine aP rfl (fun c21 => ?_) (fun c21 => ?_)
   ·have h1l : 1 < l.length := by omega
    refine fL (n := 1) Tryz.underlying9 rfl rfl (cC hb h1l) rfl ?_
    refine aj (.bool (cA (aw l 1))) (fun a _ _ _ _ => jB rfl (cC hb h1l).2 a) rfl rfl ?_
    exact aK (ll hb hl h0 hn ⟨fun h => ⟨h39, h1l, h⟩, fun h => h.2.2⟩)
   ·exact aK (ll hb hl h0 hn ⟨fun h => (by cases h), fun h => absurd h.2.1 (by omega)⟩)
  ·exact aK (ll hb hl h0 hn ⟨fun h => (by cases h), fun h => absurd h.1 (by omega)⟩)
theorem VJ (hb : Bytes l) (hl : l.length < 4611686018427387904) (h0 : 0 < l.length) {s : S} (hw : WF s) : Cw aq 71 [.str l, .int .i64 0] s fun v s' => Tk l v ∧ Fw [] s s' := by
 have hc := (cC hb h0).2
 refine ay (aI (C := AL) (e := ⟨[.str l], []⟩) (F := []) rfl Tryz.func71 rfl (by kernel_rfl) Mr rfl ⟨rfl, rfl, rfl⟩ rfl hw rfl (by simp) trivial am trivial (by simp) ?_)
 refine aN fun b1 hb1 hd1 => ?_
 refine fL (n := 0) Tryz.underlying9 rfl rfl (cC hb h0) rfl ?_
 refine cQ rfl rfl rfl ?_
 refine aP rfl (fun c22 => ?_) (fun c22 => ?_)
 ·exact aK (pz hb hl h0 ⟨fun _ => .inr (by omega), fun _ => rfl⟩)
 ·refine aj (.bool (bq (aw l 0))) (fun a _ _ _ _ => jB rfl hc a) rfl rfl ?_
  exact aK (pz hb hl h0 ⟨.inl, fun h => h.elim id (fun h => absurd h (by omega))⟩)
end
def Kc : List aA := []
def Jy : Code := match Tryz.f45.body with | some c => c | none => .skip
def AQ : eK := ⟨aq, Tryz.f45, Kc, [], [⟨100002, [(0, false), (12, true)], []⟩, ⟨100004, [(0, false), (25, true)], []⟩], 0⟩
def my : ax := .cond 1 (rT (iV 0)) (.call 71 [0, iV 0] [] [] 5 (.tuple [.agg [2, 3, 4, 5], 6]) false (.new (aT (.bin .neq 31 true 6 (iV 0)) 7 (.cond 7 (rT (iV 0)) (aT (.bif .len #[9] [4]) 8 (aT (.bif .len #[9] [0]) 9 (aT (.bin .neq 3 false 8 9) 10 (.cond 10 (rT (iV 0)) (rT 2)))))))))
def qi : ax := .cond 1 (rT (iV 0)) (aT (.index 9 0 (iV 0)) 2 (cT 70 [2] 3 (.cond 3 (.cut 2 [0, .bool true] [] [] my) (aT (.bif .len #[9] [0]) 4 (aT (.bin .gtr 3 true 4 (iV 1)) 5 (.cond 5 (aT (.slice 9 0 none (some (iV 2)) none) 6 (aT (.bin .eql 9 true 6 (.str [40, 42])) 7 (.cut 2 [0, 7] [] [] my))) (.cut 2 [0, .bool false] [] [] my)))))))
def HE : ax := aT (.bif .len #[9] [0]) 1 (aT (.bin .eql 3 true 1 (iV 0)) 2 (.cond 2 (.cut 2 [0, .bool true] [] [] qi) (aT (.bif .len #[9] [0]) 3 (aT (.bin .gtr 3 true 3 (iV 100)) 4 (.cut 2 [0, 4] [] [] qi)))))
theorem Mw : bu AQ 400 [] [.code Jy] (aO [.atom 0] 0 .leaf id) (aR ⟨.leaf, 0⟩ []) 1 = some HE := by kernel_rfl
instance (l : List Nat) : Decidable (dD l) := inferInstanceAs (Decidable (_ ∨ _))
def bo (l : List Nat) : Int := if l.length = 0 ∨ 24 < l.length ∨ cb (aw l 0) = true ∨ l.take 2 = [40, 42] ∨ dD l then 0 else match li l with
 | none => 0
 | some (k, m) => if m = l.length then k else 0
def qL (l : List Nat) (v : V) : Prop := ∃ k : Int, v = .int .i64 k ∧ (k = bo l ∨ dD l ∧ k = 1)
theorem Rh {l : List Nat} {k : Int} {m : Nat} (h : li l = some (k, m)) : m ≤ 24 := by
 unfold li at h
 split at h
 ·split at h
  ·cases h
  ·cases h; omega
 ·split at h
  ·split at h
   ·cases h
   ·cases h; omega
  ·split at h
   ·cases h
   ·cases h
    unfold kc
    split
    ·omega
    ·split <;> omega
theorem lN {l : List Nat} (h : l.length = 0 ∨ cb (aw l 0) = true ∨ l.take 2 = [40, 42]) : bo l = 0 := by
 unfold bo; rw [if_pos]
 rcases h with h | h | h
 ·exact .inl h
 ·exact .inr (.inr (.inl h))
 ·exact .inr (.inr (.inr (.inl h)))
theorem On {l : List Nat} {k : Int} {m : Nat} (h : li l = some (k, m)) (h0 : l.length ≠ 0) : m ≤ l.length := by
 unfold li at h
 split at h
 ·rename_i hq
  have := iT bb l 1 (by omega)
  split at h
  ·cases h
  ·cases h; omega
 ·split at h
  ·have := kj l 0 (Nat.zero_le _)
   split at h
   ·cases h
   ·cases h; omega
  ·have := EP l 0 (by omega)
   split at h
   ·cases h
   ·cases h; omega
theorem RE {l : List Nat} {k e : Int} {x : List Nat} (h0 : l.length ≠ 0) (h1 : dD l → e = 0 → k = 1) (h2 : ¬ dD l → match li l with | none => e ≠ 0 | some (k', m) => e = 0 ∧ k = k' ∧ x = l.take m)
 (hs : ¬ cb (aw l 0) = true) (hc : ¬ l.take 2 = [40, 42]) (hx : dD l → x.length = l.length → True) : qL l (.int .i64 (if e ≠ 0 then 0 else if x.length ≠ l.length then 0 else k)) := by
 refine ⟨_, rfl, ?_⟩
 by_cases hn : dD l
 ·have hk : bo l = 0 := by unfold bo; rw [if_pos (.inr (.inr (.inr (.inr hn))))]
  by_cases he : e = 0
  ·rw [if_neg (fun h => h he)]
   by_cases hl : x.length = l.length
   ·rw [if_neg (fun h => h hl), h1 hn he]; exact .inr ⟨hn, rfl⟩
   ·rw [if_pos hl, hk]; exact .inl rfl
  ·rw [if_pos he, hk]; exact .inl rfl
 ·refine .inl ?_
  have h3 := h2 hn
  cases ht : li l with
  | none =>
   rw [ht] at h3
   rw [if_pos h3]
   unfold bo; rw [ht]; split <;> rfl
  | some p =>
   obtain ⟨k', m⟩ := p
   rw [ht] at h3
   obtain ⟨h4, h5, h6⟩ := h3
   subst h5; subst h6
   rw [if_neg (fun h => h h4)]
   have hm := Rh ht
   by_cases hl : m = l.length
   ·have h24 : ¬ (l.length = 0 ∨ 24 < l.length ∨ cb (aw l 0) = true ∨ l.take 2 = [40, 42] ∨ dD l) := by
     rintro (h | h | h | h | h)
     ·exact h0 h
     ·omega
     ·exact hs h
     ·exact hc h
     ·exact hn h
    rw [if_neg (by simp [hl])]
    unfold bo; rw [if_neg h24, ht]; simp only [if_pos hl]
   ·have hml := On ht h0
    rw [if_pos (show (l.take m).length ≠ l.length by rw [List.length_take]; omega)]
    unfold bo; rw [ht]; split
    ·rfl
    ·simp only [if_neg hl]
section
variable {l : List Nat} {s : S} {L : List bS}
abbrev QK (l : List Nat) (s : S) : dz → Prop := sq fun v s' => qL l v ∧ Fw [] s s'
theorem Pc {s1 : S} (h : Fw [] s s1) (hk : bo l = 0) : QK l s ⟨.returned (.int .i64 0), none, s1⟩ := ⟨_, _, rfl, ⟨0, rfl, .inl hk.symm⟩, h⟩
theorem pD (hb : Bytes l) (hl : l.length < 4611686018427387904) (h0 : l.length ≠ 0) (hs : cb (aw l 0) = false) {q : Bool} (hq : q = true ↔ l.take 2 = [40, 42]) (hq2 : q = true → bo l = 0) : ai aq [] s (QK l s) my ⟨[.str l, .bool q], []⟩ [] T0 L := by
 refine aB rfl (fun c1 => ?_) (fun c1 => ?_)
 ·exact ak fun s1 h1 h2 h3 h4 => Pc h1 (hq2 c1)
 ·have hc : ¬ l.take 2 = [40, 42] := fun h => by have := hq.2 h; rw [c1] at this; cases this
  refine gI (fun _ _ a _ _ => VJ hb hl (by omega) a) ?_
  rintro _ s1 s2 ⟨k, a, e, x, rfl, g1, g2⟩ - -
  refine DC [.int .i64 k, .int .i64 a, .str x, .int .i64 0, .int .i64 e] rfl rfl rfl ?_
  have hko := RE h0 g1 g2 (by rw [hs]; decide) hc (fun _ _ => trivial)
  refine aN fun b1 hb1 hd1 => ?_
  refine iv rfl rfl rfl ?_
  refine aP rfl (fun c2 => ?_) (fun c2 => ?_)
  ·rw [if_pos c2] at hko
   exact ak fun s1 h1 h2 h3 h4 => ⟨_, _, rfl, hko, h1⟩
  ·rw [if_neg c2] at hko
   refine dV rfl Tryz.underlying9 rfl rfl ?_
   refine dV rfl Tryz.underlying9 rfl rfl ?_
   refine iv rfl rfl rfl ?_
   refine aP rfl (fun c3 => ?_) (fun c3 => ?_)
   ·rw [if_pos (by omega)] at hko
    exact ak fun s1 h1 h2 h3 h4 => ⟨_, _, rfl, hko, h1⟩
   ·rw [if_neg (by omega)] at hko
    exact ak fun s1 h1 h2 h3 h4 => ⟨_, _, rfl, hko, h1⟩
theorem pC (hb : Bytes l) (hl : l.length < 4611686018427387904) {q : Bool} (hq : q = false → l.length ≠ 0) (hq2 : q = true → bo l = 0) : ai aq [] s (QK l s) qi ⟨[.str l, .bool q], []⟩ [] T0 L := by
 refine aB rfl (fun c4 => ?_) (fun c4 => ?_)
 ·exact ak fun s1 h1 h2 h3 h4 => Pc h1 (hq2 c4)
 ·have h0 := hq c4
  have hi := cC (l := l) (i := 0) hb (by omega)
  refine fL (n := 0) Tryz.underlying9 rfl rfl hi rfl ?_
  refine aj (.bool (cb (aw l 0))) (fun a _ _ _ _ => jB rfl hi.2 a) rfl rfl ?_
  refine aB rfl (fun c5 => ?_) (fun c5 => ?_)
  ·refine aK ?_
   refine aB (q := true) rfl (fun _ => ?_) (fun h => by cases h)
   exact ak fun s1 h1 h2 h3 h4 => Pc h1 (lN (.inr (.inl c5)))
  ·refine dV rfl Tryz.underlying9 rfl rfl ?_
   refine gp rfl rfl rfl ?_
   refine aP rfl (fun c6 => ?_) (fun c6 => ?_)
   ·refine lP (n := 0) (m := 2) Tryz.underlying9 rfl rfl rfl (by omega) (by omega) rfl ?_
    refine gi rfl rfl (fun z hz => hb z (List.mem_of_mem_drop (List.mem_of_mem_take hz))) (fun z hz => by simp at hz; omega) rfl ?_
    exact aK (pD hb hl h0 c5 ⟨fun h => (by simpa using of_decide_eq_true h), fun h => decide_eq_true (by simpa using h)⟩ (fun h => lN (.inr (.inr (by simpa using of_decide_eq_true h)))))
   ·exact aK (pD hb hl h0 c5 ⟨fun h => (by cases h), fun h => by have := congrArg List.length h; rw [List.length_take] at this; simp at this; omega⟩ (fun h => by cases h))
theorem Uc (hb : Bytes l) (hl : l.length < 4611686018427387904) {s : S} (hw : WF s) : Cw aq 45 [.str l] s fun v s' => qL l v ∧ Fw [] s s' := by
 refine ay (aI (C := AQ) (e := ⟨[.str l], []⟩) (F := []) rfl Tryz.func45 rfl (by kernel_rfl) Mw rfl ⟨rfl, rfl, rfl⟩ rfl hw rfl (by simp) trivial am trivial (by simp) ?_)
 refine dV rfl Tryz.underlying9 rfl rfl ?_
 refine cQ rfl rfl rfl ?_
 refine aP rfl (fun c7 => ?_) (fun c7 => ?_)
 ·exact aK (pC hb hl (fun h => by cases h) (fun _ => lN (.inl (by omega))))
 ·refine dV rfl Tryz.underlying9 rfl rfl ?_
  refine gp rfl rfl rfl ?_
  exact aK (pC hb hl (fun _ => by omega) (fun h => by have := of_decide_eq_true h; unfold bo; rw [if_pos (.inr (.inl (by omega)))]))
end
end Go.AI.Lx
namespace Go.AI.Lx
open Go.Proofs Go.Proofs.YtkeaedhoaamfnaaGreatDoor
def DL : List aA := []
def Dr : Code := match Tryz.f240.body with | some c => c | none => .skip
def uu : eK := ⟨aq, Tryz.f240, DL, [], [⟨4, [(0, false), (2, false), (3, true)], []⟩, ⟨100009, [(0, false), (2, false), (6, false), (7, false), (60, true)], []⟩], 1⟩
def jD : ax := .cond 2 (.pan (.iface 172 (.agg [4, iV 13])) [(0, cB 274 [3, 4, 5, 6])]) (.ret (.agg [iV 1, 1, 0, 4]) [(0, cB 274 [3, 4, 5, 6])])
def mt : ax := .call 234 [.ptr ⟨0, 0, 0⟩, 0, .func (.func 239) [] []] [(0, cB 274 [1, 2, 3, 4])] [] 1 9 false (aT (.bin .add 3 false 0 9) 10 (.call 238 [.ptr ⟨0, 0, 0⟩, 10] [(0, cB 274 [1, 2, 3, 4])] [] 1 11 false (aF (.bin .add 3 false 2 0) 12 (aF (.bin .add 3 false 12 9) 13 (aF (.slice 9 1 (some 2) (some 13) none) 14 (.call 272 [14] [] [] 2 (.tuple [15, 16]) false (aT (.bin .neq 31 true 16 (iV 0)) 17 (.cond 17 (.cut 11 [14, 15, .bool true, 1, 2, 3, 4, 5, 6, 7, 8] [0, 1] [cB 274 [3, 4, 5, 6], cB 117 [7, 8, 9, 10]] jD) (cT 245 [11] 18 (.cond 18 (.cut 11 [14, 15, .bool true, 1, 2, 3, 4, 5, 6, 7, 8] [0, 1] [cB 274 [3, 4, 5, 6], cB 117 [7, 8, 9, 10]] jD) (aT (.bin .eql 5 true 11 (.int .u8 39)) 19 (.cut 11 [14, 15, 19, 1, 2, 3, 4, 5, 6, 7, 8] [0, 1] [cB 274 [3, 4, 5, 6], cB 117 [7, 8, 9, 10]] jD))))))))))))
def Bt : ax := .new (.call 238 [.ptr ⟨0, 0, 0⟩, iV 0] [(0, cB 274 [0, 1, 2, 3])] [] 1 4 false (aT (.bin .eql 5 true 4 (.int .u8 126)) 5 (.cond 5 (.cut 9 [iV 1, 0, 1, 2, 3, iV 0, iV 0, s0, iV 0] [0, 1] [cB 274 [1, 2, 3, 4], cB 117 [5, 6, 7, 8]] mt) (.cut 9 [iV 0, 0, 1, 2, 3, iV 0, iV 0, s0, iV 0] [0, 1] [cB 274 [1, 2, 3, 4], cB 117 [5, 6, 7, 8]] mt))))
theorem EV : bu uu 400 [] [.code Dr] (aO [.ptr ⟨0, 0, 0⟩] 0 .leaf id) (aR ⟨.leaf, 0⟩ [.cells 274 false 1 [⟨0, 0, [.atom 0, .atom 1, .atom 2, .atom 3]⟩]]) 4 = some Bt := by kernel_rfl
def GS : List aA := []
def Gt : Code := match Tryz.f204.body with | some c => c | none => .skip
def xF : eK := ⟨aq, Tryz.f204, GS, [(240, ⟨[], true⟩)], [⟨100004, [(0, false), (2, false), (3, false), (8, true)], []⟩, ⟨100010, [(0, false), (2, false), (3, false), (25, true)], []⟩, ⟨100013, [(0, false), (2, false), (3, false), (42, true)], []⟩], 1⟩
def nN : ax := .cond 1 (.call 244 [.ptr ⟨0, 0, 0⟩, iV 6, iV 2] [(0, cB 274 [2, 3, 4, 5])] [] 4 (.agg [10, 11, 12, 13]) false (.ret (.agg [10, 11, 12, 13]) [(0, cB 274 [2, 3, 4, 5])])) (cT 246 [.str [40, 41, 44, 59, 58, 124, 61, 60, 43, 45, 42, 47, 37, 95], 0] 10 (aT (.bin .geq 3 true 10 (iV 0)) 11 (.cond 11 (.call 244 [.ptr ⟨0, 0, 0⟩, iV 6, iV 1] [(0, cB 274 [2, 3, 4, 5])] [] 4 (.agg [12, 13, 14, 15]) false (.ret (.agg [12, 13, 14, 15]) [(0, cB 274 [2, 3, 4, 5])])) (.pan (.iface 172 (.agg [3, iV 11])) [(0, cB 274 [2, 3, 4, 5])]))))
def nL : ax := .cond 1 (.call 234 [.ptr ⟨0, 0, 0⟩, iV 1, .func (.func 245) [] []] [(0, cB 274 [2, 3, 4, 5])] [] 1 10 false (aT (.bin .add 3 true (iV 1) 10) 11 (.call 244 [.ptr ⟨0, 0, 0⟩, iV 4, 11] [(0, cB 274 [2, 3, 4, 5])] [] 4 (.agg [12, 13, 14, 15]) false (.ret (.agg [12, 13, 14, 15]) [(0, cB 274 [2, 3, 4, 5])])))) (.call 236 [.ptr ⟨0, 0, 0⟩, .str [61, 62]] [(0, cB 274 [2, 3, 4, 5])] [] 1 10 false (.cond 10 (.cut 10 [0, .bool true, 2, 3, 4, 5, 6, 7, 8, 9] [0, 1] [cB 274 [2, 3, 4, 5], cB 117 [6, 7, 8, 9]] nN) (.call 236 [.ptr ⟨0, 0, 0⟩, .str [45, 62]] [(0, cB 274 [2, 3, 4, 5])] [] 1 11 false (.cut 10 [0, 11, 2, 3, 4, 5, 6, 7, 8, 9] [0, 1] [cB 274 [2, 3, 4, 5], cB 117 [6, 7, 8, 9]] nN))))
def nJ : ax := .cond 1 (.call 240 [.ptr ⟨0, 0, 0⟩] [(0, cB 274 [2, 3, 4, 5])] [] 4 (.agg [10, 11, 12, 13]) true (.ret (.agg [10, 11, 12, 13]) [(0, cB 274 [2, 3, 4, 5])])) (cT 241 [0] 10 (.cond 10 (.call 242 [.ptr ⟨0, 0, 0⟩, iV 2] [(0, cB 274 [2, 3, 4, 5])] [] 4 (.agg [11, 12, 13, 14]) false (.ret (.agg [11, 12, 13, 14]) [(0, cB 274 [2, 3, 4, 5])])) (cT 243 [0] 11 (.cond 11 (.call 242 [.ptr ⟨0, 0, 0⟩, iV 3] [(0, cB 274 [2, 3, 4, 5])] [] 4 (.agg [12, 13, 14, 15]) false (.ret (.agg [12, 13, 14, 15]) [(0, cB 274 [2, 3, 4, 5])])) (aT (.bin .eql 5 true 0 (.int .u8 39)) 12 (.cond 12 (.call 238 [.ptr ⟨0, 0, 0⟩, iV 1] [(0, cB 274 [2, 3, 4, 5])] [] 1 13 false (cT 241 [13] 14 (.cut 10 [0, 14, 2, 3, 4, 5, 6, 7, 8, 9] [0, 1] [cB 274 [2, 3, 4, 5], cB 117 [6, 7, 8, 9]] nL))) (.cut 10 [0, .bool false, 2, 3, 4, 5, 6, 7, 8, 9] [0, 1] [cB 274 [2, 3, 4, 5], cB 117 [6, 7, 8, 9]] nL)))))))
def Es : ax := .new (.call 238 [.ptr ⟨0, 0, 0⟩, iV 0] [(0, cB 274 [0, 1, 2, 3])] [] 1 4 false (cT 239 [4] 5 (.cond 5 (.cut 10 [4, .bool true, 0, 1, 2, 3, iV 0, iV 0, s0, iV 0] [0, 1] [cB 274 [2, 3, 4, 5], cB 117 [6, 7, 8, 9]] nJ) (aT (.bin .eql 5 true 4 (.int .u8 126)) 6 (.cut 10 [4, 6, 0, 1, 2, 3, iV 0, iV 0, s0, iV 0] [0, 1] [cB 274 [2, 3, 4, 5], cB 117 [6, 7, 8, 9]] nJ)))))
theorem Im : bu xF 400 [] [.code Gt] (aO [.ptr ⟨0, 0, 0⟩] 0 .leaf id) (aR ⟨.leaf, 0⟩ [.cells 274 false 1 [⟨0, 0, [.atom 0, .atom 1, .atom 2, .atom 3]⟩]]) 4 = some Es := by kernel_rfl
def DO : List aA := []
def Du : Code := match Tryz.f246.body with | some c => c | none => .skip
def ux : eK := ⟨aq, Tryz.f246, DO, [], [], 0⟩
def Bw : ax := cT 273 [0, 1] 2 (rT 2)
theorem EZ : bu ux 400 [] [.code Du] (aO [.atom 0, .atom 1] 0 .leaf id) (aR ⟨.leaf, 0⟩ []) 2 = some Bw := by kernel_rfl
def zq : List aA := []
def zh : Code := match Tryz.f273.body with | some c => c | none => .skip
def sd : eK := ⟨aq, Tryz.f273, zq, [], [], 0⟩
def yy : ax := aT (.ext .indexByte [0, 1]) 2 (rT 2)
theorem Cg : bu sd 400 [] [.code zh] (aO [.atom 0, .atom 1] 0 .leaf id) (aR ⟨.leaf, 0⟩ []) 2 = some yy := by kernel_rfl
def JZ : List aA := []
def Jv : Code := match Tryz.f242.body with | some c => c | none => .skip
def AN : eK := ⟨aq, Tryz.f242, JZ, [(234, ⟨[], false⟩), (238, ⟨[], false⟩), (244, ⟨[], false⟩)], [⟨6, [(0, false), (1, false), (4, false), (5, true)], []⟩], 1⟩
def mw : ax := .call 244 [.ptr ⟨0, 0, 0⟩, 0, 1] [(0, cB 274 [2, 3, 4, 5])] [] 4 (.agg [10, 11, 12, 13]) false (.new (.ask (.lookup 86 4 12 true) false [] 2 (.tuple [14, 15]) (.cond 15 (.ret (.agg [14, 11, 12, 13]) [(0, cB 274 [2, 3, 4, 5])]) (.ret (.agg [10, 11, 12, 13]) [(0, cB 274 [2, 3, 4, 5])]))))
def HB : ax := .new (.call 234 [.ptr ⟨0, 0, 0⟩, iV 0, .func (.func 245) [] []] [(0, cB 274 [0, 1, 2, 3])] [] 1 5 false (.call 238 [.ptr ⟨0, 0, 0⟩, 5] [(0, cB 274 [0, 1, 2, 3])] [] 1 6 false (aT (.bin .eql 5 true 6 (.int .u8 39)) 7 (.cond 7 (aT (.bin .add 3 true 5 (iV 1)) 8 (.call 234 [.ptr ⟨0, 0, 0⟩, 8, .func (.func 239) [] []] [(0, cB 274 [0, 1, 2, 3])] [] 1 9 false (aT (.bin .gtr 3 true 9 (iV 0)) 10 (.cond 10 (aT (.bin .add 3 true (iV 1) 9) 11 (aT (.bin .add 3 false 5 11) 12 (.cut 10 [4, 12, 0, 1, 2, 3, iV 0, iV 0, s0, iV 0] [0, 1] [cB 274 [2, 3, 4, 5], cB 117 [6, 7, 8, 9]] mw))) (.cut 10 [4, 5, 0, 1, 2, 3, iV 0, iV 0, s0, iV 0] [0, 1] [cB 274 [2, 3, 4, 5], cB 117 [6, 7, 8, 9]] mw))))) (.cut 10 [4, 5, 0, 1, 2, 3, iV 0, iV 0, s0, iV 0] [0, 1] [cB 274 [2, 3, 4, 5], cB 117 [6, 7, 8, 9]] mw)))))
theorem Mt : bu AN 400 [] [.code Jv] (aO [.ptr ⟨0, 0, 0⟩, .atom 4] 0 .leaf id) (aR ⟨.leaf, 0⟩ [.cells 274 false 1 [⟨0, 0, [.atom 0, .atom 1, .atom 2, .atom 3]⟩]]) 5 = some HB := by kernel_rfl
end Go.AI.Lx
