/- What the functions answer in the evaluator: part 6. No conditions beyond those of the row. -/
import Derived.Test.YtkeaedhoaamfnaaGreatDoorL5
import Derived.Test.YtkeaedhoaamfnaaGreatDoorX4
set_option linter.unusedVariables false
set_option linter.unusedSimpArgs false
noncomputable section
namespace Go.AI
theorem Fw.strike {b : Nat} {F : List Nat} {s s' : S} (h : Fw (b :: F) s s') (hb : ∀ B, s.get b = some B → s'.get b = some B) : Fw F s s' :=
 ⟨fun g B hg hB => if hgb : g = b then by subst hgb; exact hb B hB else h.keep g B (by simp [hgb, hg]) hB, h.ro, h.next, h.wf⟩
end Go.AI
namespace Go.AI.Lx
open Go.Proofs Go.Proofs.YtkeaedhoaamfnaaGreatDoor
abbrev xQ : List Nat := [40, 41, 44, 59, 58, 124, 61, 60, 43, 45, 42, 47, 37, 95]
def GV (l : List Nat) (i : Nat) : Nat :=
 if i + 1 < l.length ∧ ((l.drop i).take 2 = [61, 62] ∨ (l.drop i).take 2 = [45, 62]) then 2 else if aC l i ∈ xQ then 1 else 0
theorem Km : ∀ c ∈ xQ, c < 256 := by
 intro c hc
 simp only [xQ, List.mem_cons, List.mem_nil_iff, or_false] at hc
 omega
theorem DE {f : FuncId} {p : Nat → Bool} (hf : iJ pG f = some p) {c : Nat} (hc : c < 256) (s : S) : Cw au f [.int .u8 (c : Int)] s fun w s' => w = .bool (p c) ∧ Fw [] s s' :=
 ⟨_, s, DF hf hc s, rfl, Fw.refl [] s⟩
theorem lr {E : cg} {f : FuncId} {args : List V} {s : S} {P : V → Prop} (h : Cw E f args s fun v s' => P v ∧ s = s') : Cw E f args s fun v s' => P v ∧ Fw [] s s' :=
 h.mono fun _ _ ⟨h1, h2⟩ => ⟨h1, h2 ▸ Fw.refl [] s⟩
def tG (l : List Nat) : Prop := bW (aC l 0) = true ∨ aC l 0 = 126
def Np (l : List Nat) : Option (Int × Nat) :=
 if aC l 0 = 39 ∧ 1 < l.length ∧ dC (aC l 1) = true then (if 1 + aQ bH l 1 > 24 then none else some (4, 1 + aQ bH l 1))
 else if dC (aC l 0) = true ∨ gV (aC l 0) = true then
  (if bE l 0 > 24 then none else some (if gV (aC l 0) = true then 3 else if l.take (bE l 0) ∈ cG then 5 else 2, bE l 0))
 else if GV l 0 = 0 then none else some (6, GV l 0)
theorem NJ {l : List Nat} {i c : Nat} (h : l[i]? = some c) : aC l i = c := by simp [aC, h]
theorem jJ {l : List Nat} (hb : Bytes l) (i : Nat) : aC l i < 256 := by
 unfold aC
 cases h : l[i]? with
 | none => simp
 | some c => exact hb.at h
def cy (l : List Nat) (p : Nat) : Prop := bW (aC l p) = true ∨ aC l p = 126
theorem uF {q : Nat → Bool} {l : List Nat} {p : Nat} (hp : p < l.length) (h : q (aC l p) = true) : 1 ≤ aQ q l p := by
 unfold aQ
 have h1 : l.drop p = l[p] :: l.drop (p + 1) := List.drop_eq_getElem_cons hp
 rw [h1]
 have h2 : aC l p = l[p] := NJ (List.getElem?_eq_getElem hp)
 rw [h2] at h
 rw [List.takeWhile_cons_of_pos h]
 simp
end Go.AI.Lx
namespace Go.AI.Lx
open Go.Proofs Go.Proofs.YtkeaedhoaamfnaaGreatDoor
set_option maxRecDepth 10000
instance (l : List Nat) : Decidable (tG l) := inferInstanceAs (Decidable (_ ∨ _))
def aK (l : List Nat) : Int := if l.length = 0 ∨ 24 < l.length ∨ cj (aC l 0) = true ∨ l.take 2 = [40, 42] ∨ tG l then 0 else match Np l with
 | none => 0
 | some (k, m) => if m = l.length then k else 0
def wz (l : List Nat) (v : V) : Prop := ∃ k : Int, v = .int .i64 k ∧ (k = aK l ∨ tG l ∧ k = 1)
theorem yi {l : List Nat} (h : l.length = 0 ∨ cj (aC l 0) = true ∨ l.take 2 = [40, 42]) : aK l = 0 := by
 unfold aK; rw [if_pos]
 rcases h with h | h | h
 ·exact .inl h
 ·exact .inr (.inr (.inl h))
 ·exact .inr (.inr (.inr (.inl h)))
section
variable {l : List Nat} {s : S} {L : List ck}
abbrev QK (l : List Nat) (s : S) : cX → Prop := tW fun v s' => wz l v ∧ Fw [] s s'
theorem RO {s1 : S} (h : Fw [] s s1) (hk : aK l = 0) : QK l s ⟨.returned (.int .i64 0), none, s1⟩ := ⟨_, _, rfl, ⟨0, rfl, .inl hk.symm⟩, h⟩
end
end Go.AI.Lx
namespace Go.AI.Lx
open Go.Proofs Go.Proofs.YtkeaedhoaamfnaaGreatDoor
def Bg : List aH := []
def AV : Code := match Tryz.f240.body with | some c => c | none => .skip
def sQ : gX := ⟨au, Tryz.f240, Bg, [], [⟨4, [(0, false), (2, false), (3, true)], []⟩, ⟨100009, [(0, false), (2, false), (6, false), (7, false), (60, true)], []⟩], 1⟩
def je : aB := .cond 2 (.pan (.iface 172 (.agg [4, iV 13])) [(0, cB 274 [3, 4, 5, 6])]) (.ret (.agg [iV 1, 1, 0, 4]) [(0, cB 274 [3, 4, 5, 6])])
def lK : aB := .call 234 [.ptr ⟨0, 0, 0⟩, 0, .func (.func 239) [] []] [(0, cB 274 [1, 2, 3, 4])] [] 1 9 false (aT (.bin .add 3 false 0 9) 10 (.call 238 [.ptr ⟨0, 0, 0⟩, 10] [(0, cB 274 [1, 2, 3, 4])] [] 1 11 false (aF (.bin .add 3 false 2 0) 12 (aF (.bin .add 3 false 12 9) 13 (aF (.slice 9 1 (some 2) (some 13) none) 14 (.call 272 [14] [] [] 2 (.tuple [15, 16]) false (aT (.bin .neq 31 true 16 (iV 0)) 17 (.cond 17 (.cut 11 [14, 15, .bool true, 1, 2, 3, 4, 5, 6, 7, 8] [0, 1] [cB 274 [3, 4, 5, 6], cB 117 [7, 8, 9, 10]] je) (cT 245 [11] 18 (.cond 18 (.cut 11 [14, 15, .bool true, 1, 2, 3, 4, 5, 6, 7, 8] [0, 1] [cB 274 [3, 4, 5, 6], cB 117 [7, 8, 9, 10]] je) (aT (.bin .eql 5 true 11 (.int .u8 39)) 19 (.cut 11 [14, 15, 19, 1, 2, 3, 4, 5, 6, 7, 8] [0, 1] [cB 274 [3, 4, 5, 6], cB 117 [7, 8, 9, 10]] je))))))))))))
def zu : aB := .new (.call 238 [.ptr ⟨0, 0, 0⟩, iV 0] [(0, cB 274 [0, 1, 2, 3])] [] 1 4 false (aT (.bin .eql 5 true 4 (.int .u8 126)) 5 (.cond 5 (.cut 9 [iV 1, 0, 1, 2, 3, iV 0, iV 0, s0, iV 0] [0, 1] [cB 274 [1, 2, 3, 4], cB 117 [5, 6, 7, 8]] lK) (.cut 9 [iV 0, 0, 1, 2, 3, iV 0, iV 0, s0, iV 0] [0, 1] [cB 274 [1, 2, 3, 4], cB 117 [5, 6, 7, 8]] lK))))
theorem Cc : cb sQ 400 [] [.code AV] (bi [.ptr ⟨0, 0, 0⟩] 0 .leaf id) (br ⟨.leaf, 0⟩ [.cells 274 false 1 [⟨0, 0, [.atom 0, .atom 1, .atom 2, .atom 3]⟩]]) 4 = some zu := by kernel_rfl
def DJ : List aH := []
def Dr : Code := match Tryz.f204.body with | some c => c | none => .skip
def vZ : gX := ⟨au, Tryz.f204, DJ, [(240, ⟨[], true⟩)], [⟨100004, [(0, false), (2, false), (3, false), (8, true)], []⟩, ⟨100010, [(0, false), (2, false), (3, false), (25, true)], []⟩, ⟨100013, [(0, false), (2, false), (3, false), (42, true)], []⟩], 1⟩
def mW : aB := .cond 1 (.call 244 [.ptr ⟨0, 0, 0⟩, iV 6, iV 2] [(0, cB 274 [2, 3, 4, 5])] [] 4 (.agg [10, 11, 12, 13]) false (.ret (.agg [10, 11, 12, 13]) [(0, cB 274 [2, 3, 4, 5])])) (cT 246 [.str [40, 41, 44, 59, 58, 124, 61, 60, 43, 45, 42, 47, 37, 95], 0] 10 (aT (.bin .geq 3 true 10 (iV 0)) 11 (.cond 11 (.call 244 [.ptr ⟨0, 0, 0⟩, iV 6, iV 1] [(0, cB 274 [2, 3, 4, 5])] [] 4 (.agg [12, 13, 14, 15]) false (.ret (.agg [12, 13, 14, 15]) [(0, cB 274 [2, 3, 4, 5])])) (.pan (.iface 172 (.agg [3, iV 11])) [(0, cB 274 [2, 3, 4, 5])]))))
def mU : aB := .cond 1 (.call 234 [.ptr ⟨0, 0, 0⟩, iV 1, .func (.func 245) [] []] [(0, cB 274 [2, 3, 4, 5])] [] 1 10 false (aT (.bin .add 3 true (iV 1) 10) 11 (.call 244 [.ptr ⟨0, 0, 0⟩, iV 4, 11] [(0, cB 274 [2, 3, 4, 5])] [] 4 (.agg [12, 13, 14, 15]) false (.ret (.agg [12, 13, 14, 15]) [(0, cB 274 [2, 3, 4, 5])])))) (.call 236 [.ptr ⟨0, 0, 0⟩, .str [61, 62]] [(0, cB 274 [2, 3, 4, 5])] [] 1 10 false (.cond 10 (.cut 10 [0, .bool true, 2, 3, 4, 5, 6, 7, 8, 9] [0, 1] [cB 274 [2, 3, 4, 5], cB 117 [6, 7, 8, 9]] mW) (.call 236 [.ptr ⟨0, 0, 0⟩, .str [45, 62]] [(0, cB 274 [2, 3, 4, 5])] [] 1 11 false (.cut 10 [0, 11, 2, 3, 4, 5, 6, 7, 8, 9] [0, 1] [cB 274 [2, 3, 4, 5], cB 117 [6, 7, 8, 9]] mW))))
def mS : aB := .cond 1 (.call 240 [.ptr ⟨0, 0, 0⟩] [(0, cB 274 [2, 3, 4, 5])] [] 4 (.agg [10, 11, 12, 13]) true (.ret (.agg [10, 11, 12, 13]) [(0, cB 274 [2, 3, 4, 5])])) (cT 241 [0] 10 (.cond 10 (.call 242 [.ptr ⟨0, 0, 0⟩, iV 2] [(0, cB 274 [2, 3, 4, 5])] [] 4 (.agg [11, 12, 13, 14]) false (.ret (.agg [11, 12, 13, 14]) [(0, cB 274 [2, 3, 4, 5])])) (cT 243 [0] 11 (.cond 11 (.call 242 [.ptr ⟨0, 0, 0⟩, iV 3] [(0, cB 274 [2, 3, 4, 5])] [] 4 (.agg [12, 13, 14, 15]) false (.ret (.agg [12, 13, 14, 15]) [(0, cB 274 [2, 3, 4, 5])])) (aT (.bin .eql 5 true 0 (.int .u8 39)) 12 (.cond 12 (.call 238 [.ptr ⟨0, 0, 0⟩, iV 1] [(0, cB 274 [2, 3, 4, 5])] [] 1 13 false (cT 241 [13] 14 (.cut 10 [0, 14, 2, 3, 4, 5, 6, 7, 8, 9] [0, 1] [cB 274 [2, 3, 4, 5], cB 117 [6, 7, 8, 9]] mU))) (.cut 10 [0, .bool false, 2, 3, 4, 5, 6, 7, 8, 9] [0, 1] [cB 274 [2, 3, 4, 5], cB 117 [6, 7, 8, 9]] mU)))))))
def BI : aB := .new (.call 238 [.ptr ⟨0, 0, 0⟩, iV 0] [(0, cB 274 [0, 1, 2, 3])] [] 1 4 false (cT 239 [4] 5 (.cond 5 (.cut 10 [4, .bool true, 0, 1, 2, 3, iV 0, iV 0, s0, iV 0] [0, 1] [cB 274 [2, 3, 4, 5], cB 117 [6, 7, 8, 9]] mS) (aT (.bin .eql 5 true 4 (.int .u8 126)) 6 (.cut 10 [4, 6, 0, 1, 2, 3, iV 0, iV 0, s0, iV 0] [0, 1] [cB 274 [2, 3, 4, 5], cB 117 [6, 7, 8, 9]] mS)))))
theorem EQ : cb vZ 400 [] [.code Dr] (bi [.ptr ⟨0, 0, 0⟩] 0 .leaf id) (br ⟨.leaf, 0⟩ [.cells 274 false 1 [⟨0, 0, [.atom 0, .atom 1, .atom 2, .atom 3]⟩]]) 4 = some BI := by kernel_rfl
def Bj : List aH := []
def AY : Code := match Tryz.f246.body with | some c => c | none => .skip
def sU : gX := ⟨au, Tryz.f246, Bj, [], [], 0⟩
def zA : aB := cT 273 [0, 1] 2 (rT 2)
theorem Cg : cb sU 400 [] [.code AY] (bi [.atom 0, .atom 1] 0 .leaf id) (br ⟨.leaf, 0⟩ []) 2 = some zA := by kernel_rfl
def xz : List aH := []
def xp : Code := match Tryz.f273.body with | some c => c | none => .skip
def qQ : gX := ⟨au, Tryz.f273, xz, [], [], 0⟩
def wK : aB := aT (.ext .indexByte [0, 1]) 2 (rT 2)
theorem zY : cb qQ 400 [] [.code xp] (bi [.atom 0, .atom 1] 0 .leaf id) (br ⟨.leaf, 0⟩ []) 2 = some wK := by kernel_rfl
def Gw : List aH := []
def FZ : Code := match Tryz.f242.body with | some c => c | none => .skip
def yW : gX := ⟨au, Tryz.f242, Gw, [(234, ⟨[], false⟩), (238, ⟨[], false⟩), (244, ⟨[], false⟩)], [⟨6, [(0, false), (1, false), (4, false), (5, true)], []⟩], 1⟩
def lL : aB := .call 244 [.ptr ⟨0, 0, 0⟩, 0, 1] [(0, cB 274 [2, 3, 4, 5])] [] 4 (.agg [10, 11, 12, 13]) false (.new (.ask (.lookup 86 4 12 true) false [] 2 (.tuple [14, 15]) (.cond 15 (.ret (.agg [14, 11, 12, 13]) [(0, cB 274 [2, 3, 4, 5])]) (.ret (.agg [10, 11, 12, 13]) [(0, cB 274 [2, 3, 4, 5])]))))
def Ep : aB := .new (.call 234 [.ptr ⟨0, 0, 0⟩, iV 0, .func (.func 245) [] []] [(0, cB 274 [0, 1, 2, 3])] [] 1 5 false (.call 238 [.ptr ⟨0, 0, 0⟩, 5] [(0, cB 274 [0, 1, 2, 3])] [] 1 6 false (aT (.bin .eql 5 true 6 (.int .u8 39)) 7 (.cond 7 (aT (.bin .add 3 true 5 (iV 1)) 8 (.call 234 [.ptr ⟨0, 0, 0⟩, 8, .func (.func 239) [] []] [(0, cB 274 [0, 1, 2, 3])] [] 1 9 false (aT (.bin .gtr 3 true 9 (iV 0)) 10 (.cond 10 (aT (.bin .add 3 true (iV 1) 9) 11 (aT (.bin .add 3 false 5 11) 12 (.cut 10 [4, 12, 0, 1, 2, 3, iV 0, iV 0, s0, iV 0] [0, 1] [cB 274 [2, 3, 4, 5], cB 117 [6, 7, 8, 9]] lL))) (.cut 10 [4, 5, 0, 1, 2, 3, iV 0, iV 0, s0, iV 0] [0, 1] [cB 274 [2, 3, 4, 5], cB 117 [6, 7, 8, 9]] lL))))) (.cut 10 [4, 5, 0, 1, 2, 3, iV 0, iV 0, s0, iV 0] [0, 1] [cB 274 [2, 3, 4, 5], cB 117 [6, 7, 8, 9]] lL)))))
theorem Iy : cb yW 400 [] [.code FZ] (bi [.ptr ⟨0, 0, 0⟩, .atom 4] 0 .leaf id) (br ⟨.leaf, 0⟩ [.cells 274 false 1 [⟨0, 0, [.atom 0, .atom 1, .atom 2, .atom 3]⟩]]) 5 = some Ep := by kernel_rfl
end Go.AI.Lx
namespace Go.AI.Lx
open Go.Proofs Go.Proofs.YtkeaedhoaamfnaaGreatDoor
set_option maxRecDepth 10000
section
variable {l : List Nat} {s : S} {fs p mm n0 clk : Nat} {cm : V}
abbrev TT (l : List Nat) (p : Nat) (kind : Int) (s : S) : cX → Prop := tW fun v s' => v = .agg [.int .i64 (gO ((l.drop p).take (bE l p)) kind), .int .i64 0, .str ((l.drop p).take (bE l p)), .int .i64 ((p : Nat) : Int)] ∧ Fw [fs] s s' ∧ s'.get fs = some (.cells 274 false 1 [⟨0, 0, [.str l, .int .i64 ((p : Nat) : Int), .map mm, cm]⟩])
theorem OX (kind : Int) (hb : Bytes l) (hl : l.length ≤ 24) (hp : p ≤ l.length) (hcm : cm.one = true) (hw : WF s) (hg : s.get fs = some (.cells 274 false 1 [⟨0, 0, [.str l, .int .i64 ((p : Nat) : Int), .map mm, cm]⟩])) (hmm : s.get mm = some (.map (bK cG n0) clk)) :
 Cw au 242 [.ptr ⟨fs, 0, 0⟩, .int .i64 kind] s fun v s' => v = .agg [.int .i64 (gO ((l.drop p).take (bE l p)) kind), .int .i64 0, .str ((l.drop p).take (bE l p)), .int .i64 ((p : Nat) : Int)] ∧ Fw [] s s' := by
 have hne : mm ≠ fs := fun h => by subst h; rw [hg] at hmm; cases hmm
 have hnl := pn l p hp
 have hr1 := kr bH l p hp
 refine (aL (P := fun v s' => v = .agg [.int .i64 (gO ((l.drop p).take (bE l p)) kind), .int .i64 0, .str ((l.drop p).take (bE l p)), .int .i64 ((p : Nat) : Int)] ∧ Fw [fs] s s' ∧ s'.get fs = some (.cells 274 false 1 [⟨0, 0, [.str l, .int .i64 ((p : Nat) : Int), .map mm, cm]⟩])) (bb (C := yW) (e := ⟨[.str l, .int .i64 ((p : Nat) : Int), .map mm, cm, .int .i64 kind], [fs]⟩) (F := [fs]) (dn rfl rfl rfl) Tryz.func242 rfl (by kernel_rfl) Iy rfl ⟨rfl, by simp only [aA, List.all_cons, List.all_nil, hcm]; rfl, rfl⟩ rfl hw rfl (by simp) ⟨hg, trivial⟩ ay trivial (by simp) ?_)).mono fun v s' ⟨h1, h2, h3⟩ => ⟨h1, h2.strike fun B hB => by rw [hg] at hB; cases hB; exact h3⟩
 have key : ∀ (m b2 : Nat) (L : List ck), m = bE l p → ah au [fs] s (TT (fs := fs) (mm := mm) (cm := cm) l p kind s) lL ⟨[.int .i64 kind, .int .i64 ((m : Nat) : Int), .str l, .int .i64 ((p : Nat) : Int), .map mm, cm, .int .i64 0, .int .i64 0, .str [], .int .i64 0], [fs, b2]⟩ [] T0 L := by
  rintro m b2 L rfl
  have hxb : Bytes ((l.drop p).take (bE l p)) := fun z hz => hb z (List.mem_of_mem_drop (List.mem_of_mem_take hz))
  refine jQ (P := fun v s' => v = .agg [.int .i64 kind, .int .i64 0, .str ((l.drop p).take (bE l p)), .int .i64 ((p : Nat) : Int)]) (fun _ _ a _ b => Hx kind hl hnl a b.1) ?_
  rintro v s1 s2 rfl _ _
  refine wi rfl rfl rfl ?_
  refine bd fun b1 hb1 hd1 => ?_
  have hlk : ∀ s1, Fw [fs] s s1 → bZ Tryz.prog s1 86 (some (.map mm)) (some (.str ((l.drop p).take (bE l p)))) true = some (.tuple (if (l.drop p).take (bE l p) ∈ cG then [.int .i64 5, .bool true] else [.int .i64 0, .bool false])) := fun s1 h1 => by
   have := IV (h1.keep _ _ (by simp [hne]) hmm) hxb
   rw [this]
   by_cases h : (l.drop p).take (bE l p) ∈ cG
   ·rw [if_pos h, if_pos h, decide_eq_true h]
   ·rw [if_neg h, if_neg h, decide_eq_false h]
  by_cases hin : (l.drop p).take (bE l p) ∈ cG
  ·refine LM [.int .i64 5, .bool true] rfl rfl (fun a b _ _ _ => by have := hlk a b; rw [if_pos hin] at this; exact this) ?_
   refine aI (q := true) rfl (fun _ => ?_) (fun h => by cases h)
   exact aE fun s1 h1 h2 h3 h4 => ⟨_, _, rfl, by unfold gO; rw [if_pos hin]; rfl, h1, h4.1⟩
  ·refine LM [.int .i64 0, .bool false] rfl rfl (fun a b _ _ _ => by have := hlk a b; rw [if_neg hin] at this; exact this) ?_
   refine aI (q := false) rfl (fun h => by cases h) (fun _ => ?_)
   exact aE fun s1 h1 h2 h3 h4 => ⟨_, _, rfl, by unfold gO; rw [if_neg hin]; rfl, h1, h4.1⟩
 refine bd fun b2 hb2 hd2 => ?_
 refine ax (.int .i64 ((aQ bH l (p + 0) : Nat) : Int)) (fun _ _ _ _ a => lr (IH (k := 0) (g := 245) rfl Pp hb (by omega) (by omega) a.1)) rfl rfl ?_
 refine ax (.int .u8 ((aC l (p + aQ bH l (p + 0)) : Nat) : Int)) (fun _ _ _ _ a => lr (CC hb (by omega) hp (by rw [Nat.add_zero]; omega) a.1)) rfl rfl ?_
 refine gP rfl rfl rfl ?_
 rw [Nat.add_zero]
 refine dA rfl (fun c2 => ?_) (fun c2 => ?_)
 ·have hlt : p + aQ bH l p < l.length := by
   rcases Nat.lt_or_ge (p + aQ bH l p) l.length with h | h
   ·exact h
   ·exfalso
    have h0 : aC l (p + aQ bH l p) = 0 := by unfold aC; rw [List.getElem?_eq_none h]; rfl
    rw [h0] at c2; omega
  have h39 : aC l (p + aQ bH l p) = 39 := by omega
  refine ed (r := ((aQ bH l p + 1 : Nat) : Int)) rfl rfl (by rw [show ((aQ bH l p : Nat) : Int) + 1 = ((aQ bH l p + 1 : Nat) : Int) by omega]; exact bJ _ ⟨by omega, by omega⟩) rfl ?_
  refine ax (.int .i64 ((aQ bW l (p + (aQ bH l p + 1)) : Nat) : Int)) (fun _ _ _ _ a => lr (IH (g := 239) rfl Pq hb (by omega) (by omega) a.1)) rfl rfl ?_
  have hd1 := kr bW l (p + (aQ bH l p + 1)) (by omega)
  have hnm : bE l p = if 0 < aQ bW l (p + (aQ bH l p + 1)) then aQ bH l p + (1 + aQ bW l (p + (aQ bH l p + 1))) else aQ bH l p := by
   unfold bE
   rw [show p + aQ bH l p + 1 = p + (aQ bH l p + 1) by omega]
   by_cases h : 0 < aQ bW l (p + (aQ bH l p + 1))
   ·rw [if_pos ⟨h39, h⟩, if_pos h]
   ·rw [if_neg (fun hh => h hh.2), if_neg h]
  refine qw rfl rfl rfl ?_
  refine dA rfl (fun c3 => ?_) (fun c3 => ?_)
  ·refine ed (r := ((1 + aQ bW l (p + (aQ bH l p + 1)) : Nat) : Int)) rfl rfl (by rw [show (1 : Int) + ((aQ bW l (p + (aQ bH l p + 1)) : Nat) : Int) = ((1 + aQ bW l (p + (aQ bH l p + 1)) : Nat) : Int) by omega]; exact bJ _ ⟨by omega, by omega⟩) rfl ?_
   refine ed (r := ((aQ bH l p + (1 + aQ bW l (p + (aQ bH l p + 1))) : Nat) : Int)) rfl rfl (by rw [show ((aQ bH l p : Nat) : Int) + ((1 + aQ bW l (p + (aQ bH l p + 1)) : Nat) : Int) = ((aQ bH l p + (1 + aQ bW l (p + (aQ bH l p + 1))) : Nat) : Int) by omega]; exact bJ _ ⟨by omega, by omega⟩) rfl ?_
   exact bI (key _ b2 _ (by rw [hnm, if_pos (by omega)]))
  ·exact bI (key _ b2 _ (by rw [hnm, if_neg (by omega)]))
 ·exact bI (key _ b2 _ (by unfold bE; rw [if_neg (fun h => c2 (by omega))]))
end
section
variable {l : List Nat} {s : S} {L : List ck} {w1 w2 w3 w4 cm : V} {fs b0 mm : Nat} {p : Nat}
abbrev HZ (l : List Nat) (p mm : Nat) (cm : V) : bP := .cells 274 false 1 [⟨0, 0, [.str l, .int .i64 ((p : Nat) : Int), .map mm, cm]⟩]
def SQ (l : List Nat) (p : Nat) (v : V) : Prop := ∃ (a : Int) (m : Nat), 1 ≤ m ∧ p + m ≤ l.length ∧ v = .agg [.int .i64 1, .int .i64 a, .str ((l.drop p).take m), .int .i64 ((p : Nat) : Int)]
def QN (l : List Nat) (p : Nat) (s : S) : cX → Prop := RP (fun v s' => SQ l p v ∧ Fw [] s s') (fun c s' => pJ c ∧ Fw [] s s')
theorem Fw.shrink {F : List Nat} {f : Nat} {B : bP} {s s' : S} (h : Fw (f :: F) s s') (h1 : s.get f = some B) (h2 : s'.get f = some B) : Fw F s s' :=
 ⟨fun g C hg hC => by
  by_cases hgf : g = f
  ·subst hgf; rw [h1] at hC; cases hC; exact h2
  ·exact h.keep g C (by simp [hgf, hg]) hC, h.ro, h.next, h.wf⟩
theorem iR (hg : s.get fs = some (HZ l p mm cm)) {a : Int} {m : Nat} {q : Bool} (hm1 : 1 ≤ m) (hm : p + m ≤ l.length) : ah au [fs] s (QN l p s) je ⟨[.str ((l.drop p).take m), .int .i64 a, .bool q, .str l, .int .i64 ((p : Nat) : Int), .map mm, cm, w1, w2, w3, w4], [fs, b0]⟩ [] T0 L := by
 refine aI rfl (fun c1 => ?_) (fun c1 => ?_)
 ·exact Pf fun s1 h1 h2 h3 h4 => .inr ⟨_, _, rfl, ⟨_, _, by decide, rfl⟩, Fw.shrink h1 hg h4.1⟩
 ·exact aE fun s1 h1 h2 h3 h4 => .inl ⟨_, _, rfl, ⟨a, m, hm1, hm, rfl⟩, Fw.shrink h1 hg h4.1⟩
theorem my (hb : Bytes l) (hl : l.length ≤ 24) (hG : cF s) (hg : s.get fs = some (HZ l p mm cm)) {k : Nat} (hk : p + k ≤ l.length) (hk1 : k = 1 ∨ k = 0 ∧ 1 ≤ aQ bW l p) : ah au [fs] s (QN l p s) lK ⟨[.int .i64 ((k : Nat) : Int), .str l, .int .i64 ((p : Nat) : Int), .map mm, cm, w1, w2, w3, w4], [fs, b0]⟩ [] T0 L := by
 have hle := kr bW l (p + k) hk
 refine ax (.int .i64 ((aQ bW l (p + k) : Nat) : Int)) (fun _ _ _ _ a => lr (IH (g := 239) (q := bW) rfl Pq hb (by omega) hk a.1)) rfl rfl ?_
 refine ed (r := ((k + aQ bW l (p + k) : Nat) : Int)) rfl rfl (by rw [show ((k : Nat) : Int) + ((aQ bW l (p + k) : Nat) : Int) = ((k + aQ bW l (p + k) : Nat) : Int) by omega]; exact bJ _ ⟨by omega, by omega⟩) rfl ?_
 refine ax (.int .u8 ((aC l (p + (k + aQ bW l (p + k))) : Nat) : Int)) (fun _ _ _ _ a => lr (CC hb (by omega) (by omega) (by omega) a.1)) rfl rfl ?_
 refine ed (r := ((p + k : Nat) : Int)) rfl rfl (by rw [show ((p : Nat) : Int) + ((k : Nat) : Int) = ((p + k : Nat) : Int) by omega]; exact bJ _ ⟨by omega, by omega⟩) rfl ?_
 refine ed (r := ((p + k + aQ bW l (p + k) : Nat) : Int)) rfl rfl (by rw [show ((p + k : Nat) : Int) + ((aQ bW l (p + k) : Nat) : Int) = ((p + k + aQ bW l (p + k) : Nat) : Int) by omega]; exact bJ _ ⟨by omega, by omega⟩) rfl ?_
 refine LL (n := p) (m := p + k + aQ bW l (p + k)) Tryz.underlying9 rfl rfl rfl (by omega) (by omega) rfl ?_
 have hx : p + k + aQ bW l (p + k) - p = k + aQ bW l (p + k) := by omega
 rw [hx]
 have hm1 : 1 ≤ k + aQ bW l (p + k) := by
  rcases hk1 with rfl | ⟨rfl, h⟩
  ·omega
  ·rw [Nat.add_zero]; omega
 have hm2 : p + (k + aQ bW l (p + k)) ≤ l.length := by omega
 refine jQ (fun _ a _ _ _ => lr (Tp (hG.keep a.ro) (by rw [List.length_take, List.length_drop]; omega))) ?_
 rintro _ s1 s2 ⟨a, e, rfl⟩ - -
 refine Rq [.int .i64 a, .int .i64 e] rfl rfl rfl ?_
 refine sG rfl rfl rfl ?_
 refine dA rfl (fun c2 => ?_) (fun c2 => ?_)
 ·exact bI (iR hg hm1 hm2)
 ·refine ax (.bool (bH (aC l (p + (k + aQ bW l (p + k)))))) (fun a _ _ _ _ => DE rfl (jJ hb _) a) rfl rfl ?_
  refine aI rfl (fun c3 => ?_) (fun c3 => ?_)
  ·exact bI (iR hg hm1 hm2)
  ·refine gP rfl rfl rfl ?_
   exact bI (iR hg hm1 hm2)
theorem Lg (hb : Bytes l) (hl : l.length ≤ 24) (hp : p < l.length) (hn : cy l p) (hcm : cm.one = true) (hw : WF s) (hG : cF s) (hg : s.get fs = some (HZ l p mm cm)) : Co au 240 [.ptr ⟨fs, 0, 0⟩] s (QN l p s) := by
 refine bb (C := sQ) (e := ⟨[.str l, .int .i64 ((p : Nat) : Int), .map mm, cm], [fs]⟩) (F := [fs]) rfl Tryz.func240 rfl (by kernel_rfl) Cc rfl ⟨rfl, ?_, rfl⟩ rfl hw rfl (by simp) ⟨hg, trivial⟩ ay trivial (by simp) ?_
 ·simp only [aA, List.all_cons, List.all_nil, hcm]; rfl
 refine bd fun b1 hb1 hd1 => ?_
 refine ax (.int .u8 ((aC l (p + 0) : Nat) : Int)) (fun _ _ _ _ a => lr (CC (k := 0) hb (by omega) (by omega) (by omega) a.1)) rfl rfl ?_
 refine gP rfl rfl rfl ?_
 refine dA rfl (fun c4 => ?_) (fun c4 => ?_)
 ·exact bI (my (k := 1) hb hl hG hg (by omega) (.inl rfl))
 ·refine bI (my (k := 0) hb hl hG hg (by omega) (.inr ⟨rfl, ?_⟩))
  rcases hn with hn | hn
  ·exact uF hp hn
  ·exact absurd hn (by rw [Nat.add_zero] at c4; omega)
def rc (l : List Nat) (p : Nat) : Option (Int × Nat) :=
 if dC (aC l p) = true then some (gO ((l.drop p).take (bE l p)) 2, bE l p)
 else if gV (aC l p) = true then some (gO ((l.drop p).take (bE l p)) 3, bE l p)
 else if aC l p = 39 ∧ dC (aC l (p + 1)) = true then some (4, 1 + aQ bH l (p + 1))
 else if gb (l.drop p) [61, 62] = true ∨ gb (l.drop p) [45, 62] = true then some (6, 2)
 else if aC l p ∈ xQ then some (6, 1) else none
def TC (l : List Nat) (p : Nat) (v : V) : Prop := ∃ (k a : Int) (m : Nat), 1 ≤ m ∧ p + m ≤ l.length ∧ v = .agg [.int .i64 k, .int .i64 a, .str ((l.drop p).take m), .int .i64 ((p : Nat) : Int)] ∧ (cy l p → k = 1) ∧ (¬ cy l p → rc l p = some (k, m))
def QT (l : List Nat) (p : Nat) (s : S) : cX → Prop := RP (fun v s' => TC l p v ∧ Fw [] s s') (fun c s' => (pJ c ∧ (¬ cy l p → rc l p = none)) ∧ Fw [] s s')
theorem CU {c : Nat} (hc : c < 256) : ∀ (q : List Nat) (i : Nat), (∀ z ∈ q, z < 256) → ((∃ j : Nat, ce c q i = some j) ↔ c ∈ q)
 | [], i, _ => by simp [ce]
 | x :: r, i, h => by
  have hx : x % 256 = x := Nat.mod_eq_of_lt (h x (by simp))
  have ih := CU hc r (i + 1) (fun z hz => h z (List.mem_cons_of_mem _ hz))
  simp only [ce]
  rw [show Nat.mod x 256 = x from hx]
  cases hb : Nat.beq x c with
  | true => have := Nat.eq_of_beq_eq_true hb; subst this; simp
  | false =>
   have hn : c ≠ x := fun h => by subst h; rw [Nat.beq_refl] at hb; cases hb
   simp only [cond_false, ih, List.mem_cons, hn, false_or]
theorem Sn {q : List Nat} {c : Nat} (hc : c < 256) {s : S} (hw : WF s) : Cw au 273 [.str q, .int .u8 ((c : Nat) : Int)] s fun v s' => v = (match ce c q 0 with | some i => .int .i64 (.ofNat i) | none => .int .i64 (-1)) ∧ Fw [] s s' := by
 refine aL (bb (C := qQ) (e := ⟨[.str q, .int .u8 ((c : Nat) : Int)], []⟩) (F := []) rfl Tryz.func273 rfl (by kernel_rfl) zY rfl ⟨rfl, rfl, rfl⟩ rfl hw rfl (by simp) trivial ay trivial (by simp) ?_)
 refine aD (match ce c q 0 with | some i => .int .i64 (.ofNat i) | none => .int .i64 (-1)) (by split <;> rfl) (fun s1 h1 h2 h3 h4 => ?_) rfl ?_
 ·show fY .indexByte [.str q, .int .u8 (.ofNat c)] = _
  simp only [fY]
  rw [show Nat.mod c 256 = c from Nat.mod_eq_of_lt hc]
  cases ce c q 0 <;> rfl
 ·exact aE fun s1 h1 h2 h3 h4 => ⟨_, _, rfl, rfl, h1⟩
theorem Tw {q : List Nat} {c : Nat} (hc : c < 256) {s : S} (hw : WF s) : Cw au 246 [.str q, .int .u8 ((c : Nat) : Int)] s fun v s' => v = (match ce c q 0 with | some i => .int .i64 (.ofNat i) | none => .int .i64 (-1)) ∧ Fw [] s s' := by
 refine aL (bb (C := sU) (e := ⟨[.str q, .int .u8 ((c : Nat) : Int)], []⟩) (F := []) rfl Tryz.func246 rfl (by kernel_rfl) Cg rfl ⟨rfl, rfl, rfl⟩ rfl hw rfl (by simp) trivial ay trivial (by simp) ?_)
 refine ax (match ce c q 0 with | some i => .int .i64 (.ofNat i) | none => .int .i64 (-1)) (fun _ _ a _ _ => Sn hc a) (by split <;> rfl) rfl ?_
 exact aE fun s1 h1 h2 h3 h4 => ⟨_, _, rfl, rfl, h1⟩
theorem Sm {q : List Nat} (hq : ∀ z ∈ q, z < 256) {c : Nat} (hc : c < 256) {s : S} (hw : WF s) : Cw au 246 [.str q, .int .u8 ((c : Nat) : Int)] s fun v s' => (∃ i : Int, v = .int .i64 i ∧ (i ≥ 0 ↔ c ∈ q)) ∧ Fw [] s s' := by
 refine (Tw hc hw).mono fun v s' ⟨h1, h2⟩ => ⟨?_, h2⟩
 have h3 := CU hc q 0 hq
 cases h : ce c q 0 with
 | none => rw [h] at h1 h3; exact ⟨-1, h1, ⟨fun h => by omega, fun hm => by obtain ⟨j, hj⟩ := h3.2 hm; cases hj⟩⟩
 | some i => rw [h] at h1 h3; exact ⟨.ofNat i, h1, ⟨fun _ => h3.1 ⟨i, rfl⟩, fun _ => Int.natCast_nonneg i⟩⟩
theorem xU {s1 : S} {k a : Int} {m : Nat} (hg : s.get fs = some (HZ l p mm cm)) (h1 : Fw [fs] s s1) (h2 : s1.get fs = some (HZ l p mm cm)) (hm1 : 1 ≤ m) (hm : p + m ≤ l.length) (hn : cy l p → k = 1) (ht : ¬ cy l p → rc l p = some (k, m)) :
 QT l p s ⟨.returned (.agg [.int .i64 k, .int .i64 a, .str ((l.drop p).take m), .int .i64 ((p : Nat) : Int)]), none, s1⟩ := .inl ⟨_, _, rfl, ⟨k, a, m, hm1, hm, rfl, hn, ht⟩, Fw.shrink h1 hg h2⟩
theorem mV (hb : Bytes l) (hl : l.length ≤ 24) (hp : p < l.length) (hg : s.get fs = some (HZ l p mm cm)) (hn : ¬ cy l p)
 (h1 : ¬ dC (aC l p) = true) (h2 : ¬ gV (aC l p) = true) (h3 : ¬ (aC l p = 39 ∧ dC (aC l (p + 1)) = true)) {q : Bool} (hq : q = true ↔ (gb (l.drop p) [61, 62] = true ∨ gb (l.drop p) [45, 62] = true)) :
 ah au [fs] s (QT l p s) mW ⟨[.int .u8 ((aC l p : Nat) : Int), .bool q, .str l, .int .i64 ((p : Nat) : Int), .map mm, cm, w1, w2, w3, w4], [fs, b0]⟩ [] T0 L := by
 refine aI rfl (fun c1 => ?_) (fun c1 => ?_)
 ·have hs := hq.1 c1
  have hp2 : p + 2 ≤ l.length := hs.elim Cy Cy
  refine jQ (fun s1 k1 k2 k3 k4 => Hx (n := 2) 6 hl hp2 k2 k4.1) ?_
  rintro _ s1 s2 rfl - -
  refine wi rfl rfl rfl ?_
  exact aE fun s1 k1 k2 k3 k4 => xU hg k1 k4.1 (by omega) hp2 (fun h => absurd h hn) (fun _ => by unfold rc; rw [if_neg h1, if_neg h2, if_neg h3, if_pos hs])
 ·have hs : ¬ (gb (l.drop p) [61, 62] = true ∨ gb (l.drop p) [45, 62] = true) := fun h => by have := hq.2 h; rw [c1] at this; cases this
  refine jQ (fun s1 k1 k2 k3 k4 => Sm Km (jJ hb p) k2) ?_
  rintro _ s1 s2 ⟨i, rfl, hi⟩ - -
  refine Mq rfl rfl ?_
  refine HF rfl rfl rfl ?_
  refine dA rfl (fun c2 => ?_) (fun c2 => ?_)
  ·refine jQ (fun s1 k1 k2 k3 k4 => Hx (n := 1) 6 hl (by omega) k2 k4.1) ?_
   rintro _ s1 s2 rfl - -
   refine wi rfl rfl rfl ?_
   exact aE fun s1 k1 k2 k3 k4 => xU hg k1 k4.1 (by omega) (by omega) (fun h => absurd h hn) (fun _ => by unfold rc; rw [if_neg h1, if_neg h2, if_neg h3, if_neg hs, if_pos (hi.1 c2)])
  ·exact Pf fun s1 k1 k2 k3 k4 => .inr ⟨_, _, rfl, ⟨⟨_, _, by decide, rfl⟩, fun _ => by unfold rc; rw [if_neg h1, if_neg h2, if_neg h3, if_neg hs, if_neg (fun h => c2 (hi.2 h))]⟩, Fw.shrink k1 hg k4.1⟩
theorem mT (hb : Bytes l) (hl : l.length ≤ 24) (hp : p < l.length) (hg : s.get fs = some (HZ l p mm cm)) (hn : ¬ cy l p)
 (h1 : ¬ dC (aC l p) = true) (h2 : ¬ gV (aC l p) = true) {q : Bool} (hq : q = true ↔ (aC l p = 39 ∧ dC (aC l (p + 1)) = true)) :
 ah au [fs] s (QT l p s) mU ⟨[.int .u8 ((aC l p : Nat) : Int), .bool q, .str l, .int .i64 ((p : Nat) : Int), .map mm, cm, w1, w2, w3, w4], [fs, b0]⟩ [] T0 L := by
 refine aI rfl (fun c3 => ?_) (fun c3 => ?_)
 ·have hs := hq.1 c3
  have hle := kr bH l (p + 1) (by omega)
  refine ax (.int .i64 ((aQ bH l (p + 1) : Nat) : Int)) (fun s1 k1 k2 k3 k4 => lr (IH (k := 1) (g := 245) (q := bH) rfl Pp hb (by omega) (by omega) k4.1)) rfl rfl ?_
  refine ed (r := ((1 + aQ bH l (p + 1) : Nat) : Int)) rfl rfl (by rw [show (1 : Int) + ((aQ bH l (p + 1) : Nat) : Int) = ((1 + aQ bH l (p + 1) : Nat) : Int) by omega]; exact bJ _ ⟨by omega, by omega⟩) rfl ?_
  refine jQ (fun s1 k1 k2 k3 k4 => Hx (n := 1 + aQ bH l (p + 1)) 4 hl (by omega) k2 k4.1) ?_
  rintro _ s1 s2 rfl - -
  refine wi rfl rfl rfl ?_
  exact aE fun s1 k1 k2 k3 k4 => xU hg k1 k4.1 (by omega) (by omega) (fun h => absurd h hn) (fun _ => by unfold rc; rw [if_neg h1, if_neg h2, if_pos hs])
 ·have hs : ¬ (aC l p = 39 ∧ dC (aC l (p + 1)) = true) := fun h => by have := hq.2 h; rw [c3] at this; cases this
  refine ax (.bool (gb (l.drop p) [61, 62])) (fun s1 k1 k2 k3 k4 => lr (jf hb (by omega) (by omega) [61, 62] (fun z hz => by simp at hz; omega) k4.1)) rfl rfl ?_
  refine aI rfl (fun c4 => ?_) (fun c4 => ?_)
  ·exact bI (mV hb hl hp hg hn h1 h2 hs ⟨fun _ => .inl c4, fun _ => rfl⟩)
  ·refine ax (.bool (gb (l.drop p) [45, 62])) (fun s1 k1 k2 k3 k4 => lr (jf hb (by omega) (by omega) [45, 62] (fun z hz => by simp at hz; omega) k4.1)) rfl rfl ?_
   exact bI (mV hb hl hp hg hn h1 h2 hs ⟨.inr, fun h => h.elim (fun h => by rw [c4] at h; cases h) id⟩)
theorem sE {l : List Nat} {p : Nat} (hp : p < l.length) (h : dC (aC l p) = true ∨ gV (aC l p) = true) : 1 ≤ bE l p := by
 have h1 : bH (aC l p) = true := by
  simp only [Go.Proofs.YtkeaedhoaamfnaaGreatDoor.part, Go.Proofs.YtkeaedhoaamfnaaGreatDoor.small, Go.Proofs.YtkeaedhoaamfnaaGreatDoor.great] at h ⊢
  rcases h with h | h <;> simp_all
 have h2 := uF hp h1
 unfold bE
 split <;> omega
theorem mR (hb : Bytes l) (hl : l.length ≤ 24) (hp : p < l.length) (hcm : cm.one = true) (hG : cF s) (hg : s.get fs = some (HZ l p mm cm)) {n0 clk : Nat} (hmm : s.get mm = some (.map (bK cG n0) clk)) (hne : mm ≠ fs) {q : Bool} (hq : q = true ↔ cy l p) :
 ah au [fs] s (QT l p s) mS ⟨[.int .u8 ((aC l p : Nat) : Int), .bool q, .str l, .int .i64 ((p : Nat) : Int), .map mm, cm, w1, w2, w3, w4], [fs, b0]⟩ [] T0 L := by
 have hnl := pn l p (by omega)
 refine aI rfl (fun c5 => ?_) (fun c5 => ?_)
 ·have hn := hq.1 c5
  refine NW (P := fun w _ => SQ l p w) (N := fun c _ => pJ c) (fun s1 k1 k2 k3 k4 => Lg hb hl hp hn hcm k2 (hG.keep k1.ro) k4.1) ?_ ?_
  ·intro c s1 s2 hc k1 k2 k3
   exact .inr ⟨_, _, rfl, ⟨hc, fun h => absurd hn h⟩, (Fw.shrink k1 hg k2.1).trans k3⟩
  ·rintro _ s1 s2 ⟨a, m, hm1, hm2, rfl⟩ - -
   refine wi rfl rfl rfl ?_
   exact aE fun s1 k1 k2 k3 k4 => xU hg k1 k4.1 hm1 hm2 (fun _ => rfl) (fun h => absurd hn h)
 ·have hn : ¬ cy l p := fun h => by have := hq.2 h; rw [c5] at this; cases this
  have hkm : ∀ s1, Fw [fs] s s1 → s1.get mm = some (.map (bK cG n0) clk) := fun s1 k1 => k1.keep mm _ (by simpa using hne) hmm
  refine ax (.bool (dC (aC l p))) (fun s1 k1 k2 k3 k4 => DE rfl (jJ hb p) s1) rfl rfl ?_
  refine aI rfl (fun c6 => ?_) (fun c6 => ?_)
  ·refine jQ (fun s1 k1 k2 k3 k4 => OX 2 hb hl (by omega) hcm k2 k4.1 (hkm s1 k1)) ?_
   rintro _ s1 s2 rfl - -
   refine wi rfl rfl rfl ?_
   exact aE fun s1 k1 k2 k3 k4 => xU hg k1 k4.1 (sE hp (.inl c6)) hnl (fun h => absurd h hn) (fun _ => by unfold rc; rw [if_pos c6])
  ·have c6' : ¬ dC (aC l p) = true := by rw [c6]; decide
   refine ax (.bool (gV (aC l p))) (fun s1 k1 k2 k3 k4 => DE rfl (jJ hb p) s1) rfl rfl ?_
   refine aI rfl (fun c7 => ?_) (fun c7 => ?_)
   ·refine jQ (fun s1 k1 k2 k3 k4 => OX 3 hb hl (by omega) hcm k2 k4.1 (hkm s1 k1)) ?_
    rintro _ s1 s2 rfl - -
    refine wi rfl rfl rfl ?_
    exact aE fun s1 k1 k2 k3 k4 => xU hg k1 k4.1 (sE hp (.inr c7)) hnl (fun h => absurd h hn) (fun _ => by unfold rc; rw [if_neg c6', if_pos c7])
   ·have c7' : ¬ gV (aC l p) = true := by rw [c7]; decide
    refine gP rfl rfl rfl ?_
    refine dA rfl (fun c8 => ?_) (fun c8 => ?_)
    ·have h39 : aC l p = 39 := by omega
     refine ax (.int .u8 ((aC l (p + 1) : Nat) : Int)) (fun s1 k1 k2 k3 k4 => lr (CC (k := 1) hb (by omega) (by omega) (by omega) k4.1)) rfl rfl ?_
     refine ax (.bool (dC (aC l (p + 1)))) (fun s1 k1 k2 k3 k4 => DE rfl (jJ hb _) s1) rfl rfl ?_
     exact bI (mT hb hl hp hg hn c6' c7' ⟨fun h => ⟨h39, h⟩, fun h => h.2⟩)
    ·exact bI (mT hb hl hp hg hn c6' c7' ⟨fun h => (by cases h), fun h => absurd h.1 (by omega)⟩)
theorem Nn (hb : Bytes l) (hl : l.length ≤ 24) (hp : p < l.length) (hcm : cm.one = true) (hw : WF s) (hG : cF s) (hg : s.get fs = some (HZ l p mm cm)) {n0 clk : Nat} (hmm : s.get mm = some (.map (bK cG n0) clk)) (hne : mm ≠ fs) : Co au 204 [.ptr ⟨fs, 0, 0⟩] s (QT l p s) := by
 refine bb (C := vZ) (e := ⟨[.str l, .int .i64 ((p : Nat) : Int), .map mm, cm], [fs]⟩) (F := [fs]) rfl Tryz.func204 rfl (by kernel_rfl) EQ rfl ⟨rfl, ?_, rfl⟩ rfl hw rfl (by simp) ⟨hg, trivial⟩ ay trivial (by simp) ?_
 ·simp only [aA, List.all_cons, List.all_nil, hcm]; rfl
 refine bd fun b1 hb1 hd1 => ?_
 refine ax (.int .u8 ((aC l (p + 0) : Nat) : Int)) (fun _ _ _ _ a => lr (CC (k := 0) hb (by omega) (by omega) (by omega) a.1)) rfl rfl ?_
 rw [Nat.add_zero]
 refine ax (.bool (bW (aC l p))) (fun s1 k1 k2 k3 k4 => DE rfl (jJ hb p) s1) rfl rfl ?_
 refine aI rfl (fun c9 => ?_) (fun c9 => ?_)
 ·exact bI (mR hb hl hp hcm hG hg hmm hne ⟨fun _ => .inl c9, fun _ => rfl⟩)
 ·refine gP rfl rfl rfl ?_
  exact bI (mR hb hl hp hcm hG hg hmm hne ⟨fun h => .inr (by have := of_decide_eq_true h; omega), fun h => decide_eq_true (h.elim (fun h => by rw [c9] at h; cases h) (fun h => by omega))⟩)
end
end Go.AI.Lx
namespace Go.AI.Lx
open Go.Proofs Go.Proofs.YtkeaedhoaamfnaaGreatDoor
def Gq : List aH := [⟨1, [(0, false), (1, false)], []⟩]
def FT : Code := match Tryz.f202.body with | some c => c | none => .skip
def yQ : gX := ⟨au, Tryz.f202, Gq, [(203, ⟨[(0, [1, 3])], true⟩), (204, ⟨[], true⟩)], [], 2⟩
def Ej : aB := .call 203 [.ptr ⟨1, 0, 0⟩] [(1, cB 274 [1, 2, 3, 4])] [(1, cB 274 [1, 5, 3, 6])] 2 (.tuple []) true (.loop 0 5 [0, 1, 5, 3, 6] [0, 1] [cB 170 [.ptr ⟨1, 0, 0⟩], cB 274 [1, 2, 3, 4]] (aF (.bif .len #[9] [1]) 5 (aF (.bin .lss 3 false 2 5) 6 (.cond 6 (.call 204 [.ptr ⟨1, 0, 0⟩] [(1, cB 274 [1, 2, 3, 4])] [] 4 (.agg [7, 8, 9, 10]) true (.new (aF (.bif .len #[9] [9]) 11 (aF (.bin .add 3 false 2 11) 12 (.calla 0 [.agg [7, 8, 9, 10]] [] 1 13 (aT (.un .not 13) 14 (.cond 14 (.ret (.tuple []) [(0, cB 170 [.ptr ⟨1, 0, 0⟩]), (1, cB 274 [1, 12, 3, 4])]) (.call 203 [.ptr ⟨1, 0, 0⟩] [(1, cB 274 [1, 12, 3, 4])] [(1, cB 274 [1, 15, 3, 16])] 2 (.tuple []) true (.back 0 [0, 1, 15, 3, 16] [0, 1]))))))))) (.ret (.tuple []) [(0, cB 170 [.ptr ⟨1, 0, 0⟩]), (1, cB 274 [1, 2, 3, 4])])))))
theorem Ir : cb yQ 400 [] [.code FT] (bi [.atom 0, .ptr ⟨0, 0, 0⟩] 0 .leaf id) (br ⟨.leaf, 0⟩ [.cells 170 false 1 [⟨0, 0, [.ptr ⟨1, 0, 0⟩]⟩], .cells 274 false 1 [⟨0, 0, [.atom 1, .atom 2, .atom 3, .atom 4]⟩]]) 5 = some Ej := by kernel_rfl
end Go.AI.Lx
namespace Go.AI
theorem Fw.andThen {F W : List Nat} {s0 s s' : S} (h0 : WF s0) (h : Fw F s0 s) (k : Fw W s s') (hW : ∀ g ∈ W, s0.next ≤ g ∨ g ∈ F) : Fw F s0 s' :=
 ⟨fun g B hg hB => k.keep g B (fun hgW => by
  rcases hW g hgW with h1 | h1
  ·have := h0 g B hB; omega
  ·exact hg h1) (h.keep g B hg hB), fun g vs hb => k.ro g vs (h.ro g vs hb), Nat.le_trans h.next k.next, fun hw => k.wf (h.wf hw)⟩
end Go.AI
namespace Go.AI.Lx
open Go.Proofs Go.Proofs.YtkeaedhoaamfnaaGreatDoor
set_option maxRecDepth 10000
structure TK (lb : Nat) (I : Nat → List V → List Nat → S → Prop) : Prop where
 st : ∀ n c D, iA D (I n c D)
 go : ∀ n c D s tok, I n c D s → WF s → aA tok → tok.length = 4 → n ≤ 24 → (∀ g ∈ D, g < s.next) → ∃ s' D' u, lim au (.round lb [.agg tok]) s = some ⟨.returned (.bool true), u, s'⟩ ∧ Fw D s s' ∧ I (n + 1) (if n = 0 then tok else c) D' s' ∧ (∀ g ∈ D', g < s'.next ∧ (g ∈ D ∨ s.next ≤ g))
def SV (l : List Nat) (k a : Int) (m p0 : Nat) : Prop := 1 ≤ m ∧ (cy l p0 → k = 1) ∧ (¬ cy l p0 → rc l p0 = some (k, m)) ∧ (p0 = 0 ↔ plainAt l 0)
def SP (l : List Nat) (q n : Nat) (c : List V) : Prop :=
 (n = 0 ∧ (q = 0 ↔ plainAt l 0)) ∨ (∃ (k a : Int) (m p0 : Nat), c = [.int .i64 k, .int .i64 a, .str ((l.drop p0).take m), .int .i64 ((p0 : Nat) : Int)] ∧ SV l k a m p0 ∧ 1 ≤ n ∧ p0 + m + (n - 1) ≤ q ∧ q ≤ l.length)
section
variable {I : Nat → List V → List Nat → S → Prop} {l : List Nat} {s : S} {fs vb mm lb : Nat}
def UU (I : Nat → List V → List Nat → S → Prop) (n : Nat) (c : List V) (DY : List Nat) (cm : V) (n' : Nat) (cs : List V) (o : Option Nat) (s : S) : Prop := I n c DY s ∧ gx 295 2 s cm n' cs o ∧ ∀ g ∈ DY ++ o.toList, g < s.next
theorem UU.stb {n n' : Nat} {c cs : List V} {DY : List Nat} {cm : V} {o : Option Nat} (h : ∀ n c D, iA D (I n c D)) : iA (DY ++ o.toList) (UU I n c DY cm n' cs o) := fun s s' ⟨h1, h2, h3⟩ hk hn =>
 ⟨h n c DY s s' h1 (fun g hg B hB => hk g (by simp [hg]) B hB) hn, h2.keep (fun X B hX hB => hk X (by simp [hX]) B hB), fun g hg => Nat.lt_of_lt_of_le (h3 g hg) hn⟩
theorem OW (hb : Bytes l) (hl : l.length ≤ 24) (hI : ∀ n c D, iA D (I n c D)) {q n n' : Nat} {c cs : List V} {DY : List Nat} {cm : V} {o : Option Nat} {s1 : S} (hq : q ≤ l.length) (hw : WF s1) (hu : UU I n c DY cm n' cs o s1) (hg : s1.get fs = some (HZ l q mm cm)) (hn : n' ≤ q)
 (hX : ∀ X, o = some X → X ≠ fs ∧ X ∉ DY) (hf : fs ∉ DY) :
 (∃ q' cm' n2 cs2 o2 s', lim au (.call 203 [.ptr ⟨fs, 0, 0⟩] none) s1 = some ⟨.returned (.tuple []), none, s'⟩ ∧ q ≤ q' ∧ q' ≤ l.length ∧ (q' = q ↔ plainAt l q) ∧ n2 ≤ q' ∧ s'.get fs = some (HZ l q' mm cm') ∧ Fw ([fs] ++ (DY ++ o.toList)) s1 s' ∧
  UU I n c DY cm' n2 cs2 o2 s' ∧ (∀ g ∈ DY ++ o2.toList, g < s'.next ∧ (g ∈ DY ++ o.toList ∨ s1.next ≤ g)) ∧ (∀ X, o2 = some X → X ≠ fs ∧ X ∉ DY) ∧ cm'.one = true) ∨
 (∃ c' s', lim au (.call 203 [.ptr ⟨fs, 0, 0⟩] none) s1 = some ⟨.panicked c', none, s'⟩ ∧ pJ c' ∧ ¬ plainAt l q ∧ I n c DY s' ∧ Fw ([fs] ++ (DY ++ o.toList)) s1 s') := by
 obtain ⟨h1, h2, h3⟩ := hu
 have hsub : ∀ g ∈ fs :: o.toList, g ∈ [fs] ++ (DY ++ o.toList) := fun g hg => by
  simp only [List.mem_cons, List.mem_append] at hg ⊢
  rcases hg with rfl | hg
  ·simp
  ·simp [hg]
 have hkeep : ∀ s', Fw (fs :: o.toList) s1 s' → I n c DY s' := fun s' hfw => hI n c DY s1 s' h1 (fun g hgD B hB => hfw.keep g B (by
  intro hm
  simp only [List.mem_cons] at hm
  rcases hm with rfl | hm
  ·exact hf hgD
  ·cases o with
   | none => simp at hm
   | some X => simp at hm; subst hm; exact (hX g rfl).2 hgD) hB) hfw.next
 obtain ⟨out, hco, hout⟩ := RQ hb hl hq hw hg h2 hn (fun X hx => (hX X hx).1)
 rcases hout with ⟨v, s', rfl, rfl, q', cm', n2, cs2, o2, k1, k2, k3, k4, k5, k6, k7, k8⟩ | ⟨c', s', rfl, ⟨k1, k2⟩, k3⟩
 ·have hnx := k8.next
  have hw' := k8.wf hw
  refine .inl ⟨q', cm', n2, cs2, o2, s', hco, k1, k2, k3, k4, k5, k8.mono hsub, ⟨hkeep s' k8, k6, ?_⟩, ?_, ?_, k6.one⟩
  ·intro g hg'
   simp only [List.mem_append] at hg'
   rcases hg' with hg' | hg'
   ·exact Nat.lt_of_lt_of_le (h3 g (by simp [hg'])) hnx
   ·cases o2 with
    | none => simp at hg'
    | some X => simp at hg'; subst hg'; exact k6.lt hw'
  ·intro g hg'
   simp only [List.mem_append] at hg'
   rcases hg' with hg' | hg'
   ·exact ⟨Nat.lt_of_lt_of_le (h3 g (by simp [hg'])) hnx, .inl (by simp [hg'])⟩
   ·cases o2 with
    | none => simp at hg'
    | some X =>
     simp at hg'; subst hg'
     refine ⟨k6.lt hw', ?_⟩
     rcases (k7 g rfl).2 with h | h
     ·exact .inr h
     ·exact .inl (by simp [h])
  ·intro X hx
   refine ⟨(k7 X hx).1, fun hD => ?_⟩
   rcases (k7 X hx).2 with h | h
   ·have := h3 X (by simp [hD]); omega
   ·exact (hX X h).2 hD
 ·exact .inr ⟨c', s', hco, k1, k2, hkeep s' k3, k3.mono hsub⟩
theorem IJ {l : List Nat} : plainAt l l.length := ⟨Ci _ (Nat.le_refl _), by simp [gb]⟩
theorem Mr {q : Nat → Bool} (h : (List.range 256).all q = true) {c : Nat} (hc : c < 256) : q c = true := List.all_eq_true.1 h c (List.mem_range.2 hc)
theorem BV {c : Nat} (hc : c < 256) (h : dC c = true) : gV c = false := by
 have := Mr (q := fun c => !(dC c && gV c)) (by kernel_rfl) hc
 simp only [h, Bool.true_and, Bool.not_eq_true'] at this
 exact this
theorem sn : dC 39 = false := by kernel_rfl
theorem so : gV 39 = false := by kernel_rfl
theorem Bx : cG.all (fun w => dC (aC w 0)) = true := by kernel_rfl
theorem xY {n : Nat} (h : 1 ≤ n) : aC (l.take n) 0 = aC l 0 := by
 unfold aC
 rw [List.getElem?_take, if_pos (by omega)]
theorem zB (hb : Bytes l) (hl : l.length ≤ 24) : rc l 0 = Np l := by
 have hp := jJ hb 0
 have hne := pn l 0 (Nat.zero_le _)
 have hru := kr bH l 1
 unfold rc Np
 simp only [List.drop_zero, Nat.zero_add]
 by_cases h1 : dC (aC l 0) = true
 ·have h39 : aC l 0 ≠ 39 := fun h => by rw [h, sn] at h1; cases h1
  have hg := BV hp h1
  rw [if_pos h1, if_neg (fun h => h39 h.1), if_pos (.inl h1), if_neg (by omega), hg]
  simp [gO]
 ·by_cases h2 : gV (aC l 0) = true
  ·have h39 : aC l 0 ≠ 39 := fun h => by rw [h, so] at h2; cases h2
   have hw : l.take (bE l 0) ∉ cG := fun h => by
    have h3 := List.all_eq_true.1 Bx _ h
    by_cases h0 : 1 ≤ bE l 0
    ·simp only [xY h0] at h3; exact h1 h3
    ·rw [show bE l 0 = 0 by omega] at h3
     have h5 : dC (aC [] 0) = false := by kernel_rfl
     rw [List.take_zero, h5] at h3; cases h3
   rw [if_neg h1, if_pos h2, if_neg (fun h => h39 h.1), if_pos (.inr h2), if_neg (by omega), if_pos h2]
   simp [gO, hw]
  ·rw [if_neg h1, if_neg h2]
   by_cases h3 : aC l 0 = 39 ∧ dC (aC l 1) = true
   ·have h4 : 1 < l.length := by
     rcases Nat.lt_or_ge 1 l.length with h | h
     ·exact h
     ·have : aC l 1 = 0 := by unfold aC; rw [List.getElem?_eq_none h]; rfl
      rw [this] at h3
      have h5 := h3.2
      have h6 : dC 0 = false := by kernel_rfl
      rw [h6] at h5; cases h5
    have := hru (by omega)
    rw [if_pos h3, if_pos ⟨h3.1, h4, h3.2⟩, if_neg (by omega)]
   ·have h3' : ¬ (aC l 0 = 39 ∧ 1 < l.length ∧ dC (aC l 1) = true) := fun h => h3 ⟨h.1, h.2.2⟩
    have h12 : ¬ (dC (aC l 0) = true ∨ gV (aC l 0) = true) := fun h => h.elim h1 h2
    rw [if_neg h3, if_neg h3', if_neg h12]
    unfold GV
    by_cases h5 : gb l [61, 62] = true ∨ gb l [45, 62] = true
    ·have h6 : 0 + 1 < l.length ∧ ((l.drop 0).take 2 = [61, 62] ∨ (l.drop 0).take 2 = [45, 62]) := by
      rw [List.drop_zero]
      rcases h5 with h5 | h5
      ·simp [gb] at h5; exact ⟨by omega, .inl h5.2⟩
      ·simp [gb] at h5; exact ⟨by omega, .inr h5.2⟩
     rw [if_pos h5, if_pos h6]; rfl
    ·have h6 : ¬ (0 + 1 < l.length ∧ ((l.drop 0).take 2 = [61, 62] ∨ (l.drop 0).take 2 = [45, 62])) := fun ⟨h7, h8⟩ => h5 (by
      rw [List.drop_zero] at h8
      rcases h8 with h8 | h8
      ·exact .inl (by simp [gb, h8]; omega)
      ·exact .inr (by simp [gb, h8]; omega))
     rw [if_neg h5, if_neg h6]
     by_cases h7 : aC l 0 ∈ xQ
     ·rw [if_pos h7, if_pos h7]; rfl
     ·rw [if_neg h7, if_neg h7]; rfl
theorem Hp : plainAt l 0 ↔ (l = [] ∨ cj (aC l 0) = false) ∧ ¬ l.take 2 = [40, 42] := by
 unfold plainAt
 rw [List.drop_zero]
 constructor
 ·rintro ⟨h1, h2⟩
  refine ⟨?_, fun h => ?_⟩
  ·cases l with
   | nil => exact .inl rfl
   | cons c r =>
    refine .inr ?_
    cases hc : cj (aC (c :: r) 0) with
    | false => rfl
    | true => have := uF (l := c :: r) (p := 0) (by simp) hc; omega
  ·have h3 := congrArg List.length h
   rw [List.length_take] at h3
   simp at h3
   simp [gb, h] at h2; omega
 ·rintro ⟨h1, h2⟩
  refine ⟨?_, ?_⟩
  ·rcases h1 with rfl | h1
   ·rfl
   ·unfold aQ
    rw [List.drop_zero]
    cases l with
    | nil => rfl
    | cons c r =>
     have h3 : cj c = false := h1
     simp [List.takeWhile, h3]
  ·simp [gb, h2]
theorem jN (h : ¬ plainAt l 0) : aK l = 0 := by
 rw [Hp] at h
 refine yi ?_
 by_cases h0 : l = []
 ·exact .inl (by simp [h0])
 ·by_cases h1 : cj (aC l 0) = true
  ·exact .inr (.inl h1)
  ·by_cases h2 : l.take 2 = [40, 42]
   ·exact .inr (.inr h2)
   ·exact absurd ⟨.inr (by simpa using h1), h2⟩ h
theorem vw (h : cy l 0) : aK l = 0 := by
 unfold aK; rw [if_pos (.inr (.inr (.inr (.inr h))))]
theorem IX (hb : Bytes l) (hl : l.length ≤ 24) (h : ¬ cy l 0 → rc l 0 = none) : aK l = 0 := by
 by_cases hn : cy l 0
 ·exact vw hn
 ·have := h hn
  rw [zB hb hl] at this
  unfold aK; rw [this]; split <;> rfl
theorem pq (hb : Bytes l) (hl : l.length ≤ 24) {k a : Int} {m p0 : Nat} (h : SV l k a m p0) (hm : p0 + m < l.length) : aK l = 0 := by
 obtain ⟨h1, h2, h3, h4⟩ := h
 by_cases hp : plainAt l 0
 ·have := h4.2 hp; subst this
  by_cases hn : cy l 0
  ·exact vw hn
  ·have h5 := h3 hn
   rw [zB hb hl] at h5
   unfold aK; rw [h5]; split
   ·rfl
   ·exact if_neg (by omega)
 ·exact jN hp
theorem LD (hb : Bytes l) (hl : l.length ≤ 24) {n : Nat} {c : List V} (h : SP l l.length n c) :
 (n ≠ 1 ∧ aK l = 0) ∨ ∃ (k a : Int) (x : List Nat) (p0 : Nat), c = [.int .i64 k, .int .i64 a, .str x, .int .i64 ((p0 : Nat) : Int)] ∧ 1 ≤ n ∧ (∀ z ∈ x, z < 256) ∧ (n ≠ 1 ∨ x ≠ l → aK l = 0) ∧ (n = 1 → x = l → wz l (.int .i64 k)) := by
 rcases h with ⟨rfl, h⟩ | ⟨k, a, m, p0, rfl, hf, hn, hm, -⟩
 ·refine .inl ⟨by omega, ?_⟩
  by_cases h0 : l.length = 0
  ·exact yi (.inl h0)
  ·exact jN (fun hp => h0 (h.2 hp))
 ·refine .inr ⟨k, a, _, p0, rfl, hn, fun z hz => hb z (List.mem_of_mem_drop (List.mem_of_mem_take hz)), ?_, ?_⟩
  ·intro hx
   by_cases hlt : p0 + m < l.length
   ·exact pq hb hl hf hlt
   ·rcases hx with hx | hx
    ·omega
    ·by_cases hp : plainAt l 0
     ·have := hf.2.2.2.2 hp; subst this
      exact absurd (by rw [List.drop_zero, List.take_of_length_le (by omega)]) hx
     ·exact jN hp
  ·intro hn1 hx
   have h1 := congrArg List.length hx
   rw [List.length_take, List.length_drop] at h1
   have h0 : p0 = 0 := by omega
   subst h0
   obtain ⟨h3, h4, h5, h6⟩ := hf
   have hp : plainAt l 0 := h6.1 rfl
   refine ⟨k, rfl, ?_⟩
   by_cases hnm : cy l 0
   ·exact .inr ⟨hnm, h4 hnm⟩
   ·left
    have h7 := h5 hnm
    rw [zB hb hl] at h7
    rw [Hp] at hp
    have h8 : ¬ (l.length = 0 ∨ 24 < l.length ∨ cj (aC l 0) = true ∨ l.take 2 = [40, 42] ∨ tG l) := by
     rintro (h | h | h | h | h)
     ·omega
     ·omega
     ·rcases hp.1 with h9 | h9
      ·subst h9; rw [List.length_nil] at hm; omega
      ·rw [h9] at h; cases h
     ·exact hp.2 h
     ·exact hnm h
    unfold aK; rw [if_neg h8, h7]; simp only []; rw [if_pos (by omega)]
def QS (I : Nat → List V → List Nat → S → Prop) (l : List Nat) (W : List Nat) (s : S) : cX → Prop :=
 RP (fun v s' => v = .tuple [] ∧ ∃ n c D, SP l l.length n c ∧ I n c D s' ∧ Fw W s s' ∧ ∀ g ∈ D, s.next ≤ g ∨ g ∈ W) (fun c s' => pJ c ∧ aK l = 0 ∧ (∃ n c D, I n c D s') ∧ Fw W s s')
theorem RF (hb : Bytes l) (hl : l.length ≤ 24) (hY : TK lb I) {DY : List Nat} {c0 : List V} (hI : I 0 c0 DY s) (hD : ∀ g ∈ DY, g < s.next ∧ g ≠ vb ∧ g ≠ fs) (hw : WF s) (hG : cF s) (hne : vb ≠ fs)
 (hv : s.get vb = some (.cells 170 false 1 [⟨0, 0, [.ptr ⟨fs, 0, 0⟩]⟩])) (hg : s.get fs = some (HZ l 0 mm .nilslice)) {n0 clk : Nat} (hmm : s.get mm = some (.map (bK cG n0) clk)) (hmF : mm ∉ [vb, fs] ++ DY) :
 Co au 202 [.func (.yield lb) [] [], .ptr ⟨vb, 0, 0⟩] s (QS I l ([vb, fs] ++ DY) s) := by
 have hlt : ∀ g B, s.get g = some B → g < s.next := hw
 have hfs : fs ∉ DY := fun h => (hD fs h).2.2 rfl
 have hkm : ∀ s1, Fw ([vb, fs] ++ DY) s s1 → s1.get mm = some (.map (bK cG n0) clk) := fun s1 k1 => k1.keep mm _ hmF hmm
 have hmf : mm ≠ fs := fun h => hmF (by subst h; simp)
 refine bb (C := yQ) (e := ⟨[.func (.yield lb) [] [], .str l, .int .i64 ((0 : Nat) : Int), .map mm, .nilslice], [vb, fs]⟩) (F := [vb, fs] ++ DY) (D := DY ++ (none : Option Nat).toList) (U := UU I 0 c0 DY .nilslice 0 [] none) rfl Tryz.func202 rfl (by kernel_rfl) Ir rfl ⟨rfl, rfl, rfl⟩ rfl hw ?_ ?_ ⟨hv, hg, trivial⟩ (UU.stb hY.st) ⟨hI, .nil, fun g hg => (hD g (by simpa using hg)).1⟩ ?_ ?_
 ·simp [iM, hne]
 ·intro b hb; simp at hb ⊢; omega
 ·intro g hg'
  have := hD g (by simpa using hg')
  refine ⟨this.1, by simp at hg' ⊢; exact .inr (.inr hg'), ?_⟩
  simp only [List.mem_cons, List.not_mem_nil, or_false]
  omega
 refine ec fun s1 k1 k2 k3 k4 => ?_
 rcases OW (fs := fs) hb hl hY.st (q := 0) (Nat.zero_le _) k2 k3 k4.1 (Nat.zero_le _) (fun X hX => by cases hX) hfs with ⟨q, cm, n2, cs, o, s2, j1, j2, j3, j4, j5, j6, j7, j8, j9, j10, j11⟩ | ⟨c', s2, j1, j2, j3, j4, j5⟩
 rotate_left
 ·refine .inr ⟨rfl, c', s2, j1, .inr ⟨_, _, rfl, j2, jN j3, ⟨_, _, _, j4⟩, k1.andThen hw j5 ?_⟩⟩
  intro g hg'
  simp only [List.mem_append, List.mem_cons, List.not_mem_nil, or_false, Option.toList] at hg' ⊢
  rcases hg' with h | h <;> simp [h]
 refine .inl ⟨[.int .i64 ((q : Nat) : Int), cm], _, s2, DY ++ o.toList, UU I 0 c0 DY cm n2 cs o, inferInstance, rfl, by simp [aA, j11, fD], j1, j7, ⟨j6, trivial⟩, UU.stb hY.st, j8, j9, ?_⟩
 refine jP (fun j vs bs D U => ∃ (q n n2 : Nat) (c cs : List V) (DY' : List Nat) (cm : V) (o : Option Nat), j = l.length - q ∧ vs = [.func (.yield lb) [] [], .str l, .int .i64 ((q : Nat) : Int), .map mm, cm] ∧ bs = [vb, fs] ∧ D = DY' ++ o.toList ∧ U = UU I n c DY' cm n2 cs o ∧
  q ≤ l.length ∧ n2 ≤ q ∧ n ≤ q ∧ SP l q n c ∧ (∀ X, o = some X → X ≠ fs ∧ X ∉ DY') ∧ fs ∉ DY' ∧ (∀ g ∈ DY' ++ o.toList, s.next ≤ g ∨ g ∈ [vb, fs] ++ DY) ∧ cm.one = true) (l.length - q) ⟨q, 0, n2, c0, cs, DY, cm, o, rfl, rfl, rfl, rfl, rfl, j3, j5, Nat.zero_le _, .inl ⟨rfl, j4⟩, j10, hfs, ?_, j11⟩ (UU.stb hY.st) ?_
 ·intro g hg'
  rcases (j9 g hg').2 with h | h
  ·exact .inr (by simp at h ⊢; exact .inr (.inr h))
  ·exact .inl (Nat.le_trans k1.next h)
 clear j1 j2 j3 j4 j5 j6 j7 j8 j9 j10 j11 k1 k2 k3 k4 s1 s2 q cm n2 cs o
 rintro j _ _ _ _ ⟨q, n, n2, c, cs, D, cm, o, rfl, rfl, rfl, rfl, rfl, hq, hn2, hn, hR, hX, hfD, hDn, hcm⟩ - - -
 refine Ft rfl Tryz.underlying9 rfl rfl ?_
 refine jO rfl rfl rfl ?_
 refine dA rfl (fun c1 => ?_) (fun c1 => ?_)
 ·have hql : q < l.length := by omega
  refine ec fun s1 k1 k2 k3 k4 => ?_
  obtain ⟨out, hco, hout⟩ := Nn hb hl hql hcm k2 (hG.keep k1.ro) k4.1 (hkm s1 k1) hmf
  rcases hout with ⟨v, s2, rfl, ⟨k, a, m, t1, t2, rfl, t3, t4⟩, t5⟩ | ⟨c', s2, rfl, ⟨t1, t2⟩, t5⟩
  rotate_left
  ·refine .inr ⟨rfl, c', s2, hco, .inr ⟨_, _, rfl, t1, ?_, ⟨n, c, D, hY.st _ _ _ _ _ k3.1 (fun g _ B hB => t5.keep g B (by simp) hB) t5.next⟩, k1.trans (t5.mono (by simp))⟩⟩
   rcases hR with ⟨rfl, h0⟩ | ⟨k, a, m, p0, rfl, hf, hn1, hm, _⟩
   ·by_cases hp : plainAt l 0
    ·have := h0.2 hp; subst this
     exact IX hb hl t2
    ·exact jN hp
   ·exact pq hb hl hf (by omega)
  refine .inl ⟨[.int .i64 k, .int .i64 a, .str ((l.drop q).take m), .int .i64 ((q : Nat) : Int)], _, s2, D ++ o.toList, UU I n c D cm n2 cs o, inferInstance, rfl, rfl, hco, t5.mono (by simp), trivial, UU.stb hY.st, UU.stb hY.st _ _ k3 (fun g _ B hB => t5.keep g B (by simp) hB) t5.next, fun g hg' => ⟨Nat.lt_of_lt_of_le (k3.2.2 g hg') t5.next, .inl hg'⟩, ?_⟩
  have hml : ((l.drop q).take m).length = m := by rw [List.length_take, List.length_drop]; omega
  refine bd fun b1 hb1 hd1 => ?_
  refine Ft rfl Tryz.underlying9 rfl rfl ?_
  rw [hml]
  refine ed (r := ((q + m : Nat) : Int)) rfl rfl (by rw [show ((q : Nat) : Int) + ((m : Nat) : Int) = ((q + m : Nat) : Int) by omega]; exact bJ _ ⟨by omega, by omega⟩) rfl ?_
  have hfsg : ∀ s1, Fw ([vb, fs] ++ DY) s s1 → fs < s1.next := fun s1 k1 => Nat.lt_of_lt_of_le (hw fs _ hg) k1.next
  refine HG fun s1 k1 k2 k3 k4 => ?_
  obtain ⟨s2, D', u, y1, y2, y3, y4⟩ := hY.go n c D s1 [.int .i64 k, .int .i64 a, .str ((l.drop q).take m), .int .i64 ((q : Nat) : Int)] k3.1 k2 rfl rfl (by omega) (fun g hg' => k3.2.2 g (by simp [hg']))
  have hX' : ∀ X, o = some X → X < s1.next := fun X hx => k3.2.2 X (by simp [hx])
  have hG2 : gx 295 2 s2 cm n2 cs o := k3.2.1.fw y2 (fun X hx => (hX X hx).2)
  have hb2 : ∀ g ∈ D' ++ o.toList, g < s2.next ∧ (g ∈ D ++ o.toList ∨ s1.next ≤ g) := by
   intro g hg'
   simp only [List.mem_append] at hg' ⊢
   rcases hg' with hg' | hg'
   ·rcases y4 g hg' with ⟨h1, h2 | h2⟩
    ·exact ⟨h1, .inl (.inl h2)⟩
    ·exact ⟨h1, .inr h2⟩
   ·refine ⟨?_, .inl (.inr hg')⟩
    cases o with
    | none => simp at hg'
    | some X => simp at hg'; subst hg'; exact Nat.lt_of_lt_of_le (hX' g rfl) y2.next
  refine ⟨[.bool true], _, s2, D' ++ o.toList, UU I (n + 1) (if n = 0 then [.int .i64 k, .int .i64 a, .str ((l.drop q).take m), .int .i64 ((q : Nat) : Int)] else c) D' cm n2 cs o, inferInstance, rfl, rfl, .inr ⟨lb, [], [], u, rfl, y1⟩, y2.mono (fun g hg' => by simp [hg']), UU.stb hY.st, ⟨y3, hG2, fun g hg' => (hb2 g hg').1⟩, hb2, ?_⟩
  have hX2 : ∀ X, o = some X → X ≠ fs ∧ X ∉ D' := fun X hx => ⟨(hX X hx).1, fun hd => by
   rcases (y4 X hd).2 with h | h
   ·exact (hX X hx).2 h
   ·have := hX' X hx; omega⟩
  have hf2 : fs ∉ D' := fun hd => by
   rcases (y4 fs hd).2 with h | h
   ·exact hfD h
   ·have := hfsg s1 k1; omega
  have hDn2 : ∀ g ∈ D' ++ o.toList, s.next ≤ g ∨ g ∈ [vb, fs] ++ DY := fun g hg' => by
   rcases (hb2 g hg').2 with h | h
   ·exact hDn g h
   ·exact .inl (Nat.le_trans k1.next h)
  have hR2 : SP l (q + m) (n + 1) (if n = 0 then [.int .i64 k, .int .i64 a, .str ((l.drop q).take m), .int .i64 ((q : Nat) : Int)] else c) := by
   rcases hR with ⟨rfl, h0⟩ | ⟨k', a', m', p0, rfl, hf, hn1, hm, hq'⟩
   ·exact .inr ⟨k, a, m, q, rfl, ⟨t1, t3, t4, h0⟩, by omega, by omega, by omega⟩
   ·exact .inr ⟨k', a', m', p0, by rw [if_neg (by omega)], hf, by omega, by omega, by omega⟩
  refine fl rfl rfl ?_
  refine aI (q := false) rfl (fun h => by cases h) (fun _ => ?_)
  clear y1 y2 y3 y4 hG2 hb2 k1 k2 k3 k4 hX' hX hfD hDn hco t5
  revert hX2 hf2 hDn2 hR2
  generalize (if n = 0 then [V.int .i64 k, .int .i64 a, .str ((l.drop q).take m), .int .i64 ((q : Nat) : Int)] else c) = c2
  intro hX2 hf2 hDn2 hR2
  refine ec fun s1 k1 k2 k3 k4 => ?_
  rcases OW (fs := fs) hb hl hY.st (q := q + m) t2 k2 k3 k4.1 (by omega) hX2 hf2 with ⟨q', cm', n3, cs', o', s2, j1, j2, j3, j4, j5, j6, j7, j8, j9, j10, j11⟩ | ⟨c', s2, j1, j2, j3, j4, j5⟩
  rotate_left
  ·refine .inr ⟨rfl, c', s2, j1, .inr ⟨_, _, rfl, j2, ?_, ⟨_, _, _, j4⟩, k1.andThen hw j5 ?_⟩⟩
   ·rcases hR2 with ⟨h, _⟩ | ⟨k', a', m', p0, rfl, hf, hn1, hm, hq'⟩
    ·omega
    ·have : q + m ≠ l.length := fun h => j3 (by rw [h]; exact IJ)
     exact pq hb hl hf (by omega)
   ·intro g hg'
    rw [List.mem_append] at hg'
    rcases hg' with h | h
    ·exact .inr (by simp at h ⊢; exact .inr (.inl h))
    ·exact hDn2 g h
  refine .inl ⟨[.int .i64 ((q' : Nat) : Int), cm'], _, s2, D' ++ o'.toList, UU I (n + 1) c2 D' cm' n3 cs' o', inferInstance, rfl, by simp [aA, j11, fD], j1, j7, ⟨j6, trivial⟩, UU.stb hY.st, j8, j9, ?_⟩
  refine kT rfl (UU.stb hY.st) ⟨l.length - q', by omega, q', n + 1, n3, c2, cs', D', cm', o', rfl, rfl, rfl, rfl, rfl, j3, j5, by omega, ?_, j10, hf2, ?_, j11⟩
  ·rcases hR2 with ⟨h, _⟩ | ⟨k', a', m', p0, rfl, hf, hn1, hm, hq'⟩
   ·omega
   ·exact .inr ⟨k', a', m', p0, rfl, hf, hn1, by omega, j3⟩
  ·intro g hg'
   rcases (j9 g hg').2 with h | h
   ·exact hDn2 g h
   ·exact .inl (Nat.le_trans k1.next h)
 ·exact aE fun s1 k1 k2 k3 k4 => by
   have : q = l.length := by omega
   subst this
   exact .inl ⟨_, _, rfl, rfl, n, c, D, hR, k3.1, k1, fun g hg => hDn g (by simp [hg])⟩
end
end Go.AI.Lx
namespace Go.AI.Lx
open Go.Proofs Go.Proofs.YtkeaedhoaamfnaaGreatDoor
def Gv : List aH := [⟨3, [(3, false), (11, false), (12, true)], []⟩]
def FY : Code := match Tryz.f154.body with | some c => c | none => .skip
def yV : gX := ⟨au, Tryz.f154, Gv, [], [], 0⟩
def Eo : aB := .act .makeMap [] 1 1 (.new (.loop 0 5 [iV 0, 0, iV 0, 1, nS] [0] [cB 274 [1, 2, 3, 4]] (aT (.bin .lss 3 true 0 (iV 15)) 5 (.cond 5 (aT (.index 275 (.agg [.str [97, 110, 100], .str [99, 97, 115, 101], .str [100, 97, 116, 97], .str [101, 108, 115, 101], .str [101, 110, 100], .str [102, 110], .str [102, 117, 110], .str [105, 102], .str [105, 110], .str [105, 110, 112, 117, 116], .str [108, 101, 116], .str [111, 102], .str [111, 117, 116, 112, 117, 116], .str [116, 104, 101, 110], .str [118, 97, 108]]) 0) 6 (.act (.mapUpd 86 3 6 (iV 5)) [] 0 (.tuple []) (aT (.bin .add 3 true 0 (iV 1)) 7 (.back 0 [7, 1, 2, 3, 4] [0])))) (.ret (.ptr ⟨0, 0, 0⟩) [(0, cB 274 [1, 2, 3, 4])])))))
theorem Ix : cb yV 400 [] [.code FY] (bi [.atom 0] 0 .leaf id) (br ⟨.leaf, 0⟩ []) 1 = some Eo := by kernel_rfl
def Gr : List aH := []
def FU : Code := match Tryz.f156.body with | some c => c | none => .skip
def yR : gX := ⟨au, Tryz.f156, Gr, [], [], 0⟩
def Ek : aB := .new (.ret (.func (.func 202) [] [.ptr ⟨0, 0, 0⟩]) [(0, cB 170 [0])])
theorem Is : cb yR 400 [] [.code FU] (bi [.atom 0] 0 .leaf id) (br ⟨.leaf, 0⟩ []) 1 = some Ek := by kernel_rfl
end Go.AI.Lx
