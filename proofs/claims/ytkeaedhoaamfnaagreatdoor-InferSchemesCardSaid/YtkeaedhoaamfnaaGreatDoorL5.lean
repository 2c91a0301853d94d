/- What the functions answer in the evaluator: part 5. No conditions beyond those of the row. -/
import Derived.Test.YtkeaedhoaamfnaaGreatDoorL4
import Derived.Test.YtkeaedhoaamfnaaGreatDoorA11
set_option linter.unusedVariables false
set_option linter.unusedSimpArgs false
noncomputable section
namespace Go.AI.Lx
open Go.Proofs Go.Proofs.YtkeaedhoaamfnaaGreatDoor
theorem Hp : size Tryz.prog 272 = some 1 := by kernel_rfl
theorem LP : fK Tryz.prog 272 = some false := by kernel_rfl
theorem VO (s : S) (a : Ad) : loadVar Tryz.prog s 272 a = cO s a := by simp only [loadVar, LP]
theorem VB (s : S) (a : Ad) (v : V) (h : v.cells = [v]) : storeVar Tryz.prog s 272 a v = storeCells s a [v] := by
 simp only [storeVar, Hp, h]; rfl
theorem Te (args : List V) (s : S) : gc aq 235 args s = some (.enter 235 args s) := by kernel_rfl
theorem Tc (args : List V) (s : S) : gc aq 237 args s = some (.enter 237 args s) := by kernel_rfl
theorem Vj (s : S) (x0 x1 : V) : bz Tryz.prog s 272 1 (some [(0, .agg [x0, x1])]) = some (.val (.slice ⟨s.next, 0, 0⟩ 0 1 (some 1) 2) (s.alloc (.cells 295 false 1 [⟨0, 0, [x0, x1]⟩]))) := by kernel_rfl
set_option maxRecDepth 10000
set_option maxHeartbeats 2000000
theorem _root_.Go.AI.Me.callX {F : List Nat} {s0 s s' : S} {m : List (Nat × bZ)} (h : Me F s0 s m) {X : Nat} (hf : Fw [X] s s') (hX : s0.next ≤ X ∨ X ∈ F) (hm : ∀ x ∈ m, x.1 ≠ X) : Me F s0 s' m := by
 refine ⟨h.wf0, ?_, h.own.keep fun x hx => hf.keep _ _ (by simpa using hm x hx) (h.own.mem hx), h.hi⟩
 rcases hX with hh | hh
 ·have h1 : Fw (X :: F) s0 s' := (h.fw.mono (fun g hg => List.mem_cons_of_mem _ hg)).trans (hf.mono (fun g hg => by simp at hg; subst hg; simp))
  exact h1.drop hh h.wf0
 ·exact h.fw.trans (hf.mono (fun g hg => by simp at hg; subst hg; exact hh))
theorem TG : Bd Tryz.prog 272 295 2 := ⟨by kernel_rfl, by kernel_rfl, by kernel_rfl, by kernel_rfl, by kernel_rfl⟩
def plainAt (l : List Nat) (p : Nat) : Prop := aV cb l p = 0 ∧ gG (l.drop p) [40, 42] = false
theorem VL {fs : Nat} {e : TypeId} {sb : Bool} {nv : Nat} {l : List Nat} {p : Nat} {mm : Nat} {cm : V} {n : Nat} {cs : List V} {o : Option Nat} (hb : Bytes l) (hl : l.length ≤ 24) (hp : p ≤ l.length) {s : S} (hw : WF s) (hg : s.get fs = some (QQ e sb nv l p mm cm))
 (hG : gQ 295 2 s cm n cs o) (hn : n ≤ p) (hX : ∀ X, o = some X → X ≠ fs) :
 Co aq 203 [.ptr ⟨fs, 0, 0⟩] s (RP (fun v s' => v = .tuple [] ∧ ∃ q cm' n' cs' o', p ≤ q ∧ q ≤ l.length ∧ (q = p ↔ plainAt l p) ∧ n' ≤ q ∧ s'.get fs = some (QQ e sb nv l q mm cm') ∧ gQ 295 2 s' cm' n' cs' o' ∧ (∀ X, o' = some X → X ≠ fs ∧ (s.next ≤ X ∨ o = some X)) ∧ Fw (fs :: o.toList) s s') (fun c s' => (qJ c ∧ ¬ plainAt l p) ∧ Fw (fs :: o.toList) s s')) := by
 refine rX (fn := Tryz.f203) rfl Tryz.func203 rfl (by kernel_rfl) ?_
 rw [bc, dB]
 have hm := Me.start1 (F := fs :: o.toList) hw (by simp) hg (fun _ h => by cases h)
 have g1 := hm.at 0 rfl
 have hXF : ∀ X, o = some X → X ∈ fs :: o.toList := fun X h => by rw [h]; simp
 refine ce ?_
 refine gR (fun j t s1 => ∃ (q n1 : Nat) (cm1 : V) (cs1 : List V) (o1 : Option Nat), j = l.length - q ∧ p ≤ q ∧ q ≤ l.length ∧ (q = p ∨ (p < q ∧ ¬ plainAt l p)) ∧ n1 ≤ q ∧ Me (fs :: o.toList) s s1 [(fs, QQ e sb nv l q mm cm1)] ∧ gQ 295 2 s1 cm1 n1 cs1 o1 ∧ (∀ X, o1 = some X → X ≠ fs ∧ (s.next ≤ X ∨ o = some X)) ∧ t.get (eV 0) = some (.ptr ⟨fs, 0, 0⟩)) ?_ _ _ _ ⟨p, n, cm, cs, o, rfl, Nat.le_refl _, hp, .inl rfl, hn, hm, hG, fun X h => ⟨hX X h, .inr h⟩, ?_⟩
 rotate_left
 ·simp only [ab, reduceIte] <;> rfl
 rintro j t s1 ⟨q, n1, cm1, cs1, o1, hj, hpq, hq, hq1, hn1, hm, hG1, hX1, l0⟩ hnext
 have gq := hm.at 0 rfl
 have hr := iT cb l q hq
 cases hs : gG (l.drop (q + aV cb l q)) [40, 42] with
 | false =>
  skip
  refine ce ?_
  repeat refine aM ?_
  obtain ⟨_, _, call2, rfl, rfl⟩ := MF (g := 235) (q := cb) rfl Te (k := 0) hb (by omega) (by omega) gq
  have call2 := iQ call2
  rw [show ((0 : Nat) : Int) = 0 from rfl, Nat.add_zero] at call2
  have hw3 : IntKind.wrap .i64 (((q : Nat) : Int) + ((aV cb l q : Nat) : Int)) = ((q + (aV cb l q) : Nat) : Int) := by have := aY (((q : Nat) : Int) + ((aV cb l q : Nat) : Int)) ⟨by omega, by omega⟩; omega
  have hm4 := hm.put 0 rfl (B' := .cells e sb nv [⟨0, 0, [.str l, .int .i64 ((q + (aV cb l q) : Nat) : Int), .map mm, cm1]⟩]) (fun _ h => by cases h)
  simp only [List.set_cons_zero] at hm4
  refine gd (t' := ?t5) (ds' := ?d5) (up' := ?u5) (s' := ?s5) [(some 1, 5), (some 1, 6), (some 1, 7), (none, 8), (some 2, 0), (some 2, 1), (some 2, 2), (some 2, 3), (some 2, 4), (some 1, 9), (some 1, 10), (some 1, 11), (some 1, 12), (none, 13)] (by kernel_rfl) (by kernel_rfl) ?h5 ?k5
  case h5 =>
   simp only [cH, ef, ii, cI, eY, bC, bQ, ey, dC, dT, aS, dX, gJ, jj, ku, cK, cg, bD, cJ, bN, kJ, iU, aC, List.take_succ_cons, List.take_zero, List.take_nil, jo, sg, jf, dt, aZ, du, ac, aG, ah, cz, dq, ab, eu, Nat.reduceEqDiff, reduceIte, ag, bB, fA, List.nil_append, List.append_nil, Nat.zero_add, Nat.add_zero, evals, jT, List.getElem?_toArray, List.getElem?_cons_zero, List.getElem?_cons_succ, cw, bd, eg, cond_true, cond_false, bt, bH, aU, decide_true, di, aJ, dL, call2, Tf, ek, CG, wO gq, aX, hw3, VA _ _ (.int .i64 ((q + (aV cb l q) : Nat) : Int)) rfl, EL gq 1 [.int .i64 ((q + (aV cb l q) : Nat) : Int)] (rfl) rfl, l0]
   exact rfl
  case k5 =>
  have hm := hm4
  have hGe := hG1.fw (Fw.put (F := [fs]) (by simp) gq (fun _ h => by cases h) (QQ e sb nv l (q + aV cb l q) mm cm1)) (fun X h => by have := (hX1 X h).1; simpa using this)
  generalize hs5 : S.put s1 fs _ = s6 at hm hGe ⊢
  have g7 := hm.at 0 rfl
  repeat refine aM ?_
  obtain ⟨_, _, call8, rfl, rfl⟩ := jE hb (by omega) hr [40, 42] (fun z hz => by simp at hz; omega) g7
  have call8 := iQ call8
  refine ar (t' := ?t9) (ds' := ?d9) (up' := ?u9) (s' := ?s9) (by kernel_rfl) ?h9 ?k9
  case h9 =>
   simp only [ae, aL, af, al, bR, cu, ac, aG, ah, dq, ab, Nat.reduceEqDiff, reduceIte, ag, bB, fA, Nj, pu, Bool.not_false, List.nil_append, List.append_nil, Nat.add_zero, evals, jT, aJ, dL, lR, hs, call8, xP, l0]
   exact rfl
  case k9 =>
  refine ck true (by simp only [ah, ab, Nat.reduceEqDiff, reduceIte]) (fun _ => ?_) (fun h => by cases h)
  refine Kt (.tuple []) rfl ⟨rfl, q + aV cb l q, cm1, n1, cs1, o1, by omega, hr, ?_, by omega, hm.at 0 rfl, hGe, hX1, hm.fw⟩
  rcases hq1 with rfl | ⟨h1, h2⟩
  ·constructor
   ·intro h
    have h0 : aV cb l q = 0 := by omega
    rw [h0] at hs
    exact ⟨h0, hs⟩
   ·rintro ⟨h0, _⟩; omega
  ·exact ⟨fun h => by omega, fun h => absurd h h2⟩
 | true =>
  skip
  refine ce ?_
  repeat refine aM ?_
  obtain ⟨_, _, call10, rfl, rfl⟩ := MF (g := 235) (q := cb) rfl Te (k := 0) hb (by omega) (by omega) gq
  have call10 := iQ call10
  rw [show ((0 : Nat) : Int) = 0 from rfl, Nat.add_zero] at call10
  have hw11 : IntKind.wrap .i64 (((q : Nat) : Int) + ((aV cb l q : Nat) : Int)) = ((q + (aV cb l q) : Nat) : Int) := by have := aY (((q : Nat) : Int) + ((aV cb l q : Nat) : Int)) ⟨by omega, by omega⟩; omega
  have hm12 := hm.put 0 rfl (B' := .cells e sb nv [⟨0, 0, [.str l, .int .i64 ((q + (aV cb l q) : Nat) : Int), .map mm, cm1]⟩]) (fun _ h => by cases h)
  simp only [List.set_cons_zero] at hm12
  refine gd (t' := ?t13) (ds' := ?d13) (up' := ?u13) (s' := ?s13) [(some 1, 5), (some 1, 6), (some 1, 7), (none, 8), (some 2, 0), (some 2, 1), (some 2, 2), (some 2, 3), (some 2, 4), (some 1, 9), (some 1, 10), (some 1, 11), (some 1, 12), (none, 13)] (by kernel_rfl) (by kernel_rfl) ?h13 ?k13
  case h13 =>
   simp only [cH, ef, ii, cI, eY, bC, bQ, ey, dC, dT, aS, dX, gJ, jj, ku, cK, cg, bD, cJ, bN, kJ, iU, aC, List.take_succ_cons, List.take_zero, List.take_nil, jo, sg, jf, dt, aZ, du, ac, aG, ah, cz, dq, ab, eu, Nat.reduceEqDiff, reduceIte, ag, bB, fA, List.nil_append, List.append_nil, Nat.zero_add, Nat.add_zero, evals, jT, List.getElem?_toArray, List.getElem?_cons_zero, List.getElem?_cons_succ, cw, bd, eg, cond_true, cond_false, bt, bH, aU, decide_true, di, aJ, dL, call10, Tf, ek, CG, wO gq, aX, hw11, VA _ _ (.int .i64 ((q + (aV cb l q) : Nat) : Int)) rfl, EL gq 1 [.int .i64 ((q + (aV cb l q) : Nat) : Int)] (rfl) rfl, l0]
   exact rfl
  case k13 =>
  have hm := hm12
  have hGe := hG1.fw (Fw.put (F := [fs]) (by simp) gq (fun _ h => by cases h) (QQ e sb nv l (q + aV cb l q) mm cm1)) (fun X h => by have := (hX1 X h).1; simpa using this)
  generalize hs13 : S.put s1 fs _ = s14 at hm hGe ⊢
  have g15 := hm.at 0 rfl
  repeat refine aM ?_
  obtain ⟨_, _, call16, rfl, rfl⟩ := jE hb (by omega) hr [40, 42] (fun z hz => by simp at hz; omega) g15
  have call16 := iQ call16
  refine ar (t' := ?t17) (ds' := ?d17) (up' := ?u17) (s' := ?s17) (by kernel_rfl) ?h17 ?k17
  case h17 =>
   simp only [ae, aL, af, al, bR, cu, ac, aG, ah, dq, ab, Nat.reduceEqDiff, reduceIte, ag, bB, fA, Nj, pu, Bool.not_true, List.nil_append, List.append_nil, Nat.add_zero, evals, jT, aJ, dL, lR, hs, call16, xP, l0]
   exact rfl
  case k17 =>
  refine ck false (by simp only [ah, ab, Nat.reduceEqDiff, reduceIte]) (fun h => by cases h) (fun _ => ?_)
  refine iR ?_
  repeat refine aM ?_
  refine ar (t' := ?t18) (ds' := ?d18) (up' := ?u18) (s' := ?s18) (by kernel_rfl) ?h18 ?k18
  case h18 =>
   simp only [aZ, ae, aL, af, al, ac, aG, ah, ab, Nat.reduceEqDiff, reduceIte, ag, Nat.zero_add, Nat.add_zero, jT, List.getElem?_cons_zero, List.getElem?_cons_succ, aJ, dL, ek, CG, wO g15, l0]
   exact rfl
  case k18 =>
  have hnp : ¬ plainAt l p := by
   rcases hq1 with rfl | ⟨_, h2⟩
   ·rintro ⟨h0, h1⟩; rw [h0, Nat.add_zero] at hs; rw [hs] at h1; cases h1
   ·exact h2
  obtain ⟨out, hco, hq⟩ := Qb hb hl hs hm.wf g15
  rcases hq with ⟨_, u1, rfl, rfl, q2, hq21, hq22, gu, fwu⟩ | ⟨c, u1, rfl, hthr, fwu⟩
  ·have call : bI (lim aq) 237 [.ptr ⟨fs, 0, 0⟩] none s14 = some ⟨.returned (.tuple []), none, u1⟩ := hco
   have hm := hm.call1 0 rfl (fun _ h => by cases h) fwu gu
   simp only [List.set_cons_zero] at hm
   have hGu := hGe.fw fwu (fun X h => by have := (hX1 X h).1; simpa using this)
   have gu := hm.at 0 rfl
   repeat refine aM ?_
   refine ar (t' := ?t91) (ds' := ?d91) (up' := ?u91) (s' := ?s91) (by kernel_rfl) ?h91 ?k91
   case h91 =>
    simp only [ae, aL, af, al, bR, cu, ac, aG, ah, dq, ab, Nat.reduceEqDiff, reduceIte, ag, bB, fA, List.nil_append, List.append_nil, evals, Tc, call, l0]
    exact rfl
   case k91 =>
   have hcm1 := hGu.one
   have bd19_203 : gF Tryz.prog 295 (some [(0, .int .i64 ((q + (aV cb l q) : Nat) : Int)), (1, .int .i64 ((q2 : Nat) : Int))]) = some (.agg [.int .i64 ((q + (aV cb l q) : Nat) : Int), .int .i64 ((q2 : Nat) : Int)]) := by rfl
   have hm20 := hm.alloc (B := .cells 295 false 1 [⟨0, 0, [.int .i64 ((q + (aV cb l q) : Nat) : Int), .int .i64 ((q2 : Nat) : Int)]⟩]) (fun _ h => by cases h)
   have g21 := hm20.at 0 rfl
   have hGb := hGu.fw (Fw.alloc [] (hm.wf) (.cells 295 false 1 [⟨0, 0, [.int .i64 ((q + (aV cb l q) : Nat) : Int), .int .i64 ((q2 : Nat) : Int)]⟩])) (fun X _ => by simp)
   obtain ⟨cm2, u2, X, happ, hG2, hble, hor⟩ := hGb.app TG hm20.wf (c := some 1) g21 rfl rfl (by omega)
   have hmb := hm20
   have hm2 : Me (fs :: o.toList) s u2 [(fs, QQ e sb nv l q2 mm cm1)] := by
    rcases hor with ⟨_, rfl, hf⟩ | ⟨hX, hf⟩
    ·exact (hmb.call hf).tl
    ·have hXX := hX1 X hX
     exact hmb.tl.callX hf (hXX.2.elim .inl (fun h => .inr (hXF X h))) (fun x hx => by simp at hx; subst hx; exact fun h => hXX.1 h.symm)
   have hX2 : ∀ Y, some X = some Y → Y ≠ fs ∧ (s.next ≤ Y ∨ o = some Y) := by
    intro Y hY; cases hY
    rcases hor with ⟨_, h, _⟩ | ⟨h, _⟩
    ·have h1 := hm.fw.next
     have h2 := hm.wf fs _ gu
     rw [S.next_alloc] at h
     exact ⟨by omega, .inl (by omega)⟩
    ·exact hX1 X h
   have hm22 := hm2
   have g23 := hm22.at 0 rfl
   have hm24 := hm22.put 0 rfl (B' := .cells e sb nv [⟨0, 0, [.str l, .int .i64 ((q2 : Nat) : Int), .map mm, cm2]⟩]) (fun _ h => by cases h)
   simp only [List.set_cons_zero] at hm24
   refine gd (t' := ?t25) (ds' := ?d25) (up' := ?u25) (s' := ?s25) [(some 1, 1), (some 1, 2), (some 1, 3), (some 1, 4), (some 1, 5), (some 1, 6), (some 1, 7), (some 1, 8), (some 1, 9), (some 1, 10), (some 1, 11), (some 1, 12), (none, 13), (some 2, 0), (some 1, 14), (some 1, 15), (none, 16)] (by kernel_rfl) (by kernel_rfl) ?h25 ?k25
   case h25 =>
    simp only [cH, ef, ii, cI, eY, bC, bQ, ey, dC, dT, aS, dX, Ar, gJ, cK, xg, cg, tF, bD, cJ, bN, aC, List.take_succ_cons, List.take_zero, List.take_nil, sg, jf, dt, aZ, du, ac, aG, ah, ab, eu, Nat.reduceEqDiff, reduceIte, ag, bB, dS, Nat.zero_add, Nat.add_zero, evals, jT, List.getElem?_toArray, List.getElem?_cons_zero, List.getElem?_cons_succ, aJ, RS, VO, wO gu, dL, ek, CG, dW, bd19_203, Vj, tX, happ, hble, VB _ _ (cm2) hG2.cel, EL g23 3 [cm2] (by simp only [List.all_cons, List.all_nil, hG2.one, Bool.and_self]) rfl, l0]
    exact rfl
   case k25 =>
   have hm := hm24
   have hGz := hG2.fw (Fw.put (F := [fs]) (by simp) (hm2.at 0 rfl) (fun _ h => by cases h) (QQ e sb nv l q2 mm cm2)) (fun Y h => by have := (hX2 Y h).1; simpa using this)
   generalize hs25 : S.put u2 fs _ = s26 at hm hGz ⊢
   have g27 := hm.at 0 rfl
   refine cE ?_
   refine hnext _ _ _ (by omega) ⟨q2, n1 + 1, cm2, _, _, rfl, by omega, hq22, .inr ⟨by omega, hnp⟩, by omega, hm, hGz, hX2, ?_⟩
   ·simp only [ab, Nat.reduceEqDiff, reduceIte, l0] <;> rfl
  ·have call : bI (lim aq) 237 [.ptr ⟨fs, 0, 0⟩] none s14 = some ⟨.panicked c, none, u1⟩ := hco
   repeat refine aM ?_
   refine NU (t' := ?t90) (c := ?d90) (s' := ?s90) (by kernel_rfl) ?h90 ?k90
   case h90 =>
    simp only [ae, af, al, bR, ac, aG, ah, dq, ab, Nat.reduceEqDiff, reduceIte, ag, bB, fA, List.nil_append, List.append_nil, evals, tR, Tc, call, l0]
    exact rfl
   case k90 =>
   exact ⟨⟨hthr, hnp⟩, hm.fw.trans (fwu.mono (by simp))⟩
theorem WE (args : List V) (s : S) : gc aq 105 args s = some (.enter 105 args s) := by kernel_rfl
set_option maxRecDepth 10000
set_option maxHeartbeats 2000000
theorem TN {l : List Nat} {i : Nat} (hb : Bytes l) (hl : l.length < 4611686018427387904) (hi : i < 4611686018427387904) {s : S} :
 Cw aq 107 [.str l, .int .i64 ((i : Nat) : Int)] s fun v s' => v = .int .i64 ((i + aV bb l i : Nat) : Int) ∧ s = s' := by
 refine jl (fn := Tryz.f107) rfl Tryz.func107 rfl (by kernel_rfl) ?_
 rw [bc, bc, dB]
 repeat refine aM ?_
 refine ar (t' := ?t1) (ds' := ?d1) (up' := ?u1) (s' := ?s1) (by kernel_rfl) ?h1 ?k1
 case h1 =>
  simp only [ae, aL, af, al, ac, aG, cz, ag, Nat.zero_add]
  exact rfl
 case k1 =>
 repeat refine aM ?_
 refine ar (t' := ?t2) (ds' := ?d2) (up' := ?u2) (s' := ?s2) (by kernel_rfl) ?h2 ?k2
 case h2 =>
  simp only [ae, aL, af, al, ac, aG, ah, ab, Nat.reduceEqDiff, reduceIte, ag]
  exact rfl
 case k2 =>
 repeat refine aM ?_
 refine ce ?_
 refine gR (fun j t s1 => ∃ (n1 : Nat), j = l.length - n1 ∧ i ≤ n1 ∧ n1 + aV bb l n1 = i + aV bb l i ∧ s = s1 ∧ t.get (eV 0) = some (.str l) ∧ t.get (eV 4) = some (.int .i64 0) ∧ t.get (eV 5) = some (.int .i64 ((n1 : Nat) : Int))) ?_ _ _ _ ⟨i, rfl, Nat.le_refl _, rfl, rfl, ?_, ?_, ?_⟩
 rotate_left
 ·simp only [ab, Nat.reduceEqDiff, reduceIte] <;> rfl
 ·simp only [ab, Nat.reduceEqDiff, reduceIte] <;> rfl
 ·simp only [ab, Nat.reduceEqDiff, reduceIte] <;> rfl
 rintro j t s1 ⟨n1, hj, hle1, hrn1, rfl, l0, l4, l5⟩ hnext
 by_cases hlt : n1 < l.length
 ·have c1 : decide (((n1 : Nat) : Int) < ((l.length : Nat) : Int)) = true := by simp; omega
  obtain ⟨x, hx⟩ : ∃ x, l[n1]? = some x := ⟨_, List.getElem?_eq_getElem hlt⟩
  have hxx : l[n1]? = some x ∧ x < 256 := ⟨hx, hb.at hx⟩
  have hrs := oT (q := bb) hx
  repeat refine aM ?_
  have call3 := xV (f := 105) (p := bb) rfl hxx.2 s
  refine ar (t' := ?t4) (ds' := ?d4) (up' := ?u4) (s' := ?s4) (by kernel_rfl) ?h4 ?k4
  case h4 =>
   simp only [fG, ae, aL, af, al, bR, cu, ac, fS, gU, gV, aG, ah, dq, ab, Nat.reduceEqDiff, reduceIte, ag, bB, dS, fA, gK, Xu, List.nil_append, List.append_nil, evals, jT, List.getElem?_toArray, List.getElem?_cons_zero, List.getElem?_cons_succ, Option.bind, cw, bd, eg, cond_true, cond_false, bt, bH, aU, decide_true, di, iu, c1, fG, CO hxx, call3, WE, l0, l5]
   exact rfl
  case k4 =>
  refine ck (bb x) (by simp only [ah, ab, Nat.reduceEqDiff, reduceIte]) (fun hd => ?_) (fun hd => ?_)
  ·rw [if_pos hd] at hrs
   refine iR ?_
   refine ce ?_
   have hw5 : IntKind.wrap .i64 (((n1 : Nat) : Int) + 1) = ((n1 + 1 : Nat) : Int) := by have := aY (((n1 : Nat) : Int) + 1) ⟨by omega, by omega⟩; omega
   refine ar (t' := ?t6) (ds' := ?d6) (up' := ?u6) (s' := ?s6) (by kernel_rfl) ?h6 ?k6
   case h6 =>
    simp only [ae, aL, af, al, ac, aG, ah, cz, ab, Nat.reduceEqDiff, reduceIte, ag, cw, bd, eg, cond_true, cond_false, bt, bH, aU, decide_true, di, aX, hw5, l5]
    exact rfl
   case k6 =>
   refine cE ?_
   refine hnext _ _ _ (by omega) ⟨n1 + 1, rfl, by omega, by omega, rfl, ?_, ?_, ?_⟩
   ·simp only [ab, Nat.reduceEqDiff, reduceIte, l0] <;> rfl
   ·simp only [ab, Nat.reduceEqDiff, reduceIte, l4] <;> rfl
   ·simp only [ab, Nat.reduceEqDiff, reduceIte, l5] <;> rfl
  ·have hd2 : ¬ (bb x = true) := by rw [hd]; exact Bool.false_ne_true
   rw [if_neg hd2] at hrs
   have hend1 : n1 = i + aV bb l i := by omega
   clear hx hxx hrs hd hd2 c1 hj hlt
   refine oN rfl ?_
   repeat refine aM ?_
   refine ar (t' := ?t7) (ds' := ?d7) (up' := ?u7) (s' := ?s7) (by kernel_rfl) ?h7 ?k7
   case h7 =>
    simp only [ae, aL, af, al, ac, aG, ah, ab, Nat.reduceEqDiff, reduceIte, ag, l5]
    exact rfl
   case k7 =>
   refine gy (.int .i64 ((n1 : Nat) : Int)) 4 rfl (by simp only [ab, Nat.reduceEqDiff, reduceIte]) ⟨by rw [hend1], rfl⟩
 ·have c1 : decide (((n1 : Nat) : Int) < ((l.length : Nat) : Int)) = false := by simp; omega
  have hrs := lJ bb (l := l) (i := n1) (by omega)
  have hend1 : n1 = i + aV bb l i := by omega
  repeat refine aM ?_
  refine ar (t' := ?t8) (ds' := ?d8) (up' := ?u8) (s' := ?s8) (by kernel_rfl) ?h8 ?k8
  case h8 =>
   simp only [ae, aL, af, mP, al, ac, fS, gU, gV, aG, ah, fp, ab, Nat.reduceEqDiff, reduceIte, ag, bB, dS, gK, Xw, evals, jT, List.getElem?_toArray, List.getElem?_cons_zero, List.getElem?_cons_succ, Option.bind, cw, bd, eg, cond_true, cond_false, bt, bH, aU, decide_true, di, iu, c1, l0, l5]
   exact rfl
  case k8 =>
  refine ck false (by simp only [ah, ab, Nat.reduceEqDiff, reduceIte]) (fun h => by cases h) (fun _ => ?_)
  refine oN rfl ?_
  repeat refine aM ?_
  refine ar (t' := ?t9) (ds' := ?d9) (up' := ?u9) (s' := ?s9) (by kernel_rfl) ?h9 ?k9
  case h9 =>
   simp only [ae, aL, af, al, ac, aG, ah, ab, Nat.reduceEqDiff, reduceIte, ag, l5]
   exact rfl
  case k9 =>
  refine gy (.int .i64 ((n1 : Nat) : Int)) 4 rfl (by simp only [ab, Nat.reduceEqDiff, reduceIte]) ⟨by rw [hend1], rfl⟩
end Go.AI.Lx
namespace Go.AI.Lx
open Go.Proofs Go.Proofs.YtkeaedhoaamfnaaGreatDoor
set_option maxRecDepth 10000
set_option maxHeartbeats 2000000
theorem xq (t : T V) : eval t (.const (.string ⟨#[97, 110, 100]⟩)) = some (.str [97, 110, 100]) := by rfl
theorem rS (t : T V) : eval t (.const (.string ⟨#[99, 97, 115, 101]⟩)) = some (.str [99, 97, 115, 101]) := by rfl
theorem rU (t : T V) : eval t (.const (.string ⟨#[100, 97, 116, 97]⟩)) = some (.str [100, 97, 116, 97]) := by rfl
theorem po (t : T V) : eval t (.const (.string ⟨#[101, 108, 115, 101]⟩)) = some (.str [101, 108, 115, 101]) := by rfl
theorem uT (t : T V) : eval t (.const (.string ⟨#[101, 110, 100]⟩)) = some (.str [101, 110, 100]) := by rfl
theorem Gn (t : T V) : eval t (.const (.string ⟨#[102, 110]⟩)) = some (.str [102, 110]) := by rfl
theorem uS (t : T V) : eval t (.const (.string ⟨#[102, 117, 110]⟩)) = some (.str [102, 117, 110]) := by rfl
theorem Gm (t : T V) : eval t (.const (.string ⟨#[105, 102]⟩)) = some (.str [105, 102]) := by rfl
theorem Gl (t : T V) : eval t (.const (.string ⟨#[105, 110]⟩)) = some (.str [105, 110]) := by rfl
theorem lS (t : T V) : eval t (.const (.string ⟨#[105, 110, 112, 117, 116]⟩)) = some (.str [105, 110, 112, 117, 116]) := by rfl
theorem uR (t : T V) : eval t (.const (.string ⟨#[108, 101, 116]⟩)) = some (.str [108, 101, 116]) := by rfl
theorem Gk (t : T V) : eval t (.const (.string ⟨#[111, 102]⟩)) = some (.str [111, 102]) := by rfl
theorem jM (t : T V) : eval t (.const (.string ⟨#[111, 117, 116, 112, 117, 116]⟩)) = some (.str [111, 117, 116, 112, 117, 116]) := by rfl
theorem pn (t : T V) : eval t (.const (.string ⟨#[116, 104, 101, 110]⟩)) = some (.str [116, 104, 101, 110]) := by rfl
theorem xr (t : T V) : eval t (.const (.string ⟨#[118, 97, 108]⟩)) = some (.str [118, 97, 108]) := by rfl
theorem Vk (s : S) : bz Tryz.prog s 22 15 (some [(0, .str [97, 110, 100]), (1, .str [99, 97, 115, 101]), (2, .str [100, 97, 116, 97]), (3, .str [101, 108, 115, 101]), (4, .str [101, 110, 100]), (5, .str [102, 110]), (6, .str [102, 117, 110]), (7, .str [105, 102]), (8, .str [105, 110]), (9, .str [105, 110, 112, 117, 116]), (10, .str [108, 101, 116]), (11, .str [111, 102]), (12, .str [111, 117, 116, 112, 117, 116]), (13, .str [116, 104, 101, 110]), (14, .str [118, 97, 108])]) = some (.val (.slice ⟨s.next, 0, 0⟩ 0 15 (some 15) 1) (s.alloc (.cells 9 false 1 [⟨0, 0, bL.map V.str⟩]))) := by kernel_rfl
theorem SR (s : S) (f : Nat) : lM Tryz.prog 22 s (.slice ⟨f, 0, 0⟩ 0 15 (some 15) 1) = some (.int .i64 15) := by simp only [lM, Tryz.underlying22, aX]; rfl
theorem TD : size Tryz.prog 9 = some 1 := by kernel_rfl
theorem Xq {f k : Nat} (h : k < 15) : bJ Tryz.prog 22 (some (.slice ⟨f, 0, 0⟩ 0 15 (some 15) 1)) (some k) = some (.ptr ⟨f, 0, k⟩) := by
 have h1 : Nat.blt k 15 = true := by simp [Nat.blt]; omega
 have h2 : Nat.beq 1 1 = true := rfl
 simp only [bJ, Tryz.underlying22, TD, h1, h2, Bool.and_self, cond_true, dZ, Nat.mul_one, Nat.zero_add]
theorem Vy {x : List Nat} (hx : Bytes x) {s : S} (hw : WF s) :
 Cw aq 110 [.str x] s fun v s' => v = .bool (decide (x ∈ bL)) ∧ Fw [] s s' := by
 refine jl (fn := Tryz.f110) rfl Tryz.func110 rfl (by kernel_rfl) ?_
 rw [bc, dB]
 have hm := Me.start (F := []) hw
 repeat refine aM ?_
 refine ar (t' := ?t1) (ds' := ?d1) (up' := ?u1) (s' := ?s1) (by kernel_rfl) ?h1 ?k1
 case h1 =>
  simp only [ae, aL, af, al, ac, aG, fp, ag]
  exact rfl
 case k1 =>
 repeat refine aM ?_
 have hm2 := hm.alloc (B := .cells 9 false 1 [⟨0, 0, bL.map V.str⟩]) (fun _ h => by cases h)
 refine ar (t' := ?t3) (ds' := ?d3) (up' := ?u3) (s' := ?s3) (by kernel_rfl) ?h3 ?k3
 case h3 =>
  simp only [ae, aL, af, al, ac, aG, ah, ab, Nat.reduceEqDiff, reduceIte, ag, jT, dW, Vk, xq, rS, rU, po, uT, Gn, uS, Gm, Gl, lS, uR, Gk, jM, pn, xr]
  exact rfl
 case k3 =>
 have hm := hm2
 generalize hs3 : S.alloc s _ = s4 at hm ⊢
 generalize hf5 : S.next s = f5 at hm ⊢
 have g6 := hm.at 0 rfl
 repeat refine aM ?_
 refine ar (t' := ?t7) (ds' := ?d7) (up' := ?u7) (s' := ?s7) (by kernel_rfl) ?h7 ?k7
 case h7 =>
  simp only [ae, aL, af, al, ac, aG, cz, ag]
  exact rfl
 case k7 =>
 refine ce ?_
 refine gR (fun j t s1 => ∃ (k : Nat), j = 15 - k ∧ k ≤ 15 ∧ (∀ j' c, j' < k → bL[j']? = some c → c ≠ x) ∧ Me [] s s1 [(f5, .cells 9 false 1 [⟨0, 0, bL.map V.str⟩])] ∧ t.get (eV 0) = some (.str x) ∧ t.get (eV 2) = some (.bool false) ∧ t.get (eV 3) = some (.slice ⟨f5, 0, 0⟩ 0 15 (some 15) 1) ∧ t.get (eV 4) = some (.int .i64 ((k : Nat) : Int))) ?_ _ _ _ ⟨0, rfl, by omega, fun j' c h => by omega, hm, ?_, ?_, ?_, ?_⟩
 rotate_left
 ·simp only [ab, Nat.reduceEqDiff, reduceIte] <;> rfl
 ·simp only [ab, Nat.reduceEqDiff, reduceIte] <;> rfl
 ·simp only [ab, Nat.reduceEqDiff, reduceIte] <;> rfl
 ·simp only [ab, Nat.reduceEqDiff, reduceIte] <;> rfl
 rintro j t s1 ⟨k, hj, hk, hno, hm, l0, l2, l3, l4⟩ hnext
 have gw := hm.at 0 rfl
 by_cases hk15 : k < 15
 ·have c1 : decide (((k : Nat) : Int) < 15) = true := by simp; omega
  obtain ⟨y, hy⟩ : ∃ y, bL[k]? = some y := ⟨_, List.getElem?_eq_getElem (by simpa [bL] using hk15)⟩
  have hcell : (bL.map V.str)[k]? = some (.str y) := by rw [List.getElem?_map, hy]; rfl
  have hyb := kD y (List.mem_of_getElem? hy)
  have hq := oQ hyb hx
  repeat refine aM ?_
  refine ar (t' := ?t8) (ds' := ?d8) (up' := ?u8) (s' := ?s8) (by kernel_rfl) ?h8 ?k8
  case h8 =>
   simp only [ae, aL, af, al, ac, aG, ah, ab, Nat.reduceEqDiff, reduceIte, ag, bB, dS, evals, jT, List.getElem?_toArray, List.getElem?_cons_zero, cw, bd, eg, cond_true, cond_false, bt, bH, aU, decide_true, di, SR, c1, l3, l4]
   exact rfl
  case k8 =>
  refine ck true (by simp only [ah, ab, Nat.reduceEqDiff, reduceIte]) (fun _ => ?_) (fun h => by cases h)
  refine iR ?_
  repeat refine aM ?_
  refine ce ?_
  repeat refine aM ?_
  refine ar (t' := ?t9) (ds' := ?d9) (up' := ?u9) (s' := ?s9) (by kernel_rfl) ?h9 ?k9
  case h9 =>
   simp only [aZ, fG, ae, aL, af, al, ac, aG, ah, ab, Nat.reduceEqDiff, reduceIte, ag, jT, cw, bd, eg, cond_true, bt, Option.map, fG, Xq hk15, CF, wO gw, hcell, lG, l0, l3, l4, hq]
   exact rfl
  case k9 =>
  refine ck (decide (y = x)) (by simp only [ah, ab, Nat.reduceEqDiff, reduceIte]) (fun hd => ?_) (fun hd => ?_)
  ·have hyx : y = x := of_decide_eq_true hd
   repeat refine aM ?_
   refine ar (t' := ?t10) (ds' := ?d10) (up' := ?u10) (s' := ?s10) (by kernel_rfl) ?h10 ?k10
   case h10 =>
    simp only [ae, aL, af, al, ac, aG, fp, ag]
    exact rfl
   case k10 =>
   refine gy (.bool true) 2 rfl (by simp only [ab, Nat.reduceEqDiff, reduceIte]) ⟨by rw [decide_eq_true (show x ∈ bL by rw [← hyx]; exact List.mem_of_getElem? hy)], hm.fw⟩
  ·have hyx : ¬ y = x := of_decide_eq_false hd
   have hno2 : ∀ j' c, j' < k + 1 → bL[j']? = some c → c ≠ x := by
    intro j' c' g1 g2
    rcases Nat.lt_or_ge j' k with h | h
    ·exact hno j' c' h g2
    ·obtain rfl : j' = k := by omega
     rw [hy] at g2; cases g2; exact hyx
   refine iR ?_
   refine cE ?_
   have hw11 : IntKind.wrap .i64 (((k : Nat) : Int) + 1) = ((k + 1 : Nat) : Int) := by have := aY (((k : Nat) : Int) + 1) ⟨by omega, by omega⟩; omega
   refine ar (t' := ?t12) (ds' := ?d12) (up' := ?u12) (s' := ?s12) (by kernel_rfl) ?h12 ?k12
   case h12 =>
    simp only [ae, aL, af, al, ac, aG, ah, cz, ab, Nat.reduceEqDiff, reduceIte, ag, cw, bd, eg, cond_true, cond_false, bt, bH, aU, decide_true, di, aX, hw11, l4]
    exact rfl
   case k12 =>
   refine hnext _ _ _ (by omega) ⟨k + 1, rfl, by omega, hno2, hm, ?_, ?_, ?_, ?_⟩
   ·simp only [ab, Nat.reduceEqDiff, reduceIte, l0] <;> rfl
   ·simp only [ab, Nat.reduceEqDiff, reduceIte, l2] <;> rfl
   ·simp only [ab, Nat.reduceEqDiff, reduceIte, l3] <;> rfl
   ·simp only [ab, Nat.reduceEqDiff, reduceIte, l4] <;> rfl
 ·have c1 : decide (((k : Nat) : Int) < 15) = false := by simp; omega
  have hnm : ¬ x ∈ bL := by
   intro h
   obtain ⟨j', g1⟩ := List.getElem?_of_mem h
   have g2 : j' < bL.length := (List.getElem?_eq_some_iff.1 g1).1
   have g3 : j' < 15 := g2
   exact hno j' x (by omega) g1 rfl
  repeat refine aM ?_
  refine ar (t' := ?t13) (ds' := ?d13) (up' := ?u13) (s' := ?s13) (by kernel_rfl) ?h13 ?k13
  case h13 =>
   simp only [ae, aL, af, al, ac, aG, ah, ab, Nat.reduceEqDiff, reduceIte, ag, bB, dS, evals, jT, List.getElem?_toArray, List.getElem?_cons_zero, cw, bd, eg, cond_true, cond_false, bt, bH, aU, decide_true, di, SR, c1, l3, l4]
   exact rfl
  case k13 =>
  refine ck false (by simp only [ah, ab, Nat.reduceEqDiff, reduceIte]) (fun h => by cases h) (fun _ => ?_)
  refine oN rfl ?_
  repeat refine aM ?_
  refine ar (t' := ?t14) (ds' := ?d14) (up' := ?u14) (s' := ?s14) (by kernel_rfl) ?h14 ?k14
  case h14 =>
   simp only [ae, aL, af, al, ac, aG, fp, ag]
   exact rfl
  case k14 =>
  refine gy (.bool false) 2 rfl (by simp only [ab, Nat.reduceEqDiff, reduceIte]) ⟨by rw [decide_eq_false hnm], hm.fw⟩
end Go.AI.Lx
