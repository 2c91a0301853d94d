/- What the functions answer in the evaluator: part 5. No conditions beyond those of the row. -/
import Derived.Test.YtkeaedhoaamfnaaGreatDoorL4
import Derived.Test.YtkeaedhoaamfnaaGreatDoorA11
set_option linter.unusedVariables false
set_option linter.unusedSimpArgs false
noncomputable section
namespace Go.AI.Lx
open Go.Proofs Go.Proofs.YtkeaedhoaamfnaaGreatDoor
theorem Eg : size Tryz.prog 272 = some 1 := by kernel_rfl
theorem Id : fj Tryz.prog 272 = some false := by kernel_rfl
theorem RU (s : S) (a : Ad) : loadVar Tryz.prog s 272 a = cz s a := by simp only [loadVar, Id]
theorem RH (s : S) (a : Ad) (v : V) (h : v.cells = [v]) : storeVar Tryz.prog s 272 a v = storeCells s a [v] := by
 simp only [storeVar, Eg, h]; rfl
theorem Ps (args : List V) (s : S) : fU au 235 args s = some (.enter 235 args s) := by kernel_rfl
theorem Pr (args : List V) (s : S) : fU au 237 args s = some (.enter 237 args s) := by kernel_rfl
theorem Rt (s : S) (x0 x1 : V) : bt Tryz.prog s 272 1 (some [(0, .agg [x0, x1])]) = some (.val (.slice ⟨s.next, 0, 0⟩ 0 1 (some 1) 2) (s.alloc (.cells 295 false 1 [⟨0, 0, [x0, x1]⟩]))) := by kernel_rfl
set_option maxRecDepth 10000
set_option maxHeartbeats 2000000
theorem _root_.Go.AI.Me.callX {F : List Nat} {s0 s s' : S} {m : List (Nat × bP)} (h : Me F s0 s m) {X : Nat} (hf : Fw [X] s s') (hX : s0.next ≤ X ∨ X ∈ F) (hm : ∀ x ∈ m, x.1 ≠ X) : Me F s0 s' m := by
 refine ⟨h.wf0, ?_, h.own.keep fun x hx => hf.keep _ _ (by simpa using hm x hx) (h.own.mem hx), h.hi⟩
 rcases hX with hh | hh
 ·have h1 : Fw (X :: F) s0 s' := (h.fw.mono (fun g hg => List.mem_cons_of_mem _ hg)).trans (hf.mono (fun g hg => by simp at hg; subst hg; simp))
  exact h1.drop hh h.wf0
 ·exact h.fw.trans (hf.mono (fun g hg => by simp at hg; subst hg; exact hh))
theorem PQ : zi Tryz.prog 272 295 2 := ⟨by kernel_rfl, by kernel_rfl, by kernel_rfl, by kernel_rfl, by kernel_rfl⟩
def plainAt (l : List Nat) (p : Nat) : Prop := aQ cj l p = 0 ∧ gb (l.drop p) [40, 42] = false
theorem RQ {fs : Nat} {e : TypeId} {sb : Bool} {nv : Nat} {l : List Nat} {p : Nat} {mm : Nat} {cm : V} {n : Nat} {cs : List V} {o : Option Nat} (hb : Bytes l) (hl : l.length ≤ 24) (hp : p ≤ l.length) {s : S} (hw : WF s) (hg : s.get fs = some (MZ e sb nv l p mm cm))
 (hG : gx 295 2 s cm n cs o) (hn : n ≤ p) (hX : ∀ X, o = some X → X ≠ fs) :
 Co au 203 [.ptr ⟨fs, 0, 0⟩] s (RP (fun v s' => v = .tuple [] ∧ ∃ q cm' n' cs' o', p ≤ q ∧ q ≤ l.length ∧ (q = p ↔ plainAt l p) ∧ n' ≤ q ∧ s'.get fs = some (MZ e sb nv l q mm cm') ∧ gx 295 2 s' cm' n' cs' o' ∧ (∀ X, o' = some X → X ≠ fs ∧ (s.next ≤ X ∨ o = some X)) ∧ Fw (fs :: o.toList) s s') (fun c s' => (pJ c ∧ ¬ plainAt l p) ∧ Fw (fs :: o.toList) s s')) := by
 refine qN (fn := Tryz.f203) rfl Tryz.func203 rfl (by kernel_rfl) ?_
 rw [bf, dM]
 have hm := Me.start1 (F := fs :: o.toList) hw (by simp) hg (fun _ h => by cases h)
 have g1 := hm.at 0 rfl
 have hXF : ∀ X, o = some X → X ∈ fs :: o.toList := fun X h => by rw [h]; simp
 refine cH ?_
 refine kh (fun j t s1 => ∃ (q n1 : Nat) (cm1 : V) (cs1 : List V) (o1 : Option Nat), j = l.length - q ∧ p ≤ q ∧ q ≤ l.length ∧ (q = p ∨ (p < q ∧ ¬ plainAt l p)) ∧ n1 ≤ q ∧ Me (fs :: o.toList) s s1 [(fs, MZ e sb nv l q mm cm1)] ∧ gx 295 2 s1 cm1 n1 cs1 o1 ∧ (∀ X, o1 = some X → X ≠ fs ∧ (s.next ≤ X ∨ o = some X)) ∧ t.get (eT 0) = some (.ptr ⟨fs, 0, 0⟩)) ?_ _ _ _ ⟨p, n, cm, cs, o, rfl, Nat.le_refl _, hp, .inl rfl, hn, hm, hG, fun X h => ⟨hX X h, .inr h⟩, ?_⟩
 rotate_left
 ·simp only [ab, reduceIte] <;> rfl
 rintro j t s1 ⟨q, n1, cm1, cs1, o1, hj, hpq, hq, hq1, hn1, hm, hG1, hX1, l0⟩ hnext
 have gq := hm.at 0 rfl
 have hr := kr cj l q hq
 cases hs : gb (l.drop (q + aQ cj l q)) [40, 42] with
 | false =>
  skip
  refine cH ?_
  repeat refine aJ ?_
  obtain ⟨_, _, call2, rfl, rfl⟩ := IH (g := 235) (q := cj) rfl Ps (k := 0) hb (by omega) (by omega) gq
  have call2 := ir call2
  rw [show ((0 : Nat) : Int) = 0 from rfl, Nat.add_zero] at call2
  have hw3 : IntKind.wrap .i64 (((q : Nat) : Int) + ((aQ cj l q : Nat) : Int)) = ((q + (aQ cj l q) : Nat) : Int) := by have := bJ (((q : Nat) : Int) + ((aQ cj l q : Nat) : Int)) ⟨by omega, by omega⟩; omega
  have hm4 := hm.put 0 rfl (B' := .cells e sb nv [⟨0, 0, [.str l, .int .i64 ((q + (aQ cj l q) : Nat) : Int), .map mm, cm1]⟩]) (fun _ h => by cases h)
  simp only [List.set_cons_zero] at hm4
  refine fK (t' := ?t5) (ds' := ?d5) (up' := ?u5) (s' := ?s5) [(some 1, 5), (some 1, 6), (some 1, 7), (none, 8), (some 2, 0), (some 2, 1), (some 2, 2), (some 2, 3), (some 2, 4), (some 1, 9), (some 1, 10), (some 1, 11), (some 1, 12), (none, 13)] (by kernel_rfl) (by kernel_rfl) ?h5 ?k5
  case h5 =>
   simp only [cp, dO, gF, cq, eG, bn, bC, ea, cZ, dE, aG, dG, gg, iL, jV, cu, bR, bo, cr, bz, ku, iw, al, List.take_succ_cons, List.take_zero, List.take_nil, iP, qS, iH, cM, aX, cN, ac, az, ai, dq, cW, ab, dY, Nat.reduceEqDiff, reduceIte, ag, bx, ft, List.nil_append, List.append_nil, Nat.zero_add, Nat.add_zero, evals, lp, List.getElem?_toArray, List.getElem?_cons_zero, List.getElem?_cons_succ, cS, bj, eE, cond_true, cond_false, bD, bQ, aR, decide_true, dI, aw, dw, call2, Pt, dU, As, wE gq, aS, hw3, RG _ _ (.int .i64 ((q + (aQ cj l q) : Nat) : Int)) rfl, GU gq 1 [.int .i64 ((q + (aQ cj l q) : Nat) : Int)] (rfl) rfl, l0]
   exact rfl
  case k5 =>
  have hm := hm4
  have hGe := hG1.fw (Fw.put (F := [fs]) (by simp) gq (fun _ h => by cases h) (MZ e sb nv l (q + aQ cj l q) mm cm1)) (fun X h => by have := (hX1 X h).1; simpa using this)
  generalize hs5 : S.put s1 fs _ = s6 at hm hGe ⊢
  have g7 := hm.at 0 rfl
  repeat refine aJ ?_
  obtain ⟨_, _, call8, rfl, rfl⟩ := jf hb (by omega) hr [40, 42] (fun z hz => by simp at hz; omega) g7
  have call8 := ir call8
  refine ao (t' := ?t9) (ds' := ?d9) (up' := ?u9) (s' := ?s9) (by kernel_rfl) ?h9 ?k9
  case h9 =>
   simp only [ae, aN, af, ak, bM, cx, ac, az, ai, cW, ab, Nat.reduceEqDiff, reduceIte, ag, bx, ft, Jh, pU, Bool.not_false, List.nil_append, List.append_nil, Nat.add_zero, evals, lp, aw, dw, lu, hs, call8, we, l0]
   exact rfl
  case k9 =>
  refine cP true (by simp only [ai, ab, Nat.reduceEqDiff, reduceIte]) (fun _ => ?_) (fun h => by cases h)
  refine GJ (.tuple []) rfl ⟨rfl, q + aQ cj l q, cm1, n1, cs1, o1, by omega, hr, ?_, by omega, hm.at 0 rfl, hGe, hX1, hm.fw⟩
  rcases hq1 with rfl | ⟨h1, h2⟩
  ·constructor
   ·intro h
    have h0 : aQ cj l q = 0 := by omega
    rw [h0] at hs
    exact ⟨h0, hs⟩
   ·rintro ⟨h0, _⟩; omega
  ·exact ⟨fun h => by omega, fun h => absurd h h2⟩
 | true =>
  skip
  refine cH ?_
  repeat refine aJ ?_
  obtain ⟨_, _, call10, rfl, rfl⟩ := IH (g := 235) (q := cj) rfl Ps (k := 0) hb (by omega) (by omega) gq
  have call10 := ir call10
  rw [show ((0 : Nat) : Int) = 0 from rfl, Nat.add_zero] at call10
  have hw11 : IntKind.wrap .i64 (((q : Nat) : Int) + ((aQ cj l q : Nat) : Int)) = ((q + (aQ cj l q) : Nat) : Int) := by have := bJ (((q : Nat) : Int) + ((aQ cj l q : Nat) : Int)) ⟨by omega, by omega⟩; omega
  have hm12 := hm.put 0 rfl (B' := .cells e sb nv [⟨0, 0, [.str l, .int .i64 ((q + (aQ cj l q) : Nat) : Int), .map mm, cm1]⟩]) (fun _ h => by cases h)
  simp only [List.set_cons_zero] at hm12
  refine fK (t' := ?t13) (ds' := ?d13) (up' := ?u13) (s' := ?s13) [(some 1, 5), (some 1, 6), (some 1, 7), (none, 8), (some 2, 0), (some 2, 1), (some 2, 2), (some 2, 3), (some 2, 4), (some 1, 9), (some 1, 10), (some 1, 11), (some 1, 12), (none, 13)] (by kernel_rfl) (by kernel_rfl) ?h13 ?k13
  case h13 =>
   simp only [cp, dO, gF, cq, eG, bn, bC, ea, cZ, dE, aG, dG, gg, iL, jV, cu, bR, bo, cr, bz, ku, iw, al, List.take_succ_cons, List.take_zero, List.take_nil, iP, qS, iH, cM, aX, cN, ac, az, ai, dq, cW, ab, dY, Nat.reduceEqDiff, reduceIte, ag, bx, ft, List.nil_append, List.append_nil, Nat.zero_add, Nat.add_zero, evals, lp, List.getElem?_toArray, List.getElem?_cons_zero, List.getElem?_cons_succ, cS, bj, eE, cond_true, cond_false, bD, bQ, aR, decide_true, dI, aw, dw, call10, Pt, dU, As, wE gq, aS, hw11, RG _ _ (.int .i64 ((q + (aQ cj l q) : Nat) : Int)) rfl, GU gq 1 [.int .i64 ((q + (aQ cj l q) : Nat) : Int)] (rfl) rfl, l0]
   exact rfl
  case k13 =>
  have hm := hm12
  have hGe := hG1.fw (Fw.put (F := [fs]) (by simp) gq (fun _ h => by cases h) (MZ e sb nv l (q + aQ cj l q) mm cm1)) (fun X h => by have := (hX1 X h).1; simpa using this)
  generalize hs13 : S.put s1 fs _ = s14 at hm hGe ⊢
  have g15 := hm.at 0 rfl
  repeat refine aJ ?_
  obtain ⟨_, _, call16, rfl, rfl⟩ := jf hb (by omega) hr [40, 42] (fun z hz => by simp at hz; omega) g15
  have call16 := ir call16
  refine ao (t' := ?t17) (ds' := ?d17) (up' := ?u17) (s' := ?s17) (by kernel_rfl) ?h17 ?k17
  case h17 =>
   simp only [ae, aN, af, ak, bM, cx, ac, az, ai, cW, ab, Nat.reduceEqDiff, reduceIte, ag, bx, ft, Jh, pU, Bool.not_true, List.nil_append, List.append_nil, Nat.add_zero, evals, lp, aw, dw, lu, hs, call16, we, l0]
   exact rfl
  case k17 =>
  refine cP false (by simp only [ai, ab, Nat.reduceEqDiff, reduceIte]) (fun h => by cases h) (fun _ => ?_)
  refine lE ?_
  repeat refine aJ ?_
  refine ao (t' := ?t18) (ds' := ?d18) (up' := ?u18) (s' := ?s18) (by kernel_rfl) ?h18 ?k18
  case h18 =>
   simp only [aX, ae, aN, af, ak, ac, az, ai, ab, Nat.reduceEqDiff, reduceIte, ag, Nat.zero_add, Nat.add_zero, lp, List.getElem?_cons_zero, List.getElem?_cons_succ, aw, dw, dU, As, wE g15, l0]
   exact rfl
  case k18 =>
  have hnp : ¬ plainAt l p := by
   rcases hq1 with rfl | ⟨_, h2⟩
   ·rintro ⟨h0, h1⟩; rw [h0, Nat.add_zero] at hs; rw [hs] at h1; cases h1
   ·exact h2
  obtain ⟨out, hco, hq⟩ := Mi hb hl hs hm.wf g15
  rcases hq with ⟨_, u1, rfl, rfl, q2, hq21, hq22, gu, fwu⟩ | ⟨c, u1, rfl, hthr, fwu⟩
  ·have call : bq (lim au) 237 [.ptr ⟨fs, 0, 0⟩] none s14 = some ⟨.returned (.tuple []), none, u1⟩ := hco
   have hm := hm.call1 0 rfl (fun _ h => by cases h) fwu gu
   simp only [List.set_cons_zero] at hm
   have hGu := hGe.fw fwu (fun X h => by have := (hX1 X h).1; simpa using this)
   have gu := hm.at 0 rfl
   repeat refine aJ ?_
   refine ao (t' := ?t91) (ds' := ?d91) (up' := ?u91) (s' := ?s91) (by kernel_rfl) ?h91 ?k91
   case h91 =>
    simp only [ae, aN, af, ak, bM, cx, ac, az, ai, cW, ab, Nat.reduceEqDiff, reduceIte, ag, bx, ft, List.nil_append, List.append_nil, evals, Pr, call, l0]
    exact rfl
   case k91 =>
   have hcm1 := hGu.one
   have bd19_203 : fZ Tryz.prog 295 (some [(0, .int .i64 ((q + (aQ cj l q) : Nat) : Int)), (1, .int .i64 ((q2 : Nat) : Int))]) = some (.agg [.int .i64 ((q + (aQ cj l q) : Nat) : Int), .int .i64 ((q2 : Nat) : Int)]) := by rfl
   have hm20 := hm.alloc (B := .cells 295 false 1 [⟨0, 0, [.int .i64 ((q + (aQ cj l q) : Nat) : Int), .int .i64 ((q2 : Nat) : Int)]⟩]) (fun _ h => by cases h)
   have g21 := hm20.at 0 rfl
   have hGb := hGu.fw (Fw.alloc [] (hm.wf) (.cells 295 false 1 [⟨0, 0, [.int .i64 ((q + (aQ cj l q) : Nat) : Int), .int .i64 ((q2 : Nat) : Int)]⟩])) (fun X _ => by simp)
   obtain ⟨cm2, u2, X, happ, hG2, hble, hor⟩ := hGb.app PQ hm20.wf (c := some 1) g21 rfl rfl (by omega)
   have hmb := hm20
   have hm2 : Me (fs :: o.toList) s u2 [(fs, MZ e sb nv l q2 mm cm1)] := by
    rcases hor with ⟨_, rfl, hf⟩ | ⟨hX, hf⟩
    ·exact (hmb.call hf).tl
    ·have hXX := hX1 X hX
     exact hmb.tl.callX hf (hXX.2.elim .inl (fun h => .inr (hXF X h))) (fun x hx => by simp at hx; subst hx; exact fun h => hXX.1 h.symm)
   have hX2 : ∀ Y, some X = some Y → Y ≠ fs ∧ (s.next ≤ Y ∨ o = some Y) := by
    intro Y hY; cases hY
    rcases hor with ⟨_, h, _⟩ | ⟨h, _⟩
    ·have h1 := hm.fw.next
     have h2 := hm.wf fs _ gu
     rw [S.next_alloc] at h
     exact ⟨by omega, .inl (by omega)⟩
    ·exact hX1 X h
   have hm22 := hm2
   have g23 := hm22.at 0 rfl
   have hm24 := hm22.put 0 rfl (B' := .cells e sb nv [⟨0, 0, [.str l, .int .i64 ((q2 : Nat) : Int), .map mm, cm2]⟩]) (fun _ h => by cases h)
   simp only [List.set_cons_zero] at hm24
   refine fK (t' := ?t25) (ds' := ?d25) (up' := ?u25) (s' := ?s25) [(some 1, 1), (some 1, 2), (some 1, 3), (some 1, 4), (some 1, 5), (some 1, 6), (some 1, 7), (some 1, 8), (some 1, 9), (some 1, 10), (some 1, 11), (some 1, 12), (none, 13), (some 2, 0), (some 1, 14), (some 1, 15), (none, 16)] (by kernel_rfl) (by kernel_rfl) ?h25 ?k25
   case h25 =>
    simp only [cp, dO, gF, cq, eG, bn, bC, ea, cZ, dE, aG, dG, yE, gg, cu, vH, bR, sh, bo, cr, bz, al, List.take_succ_cons, List.take_zero, List.take_nil, qS, iH, cM, aX, cN, ac, az, ai, ab, dY, Nat.reduceEqDiff, reduceIte, ag, bx, eg, Nat.zero_add, Nat.add_zero, evals, lp, List.getElem?_toArray, List.getElem?_cons_zero, List.getElem?_cons_succ, aw, Od, RU, wE gu, dw, dU, As, dR, bd19_203, Rt, sB, happ, hble, RH _ _ (cm2) hG2.cel, GU g23 3 [cm2] (by simp only [List.all_cons, List.all_nil, hG2.one, Bool.and_self]) rfl, l0]
    exact rfl
   case k25 =>
   have hm := hm24
   have hGz := hG2.fw (Fw.put (F := [fs]) (by simp) (hm2.at 0 rfl) (fun _ h => by cases h) (MZ e sb nv l q2 mm cm2)) (fun Y h => by have := (hX2 Y h).1; simpa using this)
   generalize hs25 : S.put u2 fs _ = s26 at hm hGz ⊢
   have g27 := hm.at 0 rfl
   refine cU ?_
   refine hnext _ _ _ (by omega) ⟨q2, n1 + 1, cm2, _, _, rfl, by omega, hq22, .inr ⟨by omega, hnp⟩, by omega, hm, hGz, hX2, ?_⟩
   ·simp only [ab, Nat.reduceEqDiff, reduceIte, l0] <;> rfl
  ·have call : bq (lim au) 237 [.ptr ⟨fs, 0, 0⟩] none s14 = some ⟨.panicked c, none, u1⟩ := hco
   repeat refine aJ ?_
   refine JK (t' := ?t90) (c := ?d90) (s' := ?s90) (by kernel_rfl) ?h90 ?k90
   case h90 =>
    simp only [ae, af, ak, bM, ac, az, ai, cW, ab, Nat.reduceEqDiff, reduceIte, ag, bx, ft, List.nil_append, List.append_nil, evals, ss, Pr, call, l0]
    exact rfl
   case k90 =>
   exact ⟨⟨hthr, hnp⟩, hm.fw.trans (fwu.mono (by simp))⟩
end Go.AI.Lx
