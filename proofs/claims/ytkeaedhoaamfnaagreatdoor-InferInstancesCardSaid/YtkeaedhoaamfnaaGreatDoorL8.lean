/- What the functions answer in the evaluator: part 8. No conditions beyond those of the row. -/
import Derived.Test.YtkeaedhoaamfnaaGreatDoorL7
import Derived.Test.YtkeaedhoaamfnaaGreatDoorA12
set_option linter.unusedVariables false
set_option linter.unusedSimpArgs false
noncomputable section
namespace Go.AI.Lx
open Go.Proofs Go.Proofs.YtkeaedhoaamfnaaGreatDoor
set_option maxRecDepth 10000
theorem Eh : size Tryz.prog 135 = some 1 := by kernel_rfl
theorem If : fj Tryz.prog 135 = some false := by kernel_rfl
theorem SJ (s : S) : eJ Tryz.prog s 135 = some (.val (.ptr ⟨s.next, 0, 0⟩) (s.alloc (.cells 135 false 1 [⟨0, 0, [.nilslice]⟩]))) := by kernel_rfl
theorem Hz (s : S) (a : Ad) : loadVar Tryz.prog s 135 a = cz s a := by simp only [loadVar, If]
theorem Kb (s : S) (a : Ad) (v : V) (h : v.cells = [v]) : storeVar Tryz.prog s 135 a v = storeCells s a [v] := by
 simp only [storeVar, Eh, h]; rfl
theorem EW : zi Tryz.prog 135 117 4 := ⟨by kernel_rfl, by kernel_rfl, by kernel_rfl, by kernel_rfl, by kernel_rfl⟩
theorem Ru (s : S) (x0 x1 x2 x3 : V) : bt Tryz.prog s 135 1 (some [(0, .agg [x0, x1, x2, x3])]) = some (.val (.slice ⟨s.next, 0, 0⟩ 0 1 (some 1) 4) (s.alloc (.cells 117 false 1 [⟨0, 0, [x0, x1, x2, x3]⟩]))) := by kernel_rfl
def OT : Code := match Tryz.f102.body with
 | some (.seq _ (.seq _ (.seq _ (.seq (.seq _ (.block _ c)) _)))) => c
 | _ => .skip
def La : Code := match OT with
 | .rangeFunc _ _ a _ => a
 | _ => .skip
def KZ : Code := match OT with
 | .rangeFunc _ _ _ b => b
 | _ => .skip
abbrev kN (tr : T V) (d : Nat) (st : LoopState) : bP := .loop st none 102 tr #[11] La KZ d Tryz.f102.ntmps
def IT (tr : T V) (d lb A : Nat) (n : Nat) (c : List V) (D : List Nat) (s : S) : Prop := ∃ (o : Option Nat) (v : V) (cs : List V), D = lb :: A :: o.toList ∧ s.get lb = some (kN tr d .ready) ∧ s.get A = some (.cells 135 false 1 [⟨0, 0, [v]⟩]) ∧
 gx 117 4 s v n cs o ∧ (1 ≤ n → cs.take 4 = c) ∧ (∀ X, o = some X → X ≠ lb ∧ X ≠ A) ∧ lb ≠ A
theorem Qt (tr : T V) (d lb A n : Nat) (c : List V) (D : List Nat) : iA D (IT tr d lb A n c D) := fun s s' ⟨o, v, cs, hD, h1, h2, h3, h4, h5, h6⟩ hk hn =>
 ⟨o, v, cs, hD, hk _ (by simp [hD]) _ h1, hk _ (by simp [hD]) _ h2, h3.keep (fun X B hX hB => hk X (by simp [hD, hX]) B hB), h4, h5, h6⟩
theorem Ta {tr : T V} {d lb A : Nat} (ht : tr.get (eT 3) = some (.ptr ⟨A, 0, 0⟩)) : TK lb (IT tr d lb A) := by
 refine ⟨fun n c D => Qt tr d lb A n c D, ?_⟩
 rintro n c D s tok ⟨o, v, cs, rfl, gl, ga, hG, hc, hX, hne⟩ hw h1 h4 hn hlt
 obtain ⟨x0, x1, x2, x3, rfl⟩ : ∃ x0 x1 x2 x3, tok = [x0, x1, x2, x3] := by
  match tok, h4 with
  | [a, b, c, d], _ => exact ⟨a, b, c, d, rfl⟩
 have hall : [x0, x1, x2, x3].all V.one = true := h1
 have key : Wp au 102 Tryz.f102 (cK tr [11] [.agg [x0, x1, x2, x3]] id) [.code La, .beginRound, .code KZ] [] none (some lb) s (fun out => ∃ s' D', out = ⟨.returned (.bool true), none, s'⟩ ∧ Fw (lb :: A :: o.toList) s s' ∧ IT tr d lb A (n + 1) (if n = 0 then [x0, x1, x2, x3] else c) D' s' ∧ (∀ g ∈ D', g < s'.next ∧ (g ∈ lb :: A :: o.toList ∨ s.next ≤ g))) := by
  rw [show cK tr [11] [.agg [x0, x1, x2, x3]] id = putD tr (some 11) (.agg [x0, x1, x2, x3]) from rfl]
  have hm := (Me.start (F := []) hw).alloc (B := .cells 117 false 1 [⟨0, 0, [.int .i64 0, .int .i64 0, .str [], .int .i64 0]⟩]) (fun _ h => by cases h)
  generalize hN : s.next = N at hm
  have g1 := hm.at 0 rfl
  have hm2 := hm.put 0 rfl (B' := .cells 117 false 1 [⟨0, 0, [x0, x1, x2, x3]⟩]) (fun _ h => by cases h)
  simp only [List.set_cons_zero] at hm2
  refine ao (t' := ?t1) (ds' := ?d1) (up' := ?u1) (s' := ?s1) (by kernel_rfl) ?h1 ?k1
  case h1 =>
   simp only [cM, cN, ae, aN, af, ak, fe, ac, az, ai, ab, dY, Nat.reduceEqDiff, reduceIte, lp, Pv, hN, OQ _ _ [x0, x1, x2, x3] rfl, GU g1 0 [x0, x1, x2, x3] hall rfl]
   exact rfl
  case k1 =>
  generalize S.put _ N _ = s1 at hm2 ⊢
  have hf1 := hm2.fw
  have gN := hm2.at 0 rfl
  have gl1 := hf1.keep _ _ (by simp) gl
  have ga1 := hf1.keep _ _ (by simp) ga
  have hG1 := hG.fw hf1 (by simp)
  have hnx1 := hf1.next
  have hlN : lb ≠ N := by have := hlt lb (by simp); omega
  have hAN : A ≠ N := by have := hlt A (by simp); omega
  have hXN : ∀ X, o = some X → X ≠ N := fun X hx => by have := hlt X (by simp [hx]); omega
  refine JM gl1 ?_
  have hf2 : Fw [lb] s1 (s1.put lb (kN tr d .busy)) := Fw.put (by simp) gl1 (fun _ h => by cases h) _
  have hl2 : (s1.put lb (kN tr d .busy)).get lb = some (kN tr d .busy) := by rw [S.get_put, if_pos rfl]
  generalize s1.put lb (kN tr d .busy) = s2 at hf2 hl2 ⊢
  have gN2 := hf2.keep _ _ (by simp [hlN.symm]) gN
  have ga2 := hf2.keep _ _ (by simp [hne.symm]) ga1
  have hG2 := hG1.fw hf2 (fun X hx => by simp [(hX X hx).1])
  have hw2 := hf2.wf (hf1.wf hw)
  have hf3 := Fw.alloc [] hw2 (.cells 117 false 1 [⟨0, 0, [x0, x1, x2, x3]⟩])
  have gM3 := bT s2 (.cells 117 false 1 [⟨0, 0, [x0, x1, x2, x3]⟩])
  have hnx2 := hf2.next
  have hnx3 := hf3.next
  obtain ⟨v', s4, X', happ, hG4, hble, hor⟩ := (hG2.fw hf3 (by simp)).app EW (hf3.wf hw2) (c := some 1) gM3 rfl hall (by omega)
  have ga3 := hf3.keep _ _ (by simp) ga2
  have hl3 := hf3.keep _ _ (by simp) hl2
  have hXX : (X' ≠ lb ∧ X' ≠ A) ∧ (o = some X' ∨ s.next ≤ X') := by
   rcases hor with ⟨_, h, _⟩ | ⟨h, _⟩
   ·have h2 := hlt lb (by simp)
    have h3 := hlt A (by simp)
    rw [S.next_alloc] at h
    exact ⟨⟨by omega, by omega⟩, .inr (by omega)⟩
   ·exact ⟨hX X' h, .inl h⟩
  have hf4 : Fw [X'] (s2.alloc (.cells 117 false 1 [⟨0, 0, [x0, x1, x2, x3]⟩])) s4 := by
   rcases hor with ⟨_, _, h⟩ | ⟨_, h⟩
   ·exact h.mono (by simp)
   ·exact h
  have ga4 := hf4.keep _ _ (by simp [hXX.1.2.symm]) ga3
  have hl4 := hf4.keep _ _ (by simp [hXX.1.1.symm]) hl3
  have hv1 : [v'].all V.one = true := by simp [hG4.one]
  have htk : aO 4 [x0, x1, x2, x3] = some [x0, x1, x2, x3] := rfl
  refine cH ?_
  refine ao (t' := ?t2) (ds' := ?d2) (up' := ?u2) (s' := ?s2) (by kernel_rfl) ?h2 ?k2
  case h2 =>
   simp only [cM, aX, cN, ae, aN, af, ak, fe, ac, az, ai, ab, dY, Nat.reduceEqDiff, reduceIte, ag, bx, eg, evals, lp, List.getElem?_toArray, List.getElem?_cons_zero, List.getElem?_cons_succ, Option.map, Hz, wE ga2, Pb, MY gN2, List.drop_zero, htk, dR, Ru, sB, happ, Kb _ _ v' hG4.cel, GU ga4 0 [v'] hv1 rfl, ht]
   exact rfl
  case k2 =>
  have hf5 : Fw [A] s4 (s4.put A (.cells 135 false 1 [⟨0, 0, [v']⟩])) := Fw.put (by simp) ga4 (fun _ h => by cases h) _
  have ga5 : (s4.put A (.cells 135 false 1 [⟨0, 0, [v']⟩])).get A = some (.cells 135 false 1 [⟨0, 0, [v']⟩]) := by rw [S.get_put, if_pos rfl]
  generalize s4.put A (.cells 135 false 1 [⟨0, 0, [v']⟩]) = s5 at hf5 ga5 ⊢
  have hl5 := hf5.keep _ _ (by simp [hne]) hl4
  have hG5 := hG4.fw hf5 (fun X hx => by cases hx; simp [hXX.1.2])
  refine cU (Bw hl5 ?_)
  have hf6 : Fw [lb] s5 (s5.put lb (kN tr d .ready)) := Fw.put (by simp) hl5 (fun _ h => by cases h) _
  have hl6 : (s5.put lb (kN tr d .ready)).get lb = some (kN tr d .ready) := by rw [S.get_put, if_pos rfl]
  refine ⟨_, lb :: A :: (some X').toList, rfl, ?_, ⟨some X', v', cs ++ [x0, x1, x2, x3], rfl, hl6, hf6.keep _ _ (by simp [hne.symm]) ga5, hG5.fw hf6 (fun X hx => by cases hx; simp [hXX.1.1]), ?_, fun X hx => by cases hx; exact hXX.1, hne⟩, ?_⟩
  ·have hA : Fw (lb :: A :: X' :: []) s (s5.put lb (kN tr d .ready)) :=
    ((((hf1.mono (by simp)).trans (hf2.mono (by simp))).trans (hf3.mono (by simp))).trans (hf4.mono (by simp))).trans ((hf5.mono (by simp)).trans (hf6.mono (by simp)))
   rcases hXX.2 with h | h
   ·rw [h]; exact hA
   ·refine ⟨fun g B hg hB => hA.keep g B (fun hm => ?_) hB, hA.ro, hA.next, hA.wf⟩
    have := hw g B hB
    simp only [List.mem_cons, List.not_mem_nil, or_false] at hm
    rcases hm with rfl | rfl | rfl
    ·exact hg (by simp)
    ·exact hg (by simp)
    ·omega
  ·intro _
   by_cases h0 : n = 0
   ·subst h0
    cases hG with
    | nil => rfl
    | row X nv rest n cs k1 k2 k3 =>
     have : cs = [] := List.eq_nil_of_length_eq_zero (by omega)
     subst this; rfl
   ·rw [if_neg h0, ← hc (by omega)]
    have : 4 ≤ cs.length := by
     cases hG with
     | nil => omega
     | row X nv rest n cs k1 k2 k3 => omega
    rw [List.take_append_of_le_length this]
  ·intro g hg
   have hn4 := hf4.next
   have hn5 := hf5.next
   have hn6 := hf6.next
   have hwf6 := hf6.wf (hf5.wf (hf4.wf (hf3.wf hw2)))
   simp only [List.mem_cons, Option.toList, List.not_mem_nil, or_false] at hg
   rcases hg with rfl | rfl | rfl
   ·exact ⟨hwf6 _ _ hl6, .inl (by simp)⟩
   ·exact ⟨Nat.lt_of_lt_of_le (show g < s5.next by have := hlt g (by simp); omega) hf6.next, .inl (by simp)⟩
   ·refine ⟨Nat.lt_of_lt_of_le (Nat.lt_of_lt_of_le (hG4.lt (hf4.wf (hf3.wf hw2))) hf5.next) hf6.next, ?_⟩
    ·rcases hXX.2 with h | h
     ·exact .inl (by simp [h])
     ·exact .inr (by omega)
 obtain ⟨out, hfr, s', D', rfl, hF, hI, hb⟩ := key
 exact ⟨s', D', none, KM gl Tryz.func102 (by kernel_rfl) hfr (fun k => by simp only [cK, T.setK_eq]; rfl), hF, hI, hb⟩
theorem GK {E : cg} {f : FuncId} {fn : Func} {t : T V} {ds : List dT} {up : Option Md} {s : S} {Q : cX → Prop} (h : Un E f fn t ds .returning up s Q) : Wp E f fn t [] ds up none s Q := by
 obtain ⟨o, h1, h2⟩ := h
 refine ⟨o, ?_, h2⟩
 unfold Fr
 rw [ey]
 simp only [aU, aV, cQ, iU, fF]
 exact h1
theorem nl {rec : fu} {recR : pK} {rd : Option Nat} {d : Option Tmp} {t : T V} {ds : List dT} {up : Option Md} {k : RK} {s : S} : dX rec recR rd d t ds up k (some (.recover s)) = recovered d t ds s k up := rfl
theorem wW {d : Option Tmp} {t : T V} {ds : List dT} {s : S} {k : RK} : recovered d t ds s k (some .returning) = k (putD t d .nilIface) ds (some .returning) s := by simp only [recovered, cV]
theorem wX {d : Option Tmp} {t : T V} {ds : List dT} {s : S} {k : RK} {v : V} {r : List tX} : recovered d t ds s k (some (.panicking (⟨v, false⟩ :: r))) = k (putD t d v) ds (some (.panicking (⟨v, true⟩ :: r))) s := by simp only [recovered, cV]
theorem Mb {A B : Nat} {s : S} : lim au (.call 155 [.ptr ⟨A, 0, 0⟩, .ptr ⟨B, 0, 0⟩] (some .returning)) s = some ⟨.returned (.tuple []), some .returning, s⟩ := by
 have key : Wp au 155 Tryz.f155 (bi [.ptr ⟨A, 0, 0⟩, .ptr ⟨B, 0, 0⟩] 0 .leaf id) [.code (match Tryz.f155.body with | some c => c | none => .skip)] [] (some .returning) none s (fun o => o = ⟨.returned (.tuple []), some .returning, s⟩) := by
  rw [bf, bf, dM]
  refine aJ ?_
  refine ao (t' := ?t1) (ds' := ?d1) (up' := ?u1) (s' := ?s1) (by kernel_rfl) ?h1 ?k1
  case h1 =>
   simp only [ae, aN, af, ac, az, bx, eg, Nat.zero_add, evals, nl, wW]
   exact rfl
  case k1 =>
  refine cH ?_
  refine aJ ?_
  refine ao (t' := ?t2) (ds' := ?d2) (up' := ?u2) (s' := ?s2) (by kernel_rfl) ?h2 ?k2
  case h2 =>
   simp only [ae, af, ac, az, ai, ab, Nat.reduceEqDiff, reduceIte, lp, cS, bj, eE, cond_true, bD, Option.map, yB]
   exact rfl
  case k2 =>
  refine cP true (by simp only [ai]; exact rfl) (fun _ => ?_) (fun h => by cases h)
  refine ao (t' := ?t3) (ds' := ?d3) (up' := ?u3) (s' := ?s3) (by kernel_rfl) ?h3 ?k3
  case h3 =>
   simp only [ae, af, ac, az, ai]
   exact rfl
  case k3 =>
  refine cU (GK (zq (v := .tuple []) ?_ rfl))
  exact rfl
 obtain ⟨o, h1, rfl⟩ := key
 exact BF Tryz.func155 rfl (by kernel_rfl) h1
theorem Mc {A B : Nat} {a e : Int} {av : V} {be : List V} {s : S} (hw : WF s) (hA : s.get A = some (.cells 135 false 1 [⟨0, 0, [av]⟩])) (hB : s.get B = some (.cells 172 false 1 [⟨0, 0, be⟩])) (hbe : be.length = 2) (hne : A ≠ B) :
 ∃ s', lim au (.call 155 [.ptr ⟨A, 0, 0⟩, .ptr ⟨B, 0, 0⟩] (some (.panicking [⟨.iface 172 (.agg [.int .i64 a, .int .i64 e]), false⟩]))) s = some ⟨.returned (.tuple []), some (.panicking [⟨.iface 172 (.agg [.int .i64 a, .int .i64 e]), true⟩]), s'⟩ ∧
  s'.get A = some (.cells 135 false 1 [⟨0, 0, [.nilslice]⟩]) ∧ s'.get B = some (.cells 172 false 1 [⟨0, 0, [.int .i64 a, .int .i64 e]⟩]) ∧ Fw [A, B] s s' := by
 have key : Wp au 155 Tryz.f155 (bi [.ptr ⟨A, 0, 0⟩, .ptr ⟨B, 0, 0⟩] 0 .leaf id) [.code (match Tryz.f155.body with | some c => c | none => .skip)] [] (some (.panicking [⟨.iface 172 (.agg [.int .i64 a, .int .i64 e]), false⟩])) none s
  (fun o => ∃ s', o = ⟨.returned (.tuple []), some (.panicking [⟨.iface 172 (.agg [.int .i64 a, .int .i64 e]), true⟩]), s'⟩ ∧ s'.get A = some (.cells 135 false 1 [⟨0, 0, [.nilslice]⟩]) ∧ s'.get B = some (.cells 172 false 1 [⟨0, 0, [.int .i64 a, .int .i64 e]⟩]) ∧ Fw [A, B] s s') := by
  rw [bf, bf, dM]
  refine aJ ?_
  refine ao (t' := ?t1) (ds' := ?d1) (up' := ?u1) (s' := ?s1) (by kernel_rfl) ?h1 ?k1
  case h1 =>
   simp only [ae, aN, af, ac, az, bx, eg, Nat.zero_add, evals, nl, wX]
   exact rfl
  case k1 =>
  refine cH ?_
  refine aJ ?_
  have hq : dJ Tryz.prog (AI.plainAt s) 20 20 (.iface 172 (.agg [.int .i64 a, .int .i64 e])) .nilIface = some false := by kernel_rfl
  refine ao (t' := ?t2) (ds' := ?d2) (up' := ?u2) (s' := ?s2) (by kernel_rfl) ?h2 ?k2
  case h2 =>
   simp only [ae, aN, af, ak, ac, az, ai, ab, Nat.reduceEqDiff, reduceIte, ag, lp, cS, bj, eE, cond_true, bD, Option.map, yB, hq]
   exact rfl
  case k2 =>
  refine cP false (by simp only [ai, ab, Nat.reduceEqDiff, reduceIte]) (fun h => by cases h) (fun _ => ?_)
  refine aJ ?_
  have has : fT Tryz.prog (some (.iface 172 (.agg [.int .i64 a, .int .i64 e]))) 172 true = some (.tuple [.agg [.int .i64 a, .int .i64 e], .bool true]) := by kernel_rfl
  refine ao (t' := ?t3) (ds' := ?d3) (up' := ?u3) (s' := ?s3) (by kernel_rfl) ?h3 ?k3
  case h3 =>
   simp only [ae, aN, af, ak, ac, az, ai, ab, Nat.reduceEqDiff, reduceIte, ag, lp, List.getElem?_cons_zero, List.getElem?_cons_succ, has, tn]
   exact rfl
  case k3 =>
  refine cP true (by simp only [ai, ab, Nat.reduceEqDiff, reduceIte]) (fun _ => ?_) (fun h => by cases h)
  refine aJ ?_
  have hm := (Me.start (F := []) hw).alloc (B := .cells 172 false 1 [⟨0, 0, [.int .i64 0, .int .i64 0]⟩]) (fun _ h => by cases h)
  generalize hN : s.next = N at hm
  have g1 := hm.at 0 rfl
  have hm2 := hm.put 0 rfl (B' := .cells 172 false 1 [⟨0, 0, [.int .i64 a, .int .i64 e]⟩]) (fun _ h => by cases h)
  simp only [List.set_cons_zero] at hm2
  refine ao (t' := ?t4) (ds' := ?d4) (up' := ?u4) (s' := ?s4) (by kernel_rfl) ?h4 ?k4
  case h4 =>
   simp only [cM, cN, ae, aN, af, ak, fe, ac, az, ai, ab, dY, Nat.reduceEqDiff, reduceIte, lp, Pu, hN, Ka _ _ [.int .i64 a, .int .i64 e] rfl, GU g1 0 [.int .i64 a, .int .i64 e] rfl rfl]
   exact rfl
  case k4 =>
  generalize S.put _ N _ = s1 at hm2 ⊢
  have hf1 := hm2.fw
  have gN := hm2.at 0 rfl
  have hA1 := hf1.keep _ _ (by simp) hA
  have hB1 := hf1.keep _ _ (by simp) hB
  have hf2 : Fw [A] s1 (s1.put A (.cells 135 false 1 [⟨0, 0, [.nilslice]⟩])) := Fw.put (by simp) hA1 (fun _ h => by cases h) _
  have hA2 : (s1.put A (.cells 135 false 1 [⟨0, 0, [.nilslice]⟩])).get A = some (.cells 135 false 1 [⟨0, 0, [.nilslice]⟩]) := by rw [S.get_put, if_pos rfl]
  have hst : storeCells s1 ⟨A, 0, 0⟩ [.nilslice] = some (s1.put A (.cells 135 false 1 [⟨0, 0, [.nilslice]⟩])) := GU hA1 0 [.nilslice] rfl rfl
  generalize s1.put A (.cells 135 false 1 [⟨0, 0, [.nilslice]⟩]) = s2 at hf2 hA2 hst
  have hAN : A ≠ N := by have := hw A _ hA; omega
  have gN2 := hf2.keep _ _ (by simp [hAN.symm]) gN
  have hB2 := hf2.keep _ _ (by simp [hne.symm]) hB1
  obtain ⟨b1, b2, rfl⟩ : ∃ b1 b2, be = [b1, b2] := by
   match be, hbe with
   | [x, y], _ => exact ⟨x, y, rfl⟩
  have hf3 : Fw [B] s2 (s2.put B (.cells 172 false 1 [⟨0, 0, [.int .i64 a, .int .i64 e]⟩])) := Fw.put (by simp) hB2 (fun _ h => by cases h) _
  have hB3 : (s2.put B (.cells 172 false 1 [⟨0, 0, [.int .i64 a, .int .i64 e]⟩])).get B = some (.cells 172 false 1 [⟨0, 0, [.int .i64 a, .int .i64 e]⟩]) := by rw [S.get_put, if_pos rfl]
  have hst3 : storeCells s2 ⟨B, 0, 0⟩ [.int .i64 a, .int .i64 e] = some (s2.put B (.cells 172 false 1 [⟨0, 0, [.int .i64 a, .int .i64 e]⟩])) := GU hB2 0 [.int .i64 a, .int .i64 e] rfl rfl
  have hnb2 := hf2.ble
  have hnb3 := hf3.ble
  generalize s2.put B (.cells 172 false 1 [⟨0, 0, [.int .i64 a, .int .i64 e]⟩]) = s3 at hf3 hB3 hst3 hnb3
  have htk : aO 2 [V.int .i64 a, .int .i64 e] = some [.int .i64 a, .int .i64 e] := rfl
  refine fK (t' := ?t5) (ds' := ?d5) (up' := ?u5) (s' := ?s5) [(none, 1), (some 2, 0), (none, 2)] (by kernel_rfl) (by kernel_rfl) ?h5 ?k5
  case h5 =>
   simp only [cp, dO, gF, cq, eG, bn, bC, ea, cZ, dE, aG, dG, gg, bo, cr, bz, ku, iw, al, List.take_succ_cons, List.take_nil, iH, cM, aX, cN, ac, az, ai, ab, dY, Nat.reduceEqDiff, reduceIte, ag, lp, List.getElem?_toArray, List.getElem?_cons_zero, List.getElem?_cons_succ, Option.map, bz, Je, Kb _ _ .nilslice rfl, hst, hnb2, Hy, MY gN, MY gN2, List.drop_zero, htk, Ka _ _ [.int .i64 a, .int .i64 e] rfl, hst3, hnb3]
   exact rfl
  case k5 =>
  refine cU (GK (zq (v := .tuple []) ?_ ?_))
  ·exact rfl
  ·exact ⟨s3, rfl, hf3.keep _ _ (by simp [hne]) hA2, hB3, ((hf1.mono (by simp)).trans (hf2.mono (by simp))).trans (hf3.mono (by simp))⟩
 obtain ⟨o, h1, s', rfl, h2, h3, h4⟩ := key
 exact ⟨s', BF Tryz.func155 rfl (by kernel_rfl) h1, h2, h3, h4⟩
theorem JZ {fs : Nat} {s : S} (hw : WF s) : Cw au 156 [.ptr ⟨fs, 0, 0⟩] s fun v s' => ∃ vb, v = .func (.func 202) [] [.ptr ⟨vb, 0, 0⟩] ∧ s.next ≤ vb ∧ s'.get vb = some (.cells 170 false 1 [⟨0, 0, [.ptr ⟨fs, 0, 0⟩]⟩]) ∧ Fw [] s s' := by
 refine aL (bb (C := yR) (e := ⟨[.ptr ⟨fs, 0, 0⟩], []⟩) (F := []) rfl Tryz.func156 rfl (by kernel_rfl) Is rfl ⟨rfl, rfl, rfl⟩ rfl hw rfl (by simp) trivial ay trivial (by simp) ?_)
 refine bd fun b1 hb1 hd1 => ?_
 exact aE fun s1 h1 h2 h3 h4 => ⟨_, _, rfl, b1, rfl, hb1, h4.1, h1⟩
theorem SG (args : List V) (s : S) : fU au 154 args s = some (.enter 154 args s) := by kernel_rfl
theorem SF (args : List V) (s : S) : fU au 156 args s = some (.enter 156 args s) := by kernel_rfl
def SN (l : List Nat) (v : V) (b : Nat) (s : S) : Prop := ∃ (p row : V) (a e : Int), v = .tuple [p, row, .agg [.int .i64 a, .int .i64 e]] ∧ p.one = true ∧ ((e ≠ 0 ∧ aK l = 0 ∧ row = .nilslice) ∨ (e = 0 ∧ ∃ (n : Nat) (c cs : List V) (o : Option Nat), SP l l.length n c ∧ gx 117 4 s row n cs o ∧ (1 ≤ n → cs.take 4 = c) ∧ ∀ X, o = some X → b ≤ X))
theorem Kt {l : List Nat} (hb : Bytes l) (hl : l.length ≤ 24) {s : S} (hw : WF s) (hG : cF s) : Cw au 102 [.str l] s fun v s' => SN l v s.next s' ∧ Fw [] s s' := by
 refine aL ?_
 refine qN (fn := Tryz.f102) rfl Tryz.func102 rfl (by kernel_rfl) ?_
 rw [bf, dM]
 have hm := ((Me.start (F := []) hw).alloc (B := .cells 135 false 1 [⟨0, 0, [.nilslice]⟩]) (fun _ h => by cases h)).alloc (B := .cells 172 false 1 [⟨0, 0, [.int .i64 0, .int .i64 0]⟩]) (fun _ h => by cases h)
 have hBn : (s.alloc (.cells 135 false 1 [⟨0, 0, [.nilslice]⟩])).next = s.next + 1 := S.next_alloc _ _
 rw [hBn] at hm
 generalize hA : s.next = A at hm hBn
 repeat refine aJ ?_
 refine ao (t' := ?t1) (ds' := ?d1) (up' := ?u1) (s' := ?s1) (by kernel_rfl) ?h1 ?k1
 case h1 =>
  simp only [ae, aN, af, ak, ac, az, ag, lp, Jf, SJ, Pu, hA, hBn]
  exact rfl
 case k1 =>
 generalize S.alloc (S.alloc s _) _ = s1 at hm ⊢
 refine aJ ?_
 obtain ⟨v1, s2, call1, fs, mm, rfl, gfs, gmm, hfs, hmm, hfm, hf2⟩ := Qc (l := l) hm.wf
 have call1 := ir call1
 refine ao (t' := ?t2) (ds' := ?d2) (up' := ?u2) (s' := ?s2) (by kernel_rfl) ?h2 ?k2
 case h2 =>
  simp only [ae, aN, af, ak, bM, cx, ac, az, ai, cW, ab, Nat.reduceEqDiff, reduceIte, ag, bx, ft, List.nil_append, List.append_nil, evals, SG, call1]
  exact rfl
 case k2 =>
 refine aJ ?_
 refine ao (t' := ?t3) (ds' := ?d3) (up' := ?u3) (s' := ?s3) (by kernel_rfl) ?h3 ?k3
 case h3 =>
  simp only [ae, af, ac, az, ai, ab, Nat.reduceEqDiff, reduceIte, evals]
  exact rfl
 case k3 =>
 generalize hT : T.node _ (some (V.str l)) _ = t3
 have l2 : t3.get (eT 2) = some (.ptr ⟨fs, 0, 0⟩) := by rw [← hT]; rfl
 have l3 : t3.get (eT 3) = some (.ptr ⟨A, 0, 0⟩) := by rw [← hT]; rfl
 have l4 : t3.get (eT 4) = some (.ptr ⟨A + 1, 0, 0⟩) := by rw [← hT]; rfl
 clear hT
 have hm2 := hm.call hf2
 obtain ⟨v2, s3, call2, vb, rfl, hvb, gvb, hf3⟩ := JZ (fs := fs) hm2.wf
 have call2 := ir call2
 repeat refine aJ ?_
 refine ao (t' := ?t4) (ds' := ?d4) (up' := ?u4) (s' := ?s4) (by kernel_rfl) ?h4 ?k4
 case h4 =>
  simp only [ae, aN, af, ak, bM, cx, ac, az, ai, cW, ab, reduceIte, ag, bx, ft, List.nil_append, List.append_nil, evals, SF, call2, l2]
  exact rfl
 case k4 =>
 have hm3 := hm2.call hf3
 have gA := hm3.at 1 rfl
 have gB := hm3.at 0 rfl
 have gfs3 := hf3.keep _ _ (by simp) gfs
 have gmm3 := hf3.keep _ _ (by simp) gmm
 have hf13 := hm3.fw
 have hw3 := hm3.wf
 have hlA : A < s1.next := hm.wf _ _ (hm.at 1 rfl)
 have hlB : A + 1 < s1.next := hm.wf _ _ (hm.at 0 rfl)
 have hl2 := hf2.next
 refine cH ?_
 have hf4 : Fw [] s3 (s3.alloc .deferred) := Fw.alloc [] hw3 _
 have hw4 := hf4.wf hw3
 have hlb : (s3.alloc .deferred).next = s3.next + 1 := S.next_alloc _ _
 have hf5 : Fw [] (s3.alloc .deferred) ((s3.alloc .deferred).alloc (kN (putD (putD t3 (some 9) (.ptr ⟨fs, 0, 0⟩)) (some 10) (.func (.func 202) [] [.ptr ⟨vb, 0, 0⟩])) s3.next .ready)) := Fw.alloc [] hw4 _
 have gL := bT (s3.alloc .deferred) (kN (putD (putD t3 (some 9) (.ptr ⟨fs, 0, 0⟩)) (some 10) (.func (.func 202) [] [.ptr ⟨vb, 0, 0⟩])) s3.next .ready)
 have hf45 := hf4.trans hf5
 have hw5 := hf45.wf hw3
 have hfsn : fs < s3.next := hw3 _ _ gfs3
 have hmmn : mm < s3.next := hw3 _ _ gmm3
 have hvbn : vb < s3.next := hw3 _ _ gvb
 have hs2n : s2.next ≤ s3.next := hf3.next
 have hs13 : s1.next ≤ s3.next := by omega
 have hfs2 : fs < s2.next := hm2.wf _ _ gfs
 have hmm2 : mm < s2.next := hm2.wf _ _ gmm
 have ht3 : (putD (putD t3 (some 9) (.ptr ⟨fs, 0, 0⟩)) (some 10) (.func (.func 202) [] [.ptr ⟨vb, 0, 0⟩])).get (eT 3) = some (.ptr ⟨A, 0, 0⟩) := by simp only [ab, Nat.reduceEqDiff, reduceIte, l3]
 have key := RF (I := IT (putD (putD t3 (some 9) (.ptr ⟨fs, 0, 0⟩)) (some 10) (.func (.func 202) [] [.ptr ⟨vb, 0, 0⟩])) s3.next (s3.alloc .deferred).next A) (c0 := []) (DY := [(s3.alloc .deferred).next, A]) hb hl (Ta ht3)
  ⟨none, .nilslice, [], rfl, gL, hf45.keep _ _ (by simp) gA, .nil, fun h => by omega, (fun X h => by cases h), by omega⟩
  (by
   intro g hg
   simp only [List.mem_cons, List.not_mem_nil, or_false] at hg
   have h5 := hf5.next
   rcases hg with rfl | rfl
   ·exact ⟨hw5 _ _ gL, by omega, by omega⟩
   ·exact ⟨Nat.lt_of_lt_of_le (by omega) h5, by omega, by omega⟩)
  hw5 ((((hG.keep hm.fw.ro).keep hf2.ro).keep hf3.ro).keep hf45.ro) (by omega) (hf45.keep _ _ (by simp) gvb) (hf45.keep _ _ (by simp) gfs3) (hf45.keep _ _ (by simp) gmm3)
  (by simp only [List.mem_append, List.mem_cons, List.not_mem_nil, or_false]; omega)
 show Wp au 102 Tryz.f102 _ (.code (.rangeFunc (.tmp 10) #[11] La KZ) :: _) _ _ _ _ _
 unfold QS at key
 refine JJ (g' := 202) (first := []) (cap := [.ptr ⟨vb, 0, 0⟩]) (by simp only [ai, ab, Nat.reduceEqDiff, reduceIte]) key ?_ ?_
 ·rintro _ s6 ⟨rfl, n, c, D, hR, ⟨o, v', cs, rfl, gl, ga, hGr, hc, hX, hne⟩, hf6, hDn⟩
  refine ⟨gl, ?_⟩
  generalize hLB : (s3.alloc .deferred).next = LB at *
  have gd6 := hf6.keep _ _ (by simp only [List.mem_append, List.mem_cons, List.not_mem_nil, or_false]; omega) (hf5.keep _ _ (by simp) (bT s3 .deferred))
  have gB6 := hf6.keep _ _ (by simp only [List.mem_append, List.mem_cons, List.not_mem_nil, or_false]; omega) (hf45.keep _ _ (by simp) gB)
  have hf7 : Fw [LB] s6 (s6.put LB (kN (putD (putD t3 (some 9) (.ptr ⟨fs, 0, 0⟩)) (some 10) (.func (.func 202) [] [.ptr ⟨vb, 0, 0⟩])) s3.next .exhausted)) := Fw.put (by simp) gl (fun _ h => by cases h) _
  show Wp au 102 Tryz.f102 _ _ _ _ _ (s6.put LB (kN (putD (putD t3 (some 9) (.ptr ⟨fs, 0, 0⟩)) (some 10) (.func (.func 202) [] [.ptr ⟨vb, 0, 0⟩])) s3.next .exhausted)) _
  generalize s6.put LB (kN (putD (putD t3 (some 9) (.ptr ⟨fs, 0, 0⟩)) (some 10) (.func (.func 202) [] [.ptr ⟨vb, 0, 0⟩])) s3.next .exhausted) = s7 at hf7 ⊢
  have gd7 := hf7.keep _ _ (by simp only [List.mem_cons, List.not_mem_nil, or_false]; omega) gd6
  have gB7 := hf7.keep _ _ (by simp only [List.mem_cons, List.not_mem_nil, or_false]; omega) gB6
  have ga7 := hf7.keep _ _ (by simp [hne.symm]) ga
  have hG7 := hGr.fw hf7 (fun X hx => by simp [(hX X hx).1])
  have hw7 : WF s7 := hf7.wf (hf6.wf hw5)
  have hf8 : Fw [A] s7 (s7.put A (.cells 135 false 1 [⟨0, 0, [v']⟩])) := Fw.put (by simp) ga7 (fun _ h => by cases h) _
  have ga8 : (s7.put A (.cells 135 false 1 [⟨0, 0, [v']⟩])).get A = some (.cells 135 false 1 [⟨0, 0, [v']⟩]) := by rw [S.get_put, if_pos rfl]
  have hst8 : storeCells s7 ⟨A, 0, 0⟩ [v'] = some (s7.put A (.cells 135 false 1 [⟨0, 0, [v']⟩])) := GU ga7 0 [v'] (by simp [hGr.one]) rfl
  have hnb8 := hf8.ble
  generalize s7.put A (.cells 135 false 1 [⟨0, 0, [v']⟩]) = s8 at hf8 ga8 hst8 hnb8
  have gB8 := hf8.keep _ _ (by simp) gB7
  have hf9 : Fw [A + 1] s8 (s8.put (A + 1) (.cells 172 false 1 [⟨0, 0, [.int .i64 0, .int .i64 0]⟩])) := Fw.put (by simp) gB8 (fun _ h => by cases h) _
  have gB9 : (s8.put (A + 1) (.cells 172 false 1 [⟨0, 0, [.int .i64 0, .int .i64 0]⟩])).get (A + 1) = some (.cells 172 false 1 [⟨0, 0, [.int .i64 0, .int .i64 0]⟩]) := by rw [S.get_put, if_pos rfl]
  have hst9 : storeCells s8 ⟨A + 1, 0, 0⟩ [.int .i64 0, .int .i64 0] = some (s8.put (A + 1) (.cells 172 false 1 [⟨0, 0, [.int .i64 0, .int .i64 0]⟩])) := GU gB8 0 [.int .i64 0, .int .i64 0] rfl rfl
  have hnb9 := hf9.ble
  generalize s8.put (A + 1) (.cells 172 false 1 [⟨0, 0, [.int .i64 0, .int .i64 0]⟩]) = s9 at hf9 gB9 hst9 hnb9
  have ga9 := hf9.keep _ _ (by simp) ga8
  have htk : aO 2 [V.int .i64 0, .int .i64 0] = some [.int .i64 0, .int .i64 0] := rfl
  refine cU ?_
  repeat refine aJ ?_
  refine fK (t' := ?t5) (ds' := ?d5) (up' := ?u5) (s' := ?s5) [(some 1, 0), (some 1, 1), (some 1, 3), (none, 4), (some 2, 2), (none, 5)] (by kernel_rfl) (by kernel_rfl) ?h5 ?k5
  case h5 =>
   simp only [cp, dO, gF, cq, eG, bn, bC, ea, cZ, dE, aG, dG, gg, cu, bR, bo, cr, bz, ku, iw, al, List.take_succ_cons, List.take_nil, iH, cM, aX, cN, ac, az, ai, ab, dY, Nat.reduceEqDiff, reduceIte, ag, lp, List.getElem?_toArray, List.getElem?_cons_zero, List.getElem?_cons_succ, Option.map, bz, Hz, wE ga7, Hy, MY gB7, MY gB8, List.drop_zero, htk, Kb _ _ v' hGr.cel, hst8, hnb8, Ka _ _ [.int .i64 0, .int .i64 0] rfl, hst9, hnb9, l2, l3, l4]
   exact rfl
  case k5 =>
  have gd9 := hf9.keep _ _ (by simp only [List.mem_cons, List.not_mem_nil, or_false]; omega) (hf8.keep _ _ (by simp only [List.mem_cons, List.not_mem_nil, or_false]; omega) gd7)
  have hXB : ∀ X, o = some X → X ≠ A + 1 ∧ X ≠ s3.next := fun X hx => by
   subst hx
   cases hG7 with
   | row _ nv rest n cs q1 q2 q3 => exact ⟨fun h => (by rw [h, gB7] at q1; cases q1), fun h => (by rw [h, gd7] at q1; cases q1)⟩
  have hG9 := (hG7.fw hf8 (fun X hx => by simp [(hX X hx).2])).fw hf9 (fun X hx => by simp [(hXB X hx).1])
  have hf10 : Fw [s3.next] s9 (s9.put s3.next .gone) := Fw.put (by simp) gd9 (fun _ h => by cases h) _
  refine Ng (pT (by simp) gd9 ?_)
  generalize s9.put s3.next .gone = s10 at hf10 ⊢
  have hG10 := hG9.fw hf10 (fun X hx => by simp [(hXB X hx).2])
  have ga10 := hf10.keep _ _ (by simp only [List.mem_cons, List.not_mem_nil, or_false]; omega) ga9
  have gB10 := hf10.keep _ _ (by simp only [List.mem_cons, List.not_mem_nil, or_false]; omega) gB9
  refine GR Mb (by simp) (by simp) ?_
  refine zq (v := .tuple [.ptr ⟨fs, 0, 0⟩, v', .agg [.int .i64 0, .int .i64 0]]) ?_ ?_
  ·have hr : Tryz.f102.results.toList = [.tmp 2, .cell 3 135, .cell 4 172] := by kernel_rfl
   simp only [cJ, hr, fC, fX, ab, Nat.reduceEqDiff, reduceIte, l2, l3, l4, lp, Hz, wE ga10, Hy, MY gB10, List.drop_zero, htk, List.getElem?_cons_zero, Option.map, qi]
  ·refine ⟨_, _, rfl, ⟨_, _, 0, 0, rfl, rfl, .inr ⟨rfl, n, c, cs, o, hR, hG10, hc, fun X hx => ?_⟩⟩, ?_⟩
   ·have h1 := hf13.next
    have h2 := hf45.next
    rcases hDn X (by simp [hx]) with h | h
    ·omega
    ·simp only [List.mem_append, List.mem_cons, List.not_mem_nil, or_false] at h
     omega
   have hW : Fw ([vb, fs] ++ [LB, A, A + 1, s3.next]) s3 s10 :=
    ((((hf45.mono (by simp)).trans (hf6.mono (by simp))).trans (hf7.mono (by simp))).trans ((hf8.mono (by simp)).trans (hf9.mono (by simp)))).trans (hf10.mono (by simp))
   refine hf13.andThen hw hW (fun g hg => .inl ?_)
   have := hf13.next
   simp only [List.mem_append, List.mem_cons, List.not_mem_nil, or_false] at hg
   omega
 ·rintro _ s6 ⟨⟨a, e, he, rfl⟩, hk, ⟨n, c, D, o, v', cs, rfl, gl, ga, hGr, hc, hX, hne⟩, hf6⟩
  generalize hLB : (s3.alloc .deferred).next = LB at *
  have gd6 := hf6.keep _ _ (by simp only [List.mem_append, List.mem_cons, List.not_mem_nil, or_false]; omega) (hf5.keep _ _ (by simp) (bT s3 .deferred))
  have gB6 := hf6.keep _ _ (by simp only [List.mem_append, List.mem_cons, List.not_mem_nil, or_false]; omega) (hf45.keep _ _ (by simp) gB)
  have hf7 : Fw [s3.next] s6 (s6.put s3.next .gone) := Fw.put (by simp) gd6 (fun _ h => by cases h) _
  refine pT (by simp) gd6 ?_
  generalize s6.put s3.next .gone = s7 at hf7 ⊢
  have ga7 := hf7.keep _ _ (by simp only [List.mem_cons, List.not_mem_nil, or_false]; omega) ga
  have gB7 := hf7.keep _ _ (by simp only [List.mem_cons, List.not_mem_nil, or_false]; omega) gB6
  have hw7 : WF s7 := hf7.wf (hf6.wf hw5)
  obtain ⟨s8, hc8, ga8, gB8, hf8⟩ := Mc (a := a) (e := e) hw7 ga7 gB7 rfl (by omega)
  refine GR hc8 (by simp) (by simp) ?_
  have htk : aO 2 [V.int .i64 a, .int .i64 e] = some [.int .i64 a, .int .i64 e] := rfl
  refine zq (v := .tuple [.ptr ⟨fs, 0, 0⟩, .nilslice, .agg [.int .i64 a, .int .i64 e]]) ?_ ?_
  ·have hr : Tryz.f102.results.toList = [.tmp 2, .cell 3 135, .cell 4 172] := by kernel_rfl
   simp only [cJ, hr, fC, fX, ab, Nat.reduceEqDiff, reduceIte, l2, l3, l4, lp, Hz, wE ga8, Hy, MY gB8, List.drop_zero, htk, List.getElem?_cons_zero, Option.map, qi]
  ·refine ⟨_, _, rfl, ⟨_, _, a, e, rfl, rfl, .inl ⟨he, hk, rfl⟩⟩, ?_⟩
   have hW : Fw ([vb, fs] ++ [LB, A, A + 1, s3.next]) s3 s8 :=
    (((hf45.mono (by simp)).trans (hf6.mono (by simp))).trans (hf7.mono (by simp))).trans (hf8.mono (by simp))
   refine hf13.andThen hw hW (fun g hg => .inl ?_)
   have := hf13.next
   simp only [List.mem_append, List.mem_cons, List.not_mem_nil, or_false] at hg
   omega
end Go.AI.Lx
namespace Go.AI.Lx
open Go.Proofs Go.Proofs.YtkeaedhoaamfnaaGreatDoor
def Gy : List aH := []
def Gb : Code := match Tryz.f69.body with | some c => c | none => .skip
def yY : gX := ⟨au, Tryz.f69, Gy, [(102, ⟨[], false⟩)], [⟨100005, [(4, false), (30, true)], []⟩], 0⟩
def lM : aB := .cond 1 (rT (iV 0)) (aT (.indexAddr 135 0 (iV 0)) 2 (aT (.fieldAddr 117 2 0) 3 (aT (.load 3 3) 4 (rT 4))))
def Es : aB := aT (.bif .len #[9] [0]) 1 (aT (.bin .gtr 3 true 1 (iV 24)) 2 (.cond 2 (rT (iV 0)) (.call 102 [0] [] [] 4 (.tuple [3, 4, .agg [5, 6]]) false (.new (aT (.bin .neq 31 true 6 (iV 0)) 7 (.cond 7 (.cut 2 [4, .bool true] [] [] lM) (aT (.bif .len #[135] [4]) 8 (aT (.bin .neq 3 true 8 (iV 1)) 9 (.cond 9 (.cut 2 [4, .bool true] [] [] lM) (aT (.indexAddr 135 4 (iV 0)) 10 (aT (.fieldAddr 117 10 2) 11 (aT (.load 9 11) 12 (aT (.bin .neq 9 false 12 0) 13 (.cut 2 [4, 13] [] [] lM))))))))))))))
theorem IA : cb yY 400 [] [.code Gb] (bi [.atom 0] 0 .leaf id) (br ⟨.leaf, 0⟩ []) 1 = some Es := by kernel_rfl
end Go.AI.Lx
namespace Go.AI.Lx
open Go.Proofs Go.Proofs.YtkeaedhoaamfnaaGreatDoor
set_option maxRecDepth 10000
theorem yq {s : S} {row : V} {n : Nat} {cs c : List V} {o : Option Nat} (h : gx 117 4 s row n cs o) (hn : 1 ≤ n) (hc : cs.take 4 = c) {i : Nat} (hi : i < 4) {w : V} (hw : c[i]? = some w) {ty : TypeId} (hl : ∀ s a, loadVar Tryz.prog s ty a = cz s a) :
 ∃ X nv, bF Tryz.prog 135 (some row) (some 0) = some (.ptr ⟨X, nv, 0⟩) ∧ aP Tryz.prog 117 (some (.ptr ⟨X, nv, 0⟩)) i = (aP Tryz.prog 117 (some (.ptr ⟨X, nv, 0⟩)) i) ∧ ∀ s', gx 117 4 s' row n cs o → gc (eI Tryz.prog s' ty (some (.ptr ⟨X, nv, 0 + i⟩))) = some w := by
 cases h with
 | nil => omega
 | row X nv rest n cs h1 h2 h3 =>
  refine ⟨X, nv, ?_, rfl, fun s' hG => ?_⟩
  ·have hu : Tryz.prog.underlying 135 = some (.slice 117) := EW.und
   simp only [bF, hu, oY, Nat.beq_refl, Bool.true_and]
   rw [show Nat.blt 0 n = true from Nat.ble_eq_true_of_le hn]
   rfl
  ·cases hG with
   | row _ _ rest' _ _ g1 g2 g3 =>
    have hv : bg (⟨nv, 0, cs⟩ :: rest') nv = some ⟨nv, 0, cs⟩ := by simp only [bg, Nat.beq_refl, cond_true]
    rw [aX, hl]
    simp only [cz, g1, hv, DG, cond_true, Nat.sub_zero, Nat.zero_add]
    have : cs[i]? = some w := by rw [← hw, ← hc, List.getElem?_take, if_pos hi]
    rw [this]; rfl
section
variable {l : List Nat} {s : S} {L : List ck}
theorem Pk (X nv i : Nat) (hi : i < 4) : aP Tryz.prog 117 (some (.ptr ⟨X, nv, 0⟩)) i = some (.ptr ⟨X, nv, 0 + i⟩) := by
 match i, hi with
 | 0, _ => exact Oh X nv 0
 | 1, _ => exact Og X nv 0
 | 2, _ => exact Of X nv 0
 | 3, _ => exact Oe X nv 0
def OK (l : List Nat) : ck := fun vs bs D U => ∃ (row : V) (q : Bool), vs = [row, .bool q] ∧ bs = [] ∧ (q = true → aK l = 0) ∧
 (q = false → ∃ (n : Nat) (cs : List V) (o : Option Nat) (k a p0 : Int) (s1 : S), D = o.toList ∧ U = (fun s => gx 117 4 s row n cs o) ∧ 1 ≤ n ∧ cs.take 4 = [.int .i64 k, .int .i64 a, .str l, .int .i64 p0] ∧ wz l (.int .i64 k) ∧ gx 117 4 s1 row n cs o)
theorem kQ {vs : List V} {bs D : List Nat} {U : S → Prop} (h : OK l vs bs D U) : ah au [] s (QK l s) lM ⟨vs, bs⟩ D U L := by
 obtain ⟨row, q, rfl, rfl, h1, h2⟩ := h
 refine aI rfl (fun c1 => ?_) (fun c1 => ?_)
 ·exact aE fun s1 k1 k2 k3 k4 => RO k1 (h1 c1)
 ·obtain ⟨n, cs, o, k, a, p0, s1, rfl, rfl, hn, hc, hk, hG⟩ := h2 c1
  obtain ⟨X, nv, x1, -, x2⟩ := yq (i := 0) hG hn hc (by omega) rfl As
  refine aD (.ptr ⟨X, nv, 0⟩) rfl (fun s1 k1 k2 k3 k4 => x1) rfl ?_
  refine aD (.ptr ⟨X, nv, 0 + 0⟩) rfl (fun s1 k1 k2 k3 k4 => Pk X nv 0 (by omega)) rfl ?_
  refine aD (.int .i64 k) rfl (fun s1 k1 k2 k3 k4 => x2 s1 (k3 rfl)) rfl ?_
  exact aE fun s1 k1 k2 k3 k4 => ⟨_, _, rfl, hk, k1⟩
theorem LF (hb : Bytes l) (hll : l.length < 4611686018427387904) {s : S} (hw : WF s) (hG : cF s) : Cw au 69 [.str l] s fun v s' => wz l v ∧ Fw [] s s' := by
 refine aL (bb (C := yY) (e := ⟨[.str l], []⟩) (F := []) rfl Tryz.func69 rfl (by kernel_rfl) IA rfl ⟨rfl, rfl, rfl⟩ rfl hw rfl (by simp) trivial ay trivial (by simp) ?_)
 refine Ft rfl Tryz.underlying9 rfl rfl ?_
 refine qw rfl rfl rfl ?_
 refine dA rfl (fun c2 => ?_) (fun c2 => ?_)
 ·exact aE fun s1 h1 h2 h3 h4 => RO h1 (by unfold aK; rw [if_pos (.inr (.inl (by omega)))])
 ·have hl : l.length ≤ 24 := by omega
  refine ec fun s1 k1 k2 k3 k4 => ?_
  obtain ⟨v, s2, hc, ⟨p, row, a, e, rfl, hp, hS⟩, hf⟩ := Kt hb hl k2 (hG.keep k1.ro)
  rcases hS with ⟨he, hk, rfl⟩ | ⟨rfl, n, c, cs, o, hR, hGr, hcc, hXf⟩
  ·refine .inl ⟨[p, .nilslice, .int .i64 a, .int .i64 e], _, s2, [], T0, inferInstance, rfl, by simp [aA, hp, fD]; rfl, hc, hf.mono (by simp), trivial, ay, trivial, by simp, ?_⟩
   refine bd fun b1 hb1 hd1 => ?_
   refine sG rfl rfl rfl ?_
   refine dA rfl (fun c3 => ?_) (fun c3 => absurd he c3)
   exact ib (OK l) ⟨_, true, rfl, rfl, fun _ => hk, fun h => by cases h⟩ ay (fun vs bs D U h _ _ _ => kQ h)
  ·have hw2 := hf.wf k2
   have hst : iA o.toList (fun s => gx 117 4 s row n cs o) := fun s s' h hk _ => h.keep (fun X B hX hB => hk X (by simp [hX]) B hB)
   refine .inl ⟨[p, row, .int .i64 a, .int .i64 0], _, s2, o.toList, fun s => gx 117 4 s row n cs o, inferInstance, rfl, by simp [aA, hp, fD, hGr.one], hc, hf.mono (by simp), trivial, hst, hGr, ?_, ?_⟩
   ·intro g hg
    cases o with
    | none => simp at hg
    | some X =>
     simp at hg; subst hg
     exact ⟨hGr.lt hw2, .inr (hXf g rfl)⟩
   refine bd fun b1 hb1 hd1 => ?_
   refine sG rfl rfl rfl ?_
   refine dA rfl (fun c3 => absurd rfl c3) (fun c3 => ?_)
   refine eL (n := n) rfl (fun s1 _ _ => hGr.len EW.und) rfl ?_
   refine sG rfl rfl rfl ?_
   have hkr := LD hb hl hR
   refine dA rfl (fun c4 => ?_) (fun c4 => ?_)
   ·refine ib (OK l) ⟨_, true, rfl, rfl, fun _ => ?_, fun h => by cases h⟩ hst (fun vs bs D U h _ _ _ => kQ h)
    rcases hkr with h | ⟨k, a, x, p0, -, -, -, h, -⟩
    ·exact h.2
    ·exact h (.inl (by omega))
   ·rcases hkr with h | ⟨k, a', x, p0, rfl, hn, hx, h5, h6⟩
    ·omega
    obtain ⟨X, nv, x1, -, x2⟩ := yq (i := 2) hGr hn (hcc hn) (by omega) rfl IU
    refine aD (.ptr ⟨X, nv, 0⟩) rfl (fun s1 k1 k2 k3 k4 => x1) rfl ?_
    refine aD (.ptr ⟨X, nv, 0 + 2⟩) rfl (fun s1 k1 k2 k3 k4 => Pk X nv 2 (by omega)) rfl ?_
    refine aD (.str x) rfl (fun s1 k1 k2 k3 k4 => x2 s1 (k3 rfl)) rfl ?_
    refine Fs rfl rfl hx hb rfl ?_
    refine ib (OK l) ⟨_, _, rfl, rfl, fun h => h5 (.inr (by simpa using h)), fun h => ?_⟩ hst (fun vs bs D U h _ _ _ => kQ h)
    have hxl : x = l := by simpa using h
    subst hxl
    exact ⟨n, cs, o, k, a', _, s2, rfl, rfl, hn, hcc hn, h6 (by omega) rfl, hGr⟩
end
end Go.AI.Lx
namespace Go.AI.Lx
open Go.Proofs Go.Proofs.YtkeaedhoaamfnaaGreatDoor
def GB : List aH := []
def Ge : Code := match Tryz.f43.body with | some c => c | none => .skip
def zb : gX := ⟨au, Tryz.f43, GB, [(69, ⟨[], false⟩)], [], 0⟩
def Ew : aB := cT 69 [0] 1 (aT (.bin .eql 3 true 1 (iV 4)) 2 (rT 2))
theorem ID : cb zb 400 [] [.code Ge] (bi [.atom 0] 0 .leaf id) (br ⟨.leaf, 0⟩ []) 1 = some Ew := by kernel_rfl
def GC : List aH := []
def Gf : Code := match Tryz.f68.body with | some c => c | none => .skip
def zc : gX := ⟨au, Tryz.f68, GC, [(69, ⟨[], false⟩)], [], 0⟩
def Ey : aB := cT 69 [0] 1 (aT (.bin .eql 3 true 1 (iV 3)) 2 (rT 2))
theorem IE : cb zc 400 [] [.code Gf] (bi [.atom 0] 0 .leaf id) (br ⟨.leaf, 0⟩ []) 1 = some Ey := by kernel_rfl
def DM : List aH := [⟨15, [(0, false), (1, false), (2, false), (76, false), (77, true)], []⟩]
def Du : Code := match Tryz.f38.body with | some c => c | none => .skip
def wc : gX := ⟨au, Tryz.f38, DM, [(43, ⟨[], false⟩), (68, ⟨[], false⟩), (38, ⟨[(2, [0])], false⟩)], [⟨12, [(0, false), (1, false), (2, false), (8, true)], []⟩, ⟨100013, [(0, false), (1, false), (2, false), (71, true)], []⟩], 1⟩
def BQ : aB := aT (.bin .lss 3 false 3 2) 5 (.cond 5 (aT (.nilCheck 0) 6 (aT (.fieldAddr 25 6 1) 7 (aT (.load 23 7) 8 (aT (.indexAddr 23 8 3) 9 (aT (.bin .add 3 true 1 (iV 1)) 10 (.call 38 [9, 10, .ptr ⟨0, 0, 0⟩] [(0, cB 3 [4])] [(0, cB 3 [11])] 2 12 false (aT (.un .not 12) 13 (.cond 13 (.ret (.bool false) [(0, cB 3 [11])]) (aT (.bin .add 3 true 3 (iV 1)) 14 (.back 0 [0, 1, 2, 14, 11] [0])))))))))) (.ret (.bool true) [(0, cB 3 [4])]))
def kl : aB := .cond 2 (.ret (.bool false) [(0, cB 3 [3])]) (aT (.nilCheck 0) 4 (aT (.fieldAddr 25 4 1) 5 (aT (.load 23 5) 6 (aT (.bif .len #[23] [6]) 7 (.loop 0 5 [0, 1, 7, iV 0, 3] [0] [cB 3 [4]] BQ)))))
def di : aB := aT (.un .not 2) 4 (.cond 4 (.cut 4 [0, 1, .bool true, 3] [0] [cB 3 [3]] kl) (aT (.bin .gtr 3 true 3 (iV 2000)) 5 (.cond 5 (.cut 4 [0, 1, .bool true, 3] [0] [cB 3 [3]] kl) (aT (.bin .gtr 3 true 1 (iV 100)) 6 (.cut 4 [0, 1, 6, 3] [0] [cB 3 [3]] kl)))))
def BN : aB := aT (.bin .add 3 true 2 (iV 1)) 3 (aT (.nilCheck 0) 4 (aT (.fieldAddr 25 4 1) 5 (aT (.load 23 5) 6 (aT (.bif .len #[23] [6]) 7 (aT (.nilCheck 0) 8 (aT (.fieldAddr 25 8 0) 9 (aT (.load 9 9) 10 (aT (.bin .eql 9 true 10 (.str [73, 110, 116])) 11 (.cond 11 (aT (.bin .eql 3 true 7 (iV 0)) 12 (.cut 4 [0, 1, 12, 3] [0] [cB 3 [3]] di)) (aT (.bin .eql 9 true 10 (.str [45, 62])) 12 (.cond 12 (aT (.bin .eql 3 true 7 (iV 2)) 13 (.cut 4 [0, 1, 13, 3] [0] [cB 3 [3]] di)) (aT (.bin .eql 9 true 10 (.str [44])) 13 (.cond 13 (aT (.bin .geq 3 true 7 (iV 2)) 14 (.cond 14 (aT (.bin .leq 3 true 7 (iV 4)) 15 (.cut 4 [0, 1, 15, 3] [0] [cB 3 [3]] di)) (.cut 4 [0, 1, .bool false, 3] [0] [cB 3 [3]] di))) (aT (.nilCheck 0) 14 (aT (.fieldAddr 25 14 0) 15 (aT (.load 9 15) 16 (cT 43 [16] 17 (.cond 17 (aT (.bin .eql 3 true 7 (iV 0)) 18 (.cond 18 (.cut 4 [0, 1, .bool true, 3] [0] [cB 3 [3]] di) (aT (.nilCheck 0) 19 (aT (.fieldAddr 25 19 0) 20 (aT (.load 9 20) 21 (cT 68 [21] 22 (.cond 22 (aT (.bin .leq 3 true 7 (iV 16)) 23 (.cut 4 [0, 1, 23, 3] [0] [cB 3 [3]] di)) (.cut 4 [0, 1, .bool false, 3] [0] [cB 3 [3]] di)))))))) (aT (.nilCheck 0) 18 (aT (.fieldAddr 25 18 0) 19 (aT (.load 9 19) 20 (cT 68 [20] 21 (.cond 21 (aT (.bin .leq 3 true 7 (iV 16)) 22 (.cut 4 [0, 1, 22, 3] [0] [cB 3 [3]] di)) (.cut 4 [0, 1, .bool false, 3] [0] [cB 3 [3]] di))))))))))))))))))))))))
theorem ET : cb wc 400 [] [.code Du] (bi [.atom 0, .atom 1, .ptr ⟨0, 0, 0⟩] 0 .leaf id) (br ⟨.leaf, 0⟩ [.cells 3 false 1 [⟨0, 0, [.atom 2]⟩]]) 3 = some BN := by kernel_rfl
def Gs : List aH := []
def FV : Code := match Tryz.f13.body with | some c => c | none => .skip
def yS : gX := ⟨au, Tryz.f13, Gs, [(38, ⟨[(2, [0])], false⟩)], [], 0⟩
def El : aB := .new (.new (.call 38 [.ptr ⟨0, 0, 0⟩, iV 1, .ptr ⟨1, 0, 0⟩] [(0, cB 25 [0, 1]), (1, cB 3 [iV 0])] [(1, cB 3 [2])] 2 3 false (aT (.un .not 3) 4 (.cond 4 (rT (iV 0)) (rT 2)))))
theorem Iu : cb yS 400 [] [.code FV] (bi [.agg [.atom 0, .atom 1]] 0 .leaf id) (br ⟨.leaf, 0⟩ []) 2 = some El := by kernel_rfl
def wo : List aH := [⟨4, [(0, false), (1, false), (5, true)], []⟩]
def vV : Code := match Tryz.f8.body with | some c => c | none => .skip
def oO : gX := ⟨au, Tryz.f8, wo, [], [], 0⟩
def ue : aB := aT (.bif .len #[22] [0]) 2 (aT (.bif .len #[22] [1]) 3 (aT (.bin .neq 3 false 2 3) 4 (.cond 4 (rT (.bool false)) (.loop 0 3 [0, 1, iV 0] [] [] (aT (.bif .len #[22] [0]) 3 (aT (.bin .lss 3 false 2 3) 4 (.cond 4 (aF (.indexAddr 22 0 2) 5 (aF (.load 9 5) 6 (aF (.indexAddr 22 1 2) 7 (aF (.load 9 7) 8 (aF (.bin .neq 9 false 6 8) 9 (.cond 9 (rT (.bool false)) (aT (.bin .add 3 true 2 (iV 1)) 10 (.back 0 [0, 1, 10] [])))))))) (rT (.bool true)))))))))
theorem wQ : cb oO 400 [] [.code vV] (bi [.atom 0, .atom 1] 0 .leaf id) (br ⟨.leaf, 0⟩ []) 2 = some ue := by kernel_rfl
end Go.AI.Lx
namespace Go.AI.Lx
open Go.Proofs Go.Proofs.YtkeaedhoaamfnaaGreatDoor
set_option maxRecDepth 10000
theorem _root_.Go.AI.h_askN {E : cg} {F : List Nat} {s0 : S} {Q : cX → Prop} {σ R : List V} {β : List Nat} {D : List Nat} {U : S → Prop} {L : List ck} {k : aB} {u : Bool} {own : List (Nat × bP)} {v : V} {q : mt} {n : Nat} (vs : List V) (w : V) (hl : vs.length = n) (h1 : aA vs)
 (hr : ∀ s, Fw F s0 s → WF s → (u = true → U s) → ef ⟨σ, β⟩ s own → (q.sub ⟨σ, β⟩).run E.P s = some w) [hs : mu σ vs R] (hv : sub ⟨R, β⟩ v = w) (hk : ah E F s0 Q k ⟨R, β⟩ D U L) :
 ah E F s0 Q (.ask q u own n v k) ⟨σ, β⟩ D U L := LM vs hl h1 (fun s a b c d => by rw [hv]; exact hr s a b c d) hk
inductive Ty where
 | mk (name : List Nat) (args : List Ty)
inductive jq (K : S → Prop) (sz : Nat) : V → List (List V) → Prop
 | nil : jq K sz .nilslice []
 | zero (a : Ad) (c : Option Nat) (z : Nat) : jq K sz (.slice a 0 0 c z) []
 | row (a : Ad) (n : Nat) (c : Option Nat) (cs : List (List V)) : n = cs.length → n < 4611686018427387904 → (∀ i x, cs[i]? = some x → ∀ s, K s → loadCells s (eK a (i * sz)) sz = some x) → jq K sz (.slice a 0 n c sz) cs
theorem jq.mono {K K' : S → Prop} (h : ∀ s, K' s → K s) {sz : Nat} {v : V} {cs : List (List V)} (r : jq K sz v cs) : jq K' sz v cs := by
 cases r with
 | nil => exact .nil
 | zero a c z => exact .zero a c z
 | row a n c cs h1 h2 h3 => exact .row a n c cs h1 h2 fun i x hx s hs => h3 i x hx s (h s hs)
theorem jq.one {K : S → Prop} {sz : Nat} {v : V} {cs : List (List V)} (r : jq K sz v cs) : v.one = true := by cases r <;> rfl
theorem jq.lt {K : S → Prop} {sz : Nat} {v : V} {cs : List (List V)} (r : jq K sz v cs) : cs.length < 4611686018427387904 := by
 cases r with
 | nil => simp
 | zero a c z => simp
 | row a n c cs h1 h2 h3 => omega
theorem jq.len {K : S → Prop} {sz : Nat} {v : V} {cs : List (List V)} (r : jq K sz v cs) {ty e : TypeId} (hu : Tryz.prog.underlying ty = some (.slice e)) (s : S) : mK Tryz.prog ty s v = some (.int .i64 ((cs.length : Nat) : Int)) := by
 cases r with
 | nil => simp only [mK, hu]; rfl
 | zero a c z => simp only [mK, hu, aS]; rfl
 | row a n c cs h1 h2 h3 => simp only [mK, hu, aS, h1]
theorem jq.at {K : S → Prop} {sz : Nat} {v : V} {cs : List (List V)} (r : jq K sz v cs) {ty e : TypeId} (hu : Tryz.prog.underlying ty = some (.slice e)) (hs : size Tryz.prog e = some sz) {i : Nat} {x : List V} (hx : cs[i]? = some x) :
 ∃ p, bF Tryz.prog ty (some v) (some i) = some (.ptr p) ∧ ∀ s, K s → loadCells s p sz = some x := by
 cases r with
 | nil => simp at hx
 | zero a c z => simp at hx
 | row a n c cs h1 h2 h3 =>
  have hi : i < cs.length := by
   rcases Nat.lt_or_ge i cs.length with h | h
   ·exact h
   ·rw [List.getElem?_eq_none h] at hx; cases hx
  refine ⟨eK a (i * sz), ?_, h3 i x hx⟩
  simp only [bF, hu, hs, Nat.beq_refl, Bool.true_and]
  rw [show Nat.blt i n = true from Nat.ble_eq_true_of_le (by omega)]
  rfl
theorem Oo {s : S} {a : Ad} {n : Nat} {l : List V} (h : loadCells s a n = some l) {i : Nat} {x : V} (hx : l[i]? = some x) : cz s (eK a i) = some x := by
 have key : ∀ (u : mH), (bif Nat.ble u.lo a.c then aO n (u.cells.drop (a.c - u.lo)) else none) = some l → (bif Nat.ble u.lo (a.c + i) then u.cells[a.c + i - u.lo]? else none) = some x := fun u hu => by
  cases hb : Nat.ble u.lo a.c with
  | false => rw [hb] at hu; cases hu
  | true =>
   rw [hb] at hu
   have hle := Nat.le_of_ble_eq_true hb
   obtain ⟨rfl, h2⟩ := jD hu
   rw [show Nat.ble u.lo (a.c + i) = true from Nat.ble_eq_true_of_le (by omega)]
   simp only [cond_true]
   rw [List.getElem?_take] at hx
   split at hx
   ·rw [List.getElem?_drop] at hx
    rw [show a.c + i - u.lo = a.c - u.lo + i by omega]; exact hx
   ·cases hx
 unfold loadCells at h
 unfold cz
 simp only [eK]
 split at h
 ·rename_i e1 e2 e3 vers hg
  split at h
  ·rename_i u hu; exact key u h
  ·cases h
 ·rename_i vers hg
  split at h
  ·rename_i u hu; exact key u h
  ·cases h
 ·cases h
mutual
def gY (K : S → Prop) : Ty → V → V → Prop
 | .mk name args, nm, row => nm = .str name ∧ Bytes name ∧ name.length < 4611686018427387904 ∧ ∃ cs, jq K 2 row cs ∧ dS K args cs
def dS (K : S → Prop) : List Ty → List (List V) → Prop
 | [], cs => cs = []
 | t :: r, cs => ∃ nm rw cs', cs = [nm, rw] :: cs' ∧ gY K t nm rw ∧ dS K r cs'
end
mutual
theorem gY.mono {K K' : S → Prop} (h : ∀ s, K' s → K s) : ∀ {t : Ty} {nm row : V}, gY K t nm row → gY K' t nm row
 | .mk name args, nm, row, r => by
  simp only [gY] at r ⊢
  obtain ⟨h1, h2, h3, cs, h4, h5⟩ := r
  exact ⟨h1, h2, h3, cs, h4.mono h, dS.mono h h5⟩
theorem dS.mono {K K' : S → Prop} (h : ∀ s, K' s → K s) : ∀ {l : List Ty} {cs : List (List V)}, dS K l cs → dS K' l cs
 | [], cs, r => by simpa only [dS] using r
 | t :: l, cs, r => by
  simp only [dS] at r ⊢
  obtain ⟨nm, rw, cs', h1, h2, h3⟩ := r
  exact ⟨nm, rw, cs', h1, gY.mono h h2, dS.mono h h3⟩
end
theorem dS.len {K : S → Prop} : ∀ {l : List Ty} {cs : List (List V)}, dS K l cs → cs.length = l.length
 | [], cs, r => by simp only [dS] at r; simp [r]
 | t :: l, cs, r => by
  simp only [dS] at r
  obtain ⟨nm, rw, cs', rfl, h2, h3⟩ := r
  simp [dS.len h3]
theorem dS.at {K : S → Prop} : ∀ {l : List Ty} {cs : List (List V)} {i : Nat} {t : Ty}, dS K l cs → l[i]? = some t → ∃ nm rw, cs[i]? = some [nm, rw] ∧ gY K t nm rw
 | [], cs, i, t, r, h => by simp at h
 | t' :: l, cs, i, t, r, h => by
  simp only [dS] at r
  obtain ⟨nm, rw, cs', rfl, h2, h3⟩ := r
  cases i with
  | zero => simp at h; subst h; exact ⟨nm, rw, rfl, h2⟩
  | succ i => simpa using dS.at h3 (by simpa using h)
mutual
def cY : Ty → Nat
 | .mk _ args => cR args + 1
def cR : List Ty → Nat
 | [] => 0
 | t :: r => cY t + cR r
end
theorem lI : ∀ {l : List Ty} {i : Nat} {t : Ty}, l[i]? = some t → cY t ≤ cR l
 | [], i, t, h => by simp at h
 | t' :: l, 0, t, h => by simp at h; subst h; simp only [cR]; omega
 | t' :: l, i + 1, t, h => by have := lI (l := l) (i := i) (t := t) (by simpa using h); simp only [cR]; omega
theorem fx : size Tryz.prog 25 = some 2 := by kernel_rfl
theorem JW : fj Tryz.prog 25 = some true := by kernel_rfl
theorem Ts (s : S) (a : Ad) : loadVar Tryz.prog s 25 a = (loadCells s a 2).map .agg := by simp only [loadVar, JW, fx, Option.bind]
theorem gz : Tryz.prog.underlying 23 = some (.slice 25) := by kernel_rfl
theorem JP : Tryz.prog.underlying 22 = some (.slice 9) := by kernel_rfl
theorem JX : fj Tryz.prog 23 = some false := by kernel_rfl
theorem Ql (s : S) (a : Ad) : loadVar Tryz.prog s 23 a = cz s a := by simp only [loadVar, JX]
theorem Ri (f v c : Nat) : aP Tryz.prog 25 (some (.ptr ⟨f, v, c⟩)) 0 = some (.ptr ⟨f, v, c + 0⟩) := by kernel_rfl
theorem Rh (f v c : Nat) : aP Tryz.prog 25 (some (.ptr ⟨f, v, c⟩)) 1 = some (.ptr ⟨f, v, c + 1⟩) := by kernel_rfl
theorem FC (p : Ad) (i : Nat) (hi : i < 2) : aP Tryz.prog 25 (some (.ptr p)) i = some (.ptr (eK p i)) := by
 match i, hi with
 | 0, _ => exact Ri p.f p.v p.c
 | 1, _ => exact Rh p.f p.v p.c
theorem lm {s : S} {p : Ad} {l : List V} (h : loadCells s p 2 = some l) : gc (eI Tryz.prog s 25 (some (.ptr p))) = some (.agg l) := by
 rw [aX, Ts, h]; rfl
theorem ll {s : S} {p : Ad} {n : Nat} {l : List V} (h : loadCells s p n = some l) {i : Nat} {x : V} (hx : l[i]? = some x) {ty : TypeId} (hl : ∀ s a, loadVar Tryz.prog s ty a = cz s a) : gc (eI Tryz.prog s ty (some (.ptr (eK p i)))) = some x := by
 rw [aX, hl, Oo h hx]; rfl
mutual
def SX : Ty → Nat → Nat
 | .mk _ args, m => Mj args 1 m
def Mj : List Ty → Nat → Nat → Nat
 | [], n, _ => n
 | t :: r, n, m => if n ≤ m then Mj r (n + SX t (m - n)) m else n
end
abbrev fJ (K : S → Prop) : Prop := ∀ s s', Fw [] s s' → K s → K s'
theorem et {α : Type} {l : List α} {i : Nat} (h : i < l.length) : ∃ x, l[i]? = some x ∧ l.drop i = x :: l.drop (i + 1) := ⟨l[i], List.getElem?_eq_getElem h, List.drop_eq_getElem_cons h⟩
theorem gY.one {K : S → Prop} : ∀ {t : Ty} {nm rw : V}, gY K t nm rw → nm.one = true ∧ rw.one = true
 | .mk name args, nm, rw, h => by
  simp only [gY] at h
  obtain ⟨rfl, _, _, cs, h4, _⟩ := h
  exact ⟨rfl, h4.one⟩
section
variable {K : S → Prop}
end
mutual
def dp : Ty → Nat
 | .mk _ args => FF args 0 + 1
def FF : List Ty → Nat → Nat
 | [], n => n
 | t :: r, n => FF r (max n (dp t))
end
section
variable {K : S → Prop}
end
def ek (name : List Nat) (n : Nat) : Bool :=
 if name = [45, 62] then decide (n = 2) else if name = [44] then decide (2 ≤ n ∧ n ≤ 4) else if name = [73, 110, 116] then decide (n = 0) else decide (aK name = 4 ∧ n = 0 ∨ aK name = 3 ∧ n ≤ 16)
mutual
def nu : Ty → Bool
 | .mk name args => eX args && ek name args.length
def eX : List Ty → Bool
 | [] => true
 | t :: r => nu t && eX r
end
theorem HA {l : List Nat} {k c : Int} (h : wz l (.int .i64 k)) (h0 : c ≠ 0) (h1 : c ≠ 1) : k = c ↔ aK l = c := by
 obtain ⟨k', hk, h⟩ := h
 cases hk
 rcases h with rfl | ⟨hn, rfl⟩
 ·rfl
 ·have : aK l = 0 := vw hn
  rw [this]; omega
theorem Tu {a b : Nat} (ha : a < 256) (hb : b < 256) : ∀ z ∈ [a, b], z < 256 := by intro z hz; simp at hz; omega
theorem Tv {a : Nat} (ha : a < 256) : ∀ z ∈ [a], z < 256 := by intro z hz; simp at hz; omega
theorem Tt {a b c : Nat} (ha : a < 256) (hb : b < 256) (hc : c < 256) : ∀ z ∈ [a, b, c], z < 256 := by intro z hz; simp at hz; omega
section
variable {K : S → Prop}
end
mutual
theorem Mk : ∀ (t : Ty) (m : Nat), cY t ≤ m → SX t m = cY t
 | .mk _ args, m, h => by
  simp only [SX, cY] at h ⊢
  have := HT args 1 m (by omega)
  omega
theorem HT : ∀ (l : List Ty) (n m : Nat), n + cR l ≤ m → Mj l n m = n + cR l
 | [], n, m, h => by simp [Mj, cR]
 | t :: r, n, m, h => by
  simp only [Mj, cR] at h ⊢
  rw [if_pos (by omega), Mk t (m - n) (by omega)]
  have := HT r (n + cY t) m (by omega)
  omega
end
def gt (t : Ty) : Bool := decide (cY t ≤ 2000) && decide (dp t ≤ 100) && nu t
section
variable {K : S → Prop}
def Pe (name : List Nat) : Bool := decide (0 < name.length ∧ aC name 0 = 39)
theorem Fm {name : List Nat} {s : S} (hb : Bytes name) (hl : name.length < 4611686018427387904) (hw : WF s) (hG : cF s) : Cw au 43 [.str name] s fun v s' => v = .bool (decide (aK name = 4)) ∧ Fw [] s s' := by
 refine aL (bb (C := zb) (e := ⟨[.str name], []⟩) (F := []) rfl Tryz.func43 rfl (by kernel_rfl) ID rfl ⟨rfl, rfl, rfl⟩ rfl hw rfl (by simp) trivial ay trivial (by simp) ?_)
 refine jQ (fun _ a b _ _ => LF hb hl b (hG.keep a.ro)) ?_
 intro v s1 s2 hkk _ _
 obtain ⟨k, rfl, -⟩ := id hkk
 have k4 := HA (c := 4) hkk (by omega) (by omega)
 refine Mq rfl rfl ?_
 refine gP rfl rfl rfl ?_
 exact aE fun s1 h1 h2 h3 h4 => ⟨_, _, rfl, by show V.bool _ = V.bool _; congr 1; rw [decide_eq_decide]; exact k4, h1⟩
theorem LI {name : List Nat} {s : S} (hb : Bytes name) (hl : name.length < 4611686018427387904) (hw : WF s) (hG : cF s) : Cw au 68 [.str name] s fun v s' => v = .bool (decide (aK name = 3)) ∧ Fw [] s s' := by
 refine aL (bb (C := zc) (e := ⟨[.str name], []⟩) (F := []) rfl Tryz.func68 rfl (by kernel_rfl) IE rfl ⟨rfl, rfl, rfl⟩ rfl hw rfl (by simp) trivial ay trivial (by simp) ?_)
 refine jQ (fun _ a b _ _ => LF hb hl b (hG.keep a.ro)) ?_
 intro v s1 s2 hkk _ _
 obtain ⟨k, rfl, -⟩ := id hkk
 have k3 := HA (c := 3) hkk (by omega) (by omega)
 refine Mq rfl rfl ?_
 refine gP rfl rfl rfl ?_
 exact aE fun s1 h1 h2 h3 h4 => ⟨_, _, rfl, by show V.bool _ = V.bool _; congr 1; rw [decide_eq_decide]; exact k3, h1⟩
end
end Go.AI.Lx
