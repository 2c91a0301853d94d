/- What the functions answer in the evaluator: part 8. No conditions beyond those of the row. -/
import Derived.Test.YtkeaedhoaamfnaaGreatDoorL7
import Derived.Test.YtkeaedhoaamfnaaGreatDoorA12
set_option linter.unusedVariables false
set_option linter.unusedSimpArgs false
noncomputable section
namespace Go.AI.Lx
open Go.Proofs Go.Proofs.YtkeaedhoaamfnaaGreatDoor
set_option maxRecDepth 10000
theorem Hq : size Tryz.prog 135 = some 1 := by kernel_rfl
theorem LR : fK Tryz.prog 135 = some false := by kernel_rfl
theorem WI (s : S) : fe Tryz.prog s 135 = some (.val (.ptr ⟨s.next, 0, 0⟩) (s.alloc (.cells 135 false 1 [⟨0, 0, [.nilslice]⟩]))) := by kernel_rfl
theorem Ll (s : S) (a : Ad) : loadVar Tryz.prog s 135 a = cO s a := by simp only [loadVar, LR]
theorem Oq (s : S) (a : Ad) (v : V) (h : v.cells = [v]) : storeVar Tryz.prog s 135 a v = storeCells s a [v] := by
 simp only [storeVar, Hq, h]; rfl
theorem Ix : Bd Tryz.prog 135 117 4 := ⟨by kernel_rfl, by kernel_rfl, by kernel_rfl, by kernel_rfl, by kernel_rfl⟩
theorem Vl (s : S) (x0 x1 x2 x3 : V) : bz Tryz.prog s 135 1 (some [(0, .agg [x0, x1, x2, x3])]) = some (.val (.slice ⟨s.next, 0, 0⟩ 0 1 (some 1) 4) (s.alloc (.cells 117 false 1 [⟨0, 0, [x0, x1, x2, x3]⟩]))) := by kernel_rfl
def SK : Code := match Tryz.f102.body with
 | some (.seq _ (.seq _ (.seq _ (.seq (.seq _ (.block _ c)) _)))) => c
 | _ => .skip
def Pb : Code := match SK with
 | .rangeFunc _ _ a _ => a
 | _ => .skip
def Pa : Code := match SK with
 | .rangeFunc _ _ _ b => b
 | _ => .skip
abbrev lh (tr : T V) (d : Nat) (st : LoopState) : bZ := .loop st none 102 tr #[11] Pb Pa d Tryz.f102.ntmps
def IT (tr : T V) (d lb A : Nat) (n : Nat) (c : List V) (D : List Nat) (s : S) : Prop := ∃ (o : Option Nat) (v : V) (cs : List V), D = lb :: A :: o.toList ∧ s.get lb = some (lh tr d .ready) ∧ s.get A = some (.cells 135 false 1 [⟨0, 0, [v]⟩]) ∧
 gQ 117 4 s v n cs o ∧ (1 ≤ n → cs.take 4 = c) ∧ (∀ X, o = some X → X ≠ lb ∧ X ≠ A) ∧ lb ≠ A
theorem Uh (tr : T V) (d lb A n : Nat) (c : List V) (D : List Nat) : kz D (IT tr d lb A n c D) := fun s s' ⟨o, v, cs, hD, h1, h2, h3, h4, h5, h6⟩ hk hn =>
 ⟨o, v, cs, hD, hk _ (by simp [hD]) _ h1, hk _ (by simp [hD]) _ h2, h3.keep (fun X B hX hB => hk X (by simp [hD, hX]) B hB), h4, h5, h6⟩
theorem WZ {tr : T V} {d lb A : Nat} (ht : tr.get (eV 3) = some (.ptr ⟨A, 0, 0⟩)) : XF lb (IT tr d lb A) := by
 refine ⟨fun n c D => Uh tr d lb A n c D, ?_⟩
 rintro n c D s tok ⟨o, v, cs, rfl, gl, ga, hG, hc, hX, hne⟩ hw h1 h4 hn hlt
 obtain ⟨x0, x1, x2, x3, rfl⟩ : ∃ x0 x1 x2 x3, tok = [x0, x1, x2, x3] := by
  match tok, h4 with
  | [a, b, c, d], _ => exact ⟨a, b, c, d, rfl⟩
 have hall : [x0, x1, x2, x3].all V.one = true := h1
 have key : Wp aq 102 Tryz.f102 (dl tr [11] [.agg [x0, x1, x2, x3]] id) [.code Pb, .beginRound, .code Pa] [] none (some lb) s (fun out => ∃ s' D', out = ⟨.returned (.bool true), none, s'⟩ ∧ Fw (lb :: A :: o.toList) s s' ∧ IT tr d lb A (n + 1) (if n = 0 then [x0, x1, x2, x3] else c) D' s' ∧ (∀ g ∈ D', g < s'.next ∧ (g ∈ lb :: A :: o.toList ∨ s.next ≤ g))) := by
  rw [show dl tr [11] [.agg [x0, x1, x2, x3]] id = putD tr (some 11) (.agg [x0, x1, x2, x3]) from rfl]
  have hm := (Me.start (F := []) hw).alloc (B := .cells 117 false 1 [⟨0, 0, [.int .i64 0, .int .i64 0, .str [], .int .i64 0]⟩]) (fun _ h => by cases h)
  generalize hN : s.next = N at hm
  have g1 := hm.at 0 rfl
  have hm2 := hm.put 0 rfl (B' := .cells 117 false 1 [⟨0, 0, [x0, x1, x2, x3]⟩]) (fun _ h => by cases h)
  simp only [List.set_cons_zero] at hm2
  refine ar (t' := ?t1) (ds' := ?d1) (up' := ?u1) (s' := ?s1) (by kernel_rfl) ?h1 ?k1
  case h1 =>
   simp only [dt, du, ae, aL, af, al, fE, ac, aG, ah, ab, eu, Nat.reduceEqDiff, reduceIte, jT, Th, hN, SH _ _ [x0, x1, x2, x3] rfl, EL g1 0 [x0, x1, x2, x3] hall rfl]
   exact rfl
  case k1 =>
  generalize S.put _ N _ = s1 at hm2 ⊢
  have hf1 := hm2.fw
  have gN := hm2.at 0 rfl
  have gl1 := hf1.keep _ _ (by simp) gl
  have ga1 := hf1.keep _ _ (by simp) ga
  have hG1 := hG.fw hf1 (by simp)
  have hnx1 := hf1.next
  have hlN : lb ≠ N := by have := hlt lb (by simp); omega
  have hAN : A ≠ N := by have := hlt A (by simp); omega
  have hXN : ∀ X, o = some X → X ≠ N := fun X hx => by have := hlt X (by simp [hx]); omega
  refine NW gl1 ?_
  have hf2 : Fw [lb] s1 (s1.put lb (lh tr d .busy)) := Fw.put (by simp) gl1 (fun _ h => by cases h) _
  have hl2 : (s1.put lb (lh tr d .busy)).get lb = some (lh tr d .busy) := by rw [S.get_put, if_pos rfl]
  generalize s1.put lb (lh tr d .busy) = s2 at hf2 hl2 ⊢
  have gN2 := hf2.keep _ _ (by simp [hlN.symm]) gN
  have ga2 := hf2.keep _ _ (by simp [hne.symm]) ga1
  have hG2 := hG1.fw hf2 (fun X hx => by simp [(hX X hx).1])
  have hw2 := hf2.wf (hf1.wf hw)
  have hf3 := Fw.alloc [] hw2 (.cells 117 false 1 [⟨0, 0, [x0, x1, x2, x3]⟩])
  have gM3 := cy s2 (.cells 117 false 1 [⟨0, 0, [x0, x1, x2, x3]⟩])
  have hnx2 := hf2.next
  have hnx3 := hf3.next
  obtain ⟨v', s4, X', happ, hG4, hble, hor⟩ := (hG2.fw hf3 (by simp)).app Ix (hf3.wf hw2) (c := some 1) gM3 rfl hall (by omega)
  have ga3 := hf3.keep _ _ (by simp) ga2
  have hl3 := hf3.keep _ _ (by simp) hl2
  have hXX : (X' ≠ lb ∧ X' ≠ A) ∧ (o = some X' ∨ s.next ≤ X') := by
   rcases hor with ⟨_, h, _⟩ | ⟨h, _⟩
   ·have h2 := hlt lb (by simp)
    have h3 := hlt A (by simp)
    rw [S.next_alloc] at h
    exact ⟨⟨by omega, by omega⟩, .inr (by omega)⟩
   ·exact ⟨hX X' h, .inl h⟩
  have hf4 : Fw [X'] (s2.alloc (.cells 117 false 1 [⟨0, 0, [x0, x1, x2, x3]⟩])) s4 := by
   rcases hor with ⟨_, _, h⟩ | ⟨_, h⟩
   ·exact h.mono (by simp)
   ·exact h
  have ga4 := hf4.keep _ _ (by simp [hXX.1.2.symm]) ga3
  have hl4 := hf4.keep _ _ (by simp [hXX.1.1.symm]) hl3
  have hv1 : [v'].all V.one = true := by simp [hG4.one]
  have htk : aW 4 [x0, x1, x2, x3] = some [x0, x1, x2, x3] := rfl
  refine ce ?_
  refine ar (t' := ?t2) (ds' := ?d2) (up' := ?u2) (s' := ?s2) (by kernel_rfl) ?h2 ?k2
  case h2 =>
   simp only [dt, aZ, du, ae, aL, af, al, fE, ac, aG, ah, ab, eu, Nat.reduceEqDiff, reduceIte, ag, bB, dS, evals, jT, List.getElem?_toArray, List.getElem?_cons_zero, List.getElem?_cons_succ, Option.map, Ll, wO ga2, SQ, QP gN2, List.drop_zero, htk, dW, Vl, tX, happ, Oq _ _ v' hG4.cel, EL ga4 0 [v'] hv1 rfl, ht]
   exact rfl
  case k2 =>
  have hf5 : Fw [A] s4 (s4.put A (.cells 135 false 1 [⟨0, 0, [v']⟩])) := Fw.put (by simp) ga4 (fun _ h => by cases h) _
  have ga5 : (s4.put A (.cells 135 false 1 [⟨0, 0, [v']⟩])).get A = some (.cells 135 false 1 [⟨0, 0, [v']⟩]) := by rw [S.get_put, if_pos rfl]
  generalize s4.put A (.cells 135 false 1 [⟨0, 0, [v']⟩]) = s5 at hf5 ga5 ⊢
  have hl5 := hf5.keep _ _ (by simp [hne]) hl4
  have hG5 := hG4.fw hf5 (fun X hx => by cases hx; simp [hXX.1.2])
  refine cE (Eg hl5 ?_)
  have hf6 : Fw [lb] s5 (s5.put lb (lh tr d .ready)) := Fw.put (by simp) hl5 (fun _ h => by cases h) _
  have hl6 : (s5.put lb (lh tr d .ready)).get lb = some (lh tr d .ready) := by rw [S.get_put, if_pos rfl]
  refine ⟨_, lb :: A :: (some X').toList, rfl, ?_, ⟨some X', v', cs ++ [x0, x1, x2, x3], rfl, hl6, hf6.keep _ _ (by simp [hne.symm]) ga5, hG5.fw hf6 (fun X hx => by cases hx; simp [hXX.1.1]), ?_, fun X hx => by cases hx; exact hXX.1, hne⟩, ?_⟩
  ·have hA : Fw (lb :: A :: X' :: []) s (s5.put lb (lh tr d .ready)) :=
    ((((hf1.mono (by simp)).trans (hf2.mono (by simp))).trans (hf3.mono (by simp))).trans (hf4.mono (by simp))).trans ((hf5.mono (by simp)).trans (hf6.mono (by simp)))
   rcases hXX.2 with h | h
   ·rw [h]; exact hA
   ·refine ⟨fun g B hg hB => hA.keep g B (fun hm => ?_) hB, hA.ro, hA.next, hA.wf⟩
    have := hw g B hB
    simp only [List.mem_cons, List.not_mem_nil, or_false] at hm
    rcases hm with rfl | rfl | rfl
    ·exact hg (by simp)
    ·exact hg (by simp)
    ·omega
  ·intro _
   by_cases h0 : n = 0
   ·subst h0
    cases hG with
    | nil => rfl
    | row X nv rest n cs k1 k2 k3 =>
     have : cs = [] := List.eq_nil_of_length_eq_zero (by omega)
     subst this; rfl
   ·rw [if_neg h0, ← hc (by omega)]
    have : 4 ≤ cs.length := by
     cases hG with
     | nil => omega
     | row X nv rest n cs k1 k2 k3 => omega
    rw [List.take_append_of_le_length this]
  ·intro g hg
   have hn4 := hf4.next
   have hn5 := hf5.next
   have hn6 := hf6.next
   have hwf6 := hf6.wf (hf5.wf (hf4.wf (hf3.wf hw2)))
   simp only [List.mem_cons, Option.toList, List.not_mem_nil, or_false] at hg
   rcases hg with rfl | rfl | rfl
   ·exact ⟨hwf6 _ _ hl6, .inl (by simp)⟩
   ·exact ⟨Nat.lt_of_lt_of_le (show g < s5.next by have := hlt g (by simp); omega) hf6.next, .inl (by simp)⟩
   ·refine ⟨Nat.lt_of_lt_of_le (Nat.lt_of_lt_of_le (hG4.lt (hf4.wf (hf3.wf hw2))) hf5.next) hf6.next, ?_⟩
    ·rcases hXX.2 with h | h
     ·exact .inl (by simp [h])
     ·exact .inr (by omega)
 obtain ⟨out, hfr, s', D', rfl, hF, hI, hb⟩ := key
 exact ⟨s', D', none, ON gl Tryz.func102 (by kernel_rfl) hfr (fun k => by simp only [dl, T.setK_eq]; rfl), hF, hI, hb⟩
theorem Ku {E : cx} {f : FuncId} {fn : Func} {t : T V} {ds : List ei} {up : Option Md} {s : S} {Q : dz → Prop} (h : Un E f fn t ds .returning up s Q) : Wp E f fn t [] ds up none s Q := by
 obtain ⟨o, h1, h2⟩ := h
 refine ⟨o, ?_, h2⟩
 unfold Fr
 rw [eN]
 simp only [bg, bh, dy, js, fY]
 exact h1
theorem oc {rec : fO} {recR : qK} {rd : Option Nat} {d : Option Tmp} {t : T V} {ds : List ei} {up : Option Md} {k : RK} {s : S} : et rec recR rd d t ds up k (some (.recover s)) = recovered d t ds s k up := rfl
theorem yL {d : Option Tmp} {t : T V} {ds : List ei} {s : S} {k : RK} : recovered d t ds s k (some .returning) = k (putD t d .nilIface) ds (some .returning) s := by simp only [recovered, dA]
theorem yM {d : Option Tmp} {t : T V} {ds : List ei} {s : S} {k : RK} {v : V} {r : List vJ} : recovered d t ds s k (some (.panicking (⟨v, false⟩ :: r))) = k (putD t d v) ds (some (.panicking (⟨v, true⟩ :: r))) s := by simp only [recovered, dA]
theorem PW {A B : Nat} {s : S} : lim aq (.call 155 [.ptr ⟨A, 0, 0⟩, .ptr ⟨B, 0, 0⟩] (some .returning)) s = some ⟨.returned (.tuple []), some .returning, s⟩ := by
 have key : Wp aq 155 Tryz.f155 (aO [.ptr ⟨A, 0, 0⟩, .ptr ⟨B, 0, 0⟩] 0 .leaf id) [.code (match Tryz.f155.body with | some c => c | none => .skip)] [] (some .returning) none s (fun o => o = ⟨.returned (.tuple []), some .returning, s⟩) := by
  rw [bc, bc, dB]
  refine aM ?_
  refine ar (t' := ?t1) (ds' := ?d1) (up' := ?u1) (s' := ?s1) (by kernel_rfl) ?h1 ?k1
  case h1 =>
   simp only [ae, aL, af, ac, aG, bB, dS, Nat.zero_add, evals, oc, yL]
   exact rfl
  case k1 =>
  refine ce ?_
  refine aM ?_
  refine ar (t' := ?t2) (ds' := ?d2) (up' := ?u2) (s' := ?s2) (by kernel_rfl) ?h2 ?k2
  case h2 =>
   simp only [ae, af, ac, aG, ah, ab, Nat.reduceEqDiff, reduceIte, jT, cw, bd, eg, cond_true, bt, Option.map, Ao]
   exact rfl
  case k2 =>
  refine ck true (by simp only [ah]; exact rfl) (fun _ => ?_) (fun h => by cases h)
  refine ar (t' := ?t3) (ds' := ?d3) (up' := ?u3) (s' := ?s3) (by kernel_rfl) ?h3 ?k3
  case h3 =>
   simp only [ae, af, ac, aG, ah]
   exact rfl
  case k3 =>
  refine cE (Ku (Bo (v := .tuple []) ?_ rfl))
  exact rfl
 obtain ⟨o, h1, rfl⟩ := key
 exact Eo Tryz.func155 rfl (by kernel_rfl) h1
theorem PX {A B : Nat} {a e : Int} {av : V} {be : List V} {s : S} (hw : WF s) (hA : s.get A = some (.cells 135 false 1 [⟨0, 0, [av]⟩])) (hB : s.get B = some (.cells 172 false 1 [⟨0, 0, be⟩])) (hbe : be.length = 2) (hne : A ≠ B) :
 ∃ s', lim aq (.call 155 [.ptr ⟨A, 0, 0⟩, .ptr ⟨B, 0, 0⟩] (some (.panicking [⟨.iface 172 (.agg [.int .i64 a, .int .i64 e]), false⟩]))) s = some ⟨.returned (.tuple []), some (.panicking [⟨.iface 172 (.agg [.int .i64 a, .int .i64 e]), true⟩]), s'⟩ ∧
  s'.get A = some (.cells 135 false 1 [⟨0, 0, [.nilslice]⟩]) ∧ s'.get B = some (.cells 172 false 1 [⟨0, 0, [.int .i64 a, .int .i64 e]⟩]) ∧ Fw [A, B] s s' := by
 have key : Wp aq 155 Tryz.f155 (aO [.ptr ⟨A, 0, 0⟩, .ptr ⟨B, 0, 0⟩] 0 .leaf id) [.code (match Tryz.f155.body with | some c => c | none => .skip)] [] (some (.panicking [⟨.iface 172 (.agg [.int .i64 a, .int .i64 e]), false⟩])) none s
  (fun o => ∃ s', o = ⟨.returned (.tuple []), some (.panicking [⟨.iface 172 (.agg [.int .i64 a, .int .i64 e]), true⟩]), s'⟩ ∧ s'.get A = some (.cells 135 false 1 [⟨0, 0, [.nilslice]⟩]) ∧ s'.get B = some (.cells 172 false 1 [⟨0, 0, [.int .i64 a, .int .i64 e]⟩]) ∧ Fw [A, B] s s') := by
  rw [bc, bc, dB]
  refine aM ?_
  refine ar (t' := ?t1) (ds' := ?d1) (up' := ?u1) (s' := ?s1) (by kernel_rfl) ?h1 ?k1
  case h1 =>
   simp only [ae, aL, af, ac, aG, bB, dS, Nat.zero_add, evals, oc, yM]
   exact rfl
  case k1 =>
  refine ce ?_
  refine aM ?_
  have hq : eb Tryz.prog (AI.plainAt s) 20 20 (.iface 172 (.agg [.int .i64 a, .int .i64 e])) .nilIface = some false := by kernel_rfl
  refine ar (t' := ?t2) (ds' := ?d2) (up' := ?u2) (s' := ?s2) (by kernel_rfl) ?h2 ?k2
  case h2 =>
   simp only [ae, aL, af, al, ac, aG, ah, ab, Nat.reduceEqDiff, reduceIte, ag, jT, cw, bd, eg, cond_true, bt, Option.map, Ao, hq]
   exact rfl
  case k2 =>
  refine ck false (by simp only [ah, ab, Nat.reduceEqDiff, reduceIte]) (fun h => by cases h) (fun _ => ?_)
  refine aM ?_
  have has : gv Tryz.prog (some (.iface 172 (.agg [.int .i64 a, .int .i64 e]))) 172 true = some (.tuple [.agg [.int .i64 a, .int .i64 e], .bool true]) := by kernel_rfl
  refine ar (t' := ?t3) (ds' := ?d3) (up' := ?u3) (s' := ?s3) (by kernel_rfl) ?h3 ?k3
  case h3 =>
   simp only [ae, aL, af, al, ac, aG, ah, ab, Nat.reduceEqDiff, reduceIte, ag, jT, List.getElem?_cons_zero, List.getElem?_cons_succ, has, uQ]
   exact rfl
  case k3 =>
  refine ck true (by simp only [ah, ab, Nat.reduceEqDiff, reduceIte]) (fun _ => ?_) (fun h => by cases h)
  refine aM ?_
  have hm := (Me.start (F := []) hw).alloc (B := .cells 172 false 1 [⟨0, 0, [.int .i64 0, .int .i64 0]⟩]) (fun _ h => by cases h)
  generalize hN : s.next = N at hm
  have g1 := hm.at 0 rfl
  have hm2 := hm.put 0 rfl (B' := .cells 172 false 1 [⟨0, 0, [.int .i64 a, .int .i64 e]⟩]) (fun _ h => by cases h)
  simp only [List.set_cons_zero] at hm2
  refine ar (t' := ?t4) (ds' := ?d4) (up' := ?u4) (s' := ?s4) (by kernel_rfl) ?h4 ?k4
  case h4 =>
   simp only [dt, du, ae, aL, af, al, fE, ac, aG, ah, ab, eu, Nat.reduceEqDiff, reduceIte, jT, Tg, hN, Oo _ _ [.int .i64 a, .int .i64 e] rfl, EL g1 0 [.int .i64 a, .int .i64 e] rfl rfl]
   exact rfl
  case k4 =>
  generalize S.put _ N _ = s1 at hm2 ⊢
  have hf1 := hm2.fw
  have gN := hm2.at 0 rfl
  have hA1 := hf1.keep _ _ (by simp) hA
  have hB1 := hf1.keep _ _ (by simp) hB
  have hf2 : Fw [A] s1 (s1.put A (.cells 135 false 1 [⟨0, 0, [.nilslice]⟩])) := Fw.put (by simp) hA1 (fun _ h => by cases h) _
  have hA2 : (s1.put A (.cells 135 false 1 [⟨0, 0, [.nilslice]⟩])).get A = some (.cells 135 false 1 [⟨0, 0, [.nilslice]⟩]) := by rw [S.get_put, if_pos rfl]
  have hst : storeCells s1 ⟨A, 0, 0⟩ [.nilslice] = some (s1.put A (.cells 135 false 1 [⟨0, 0, [.nilslice]⟩])) := EL hA1 0 [.nilslice] rfl rfl
  generalize s1.put A (.cells 135 false 1 [⟨0, 0, [.nilslice]⟩]) = s2 at hf2 hA2 hst
  have hAN : A ≠ N := by have := hw A _ hA; omega
  have gN2 := hf2.keep _ _ (by simp [hAN.symm]) gN
  have hB2 := hf2.keep _ _ (by simp [hne.symm]) hB1
  obtain ⟨b1, b2, rfl⟩ : ∃ b1 b2, be = [b1, b2] := by
   match be, hbe with
   | [x, y], _ => exact ⟨x, y, rfl⟩
  have hf3 : Fw [B] s2 (s2.put B (.cells 172 false 1 [⟨0, 0, [.int .i64 a, .int .i64 e]⟩])) := Fw.put (by simp) hB2 (fun _ h => by cases h) _
  have hB3 : (s2.put B (.cells 172 false 1 [⟨0, 0, [.int .i64 a, .int .i64 e]⟩])).get B = some (.cells 172 false 1 [⟨0, 0, [.int .i64 a, .int .i64 e]⟩]) := by rw [S.get_put, if_pos rfl]
  have hst3 : storeCells s2 ⟨B, 0, 0⟩ [.int .i64 a, .int .i64 e] = some (s2.put B (.cells 172 false 1 [⟨0, 0, [.int .i64 a, .int .i64 e]⟩])) := EL hB2 0 [.int .i64 a, .int .i64 e] rfl rfl
  have hnb2 := hf2.ble
  have hnb3 := hf3.ble
  generalize s2.put B (.cells 172 false 1 [⟨0, 0, [.int .i64 a, .int .i64 e]⟩]) = s3 at hf3 hB3 hst3 hnb3
  have htk : aW 2 [V.int .i64 a, .int .i64 e] = some [.int .i64 a, .int .i64 e] := rfl
  refine gd (t' := ?t5) (ds' := ?d5) (up' := ?u5) (s' := ?s5) [(none, 1), (some 2, 0), (none, 2)] (by kernel_rfl) (by kernel_rfl) ?h5 ?k5
  case h5 =>
   simp only [cH, ef, ii, cI, eY, bC, bQ, ey, dC, dT, aS, dX, gJ, bD, cJ, bN, kJ, iU, aC, List.take_succ_cons, List.take_nil, jf, dt, aZ, du, ac, aG, ah, ab, eu, Nat.reduceEqDiff, reduceIte, ag, jT, List.getElem?_toArray, List.getElem?_cons_zero, List.getElem?_cons_succ, Option.map, bN, Ng, Oq _ _ .nilslice rfl, hst, hnb2, Lj, QP gN, QP gN2, List.drop_zero, htk, Oo _ _ [.int .i64 a, .int .i64 e] rfl, hst3, hnb3]
   exact rfl
  case k5 =>
  refine cE (Ku (Bo (v := .tuple []) ?_ ?_))
  ·exact rfl
  ·exact ⟨s3, rfl, hf3.keep _ _ (by simp [hne]) hA2, hB3, ((hf1.mono (by simp)).trans (hf2.mono (by simp))).trans (hf3.mono (by simp))⟩
 obtain ⟨o, h1, s', rfl, h2, h3, h4⟩ := key
 exact ⟨s', Eo Tryz.func155 rfl (by kernel_rfl) h1, h2, h3, h4⟩
theorem Om {fs : Nat} {s : S} (hw : WF s) : Cw aq 156 [.ptr ⟨fs, 0, 0⟩] s fun v s' => ∃ vb, v = .func (.func 202) [] [.ptr ⟨vb, 0, 0⟩] ∧ s.next ≤ vb ∧ s'.get vb = some (.cells 170 false 1 [⟨0, 0, [.ptr ⟨fs, 0, 0⟩]⟩]) ∧ Fw [] s s' := by
 refine ay (aI (C := AF) (e := ⟨[.ptr ⟨fs, 0, 0⟩], []⟩) (F := []) rfl Tryz.func156 rfl (by kernel_rfl) Mk rfl ⟨rfl, rfl, rfl⟩ rfl hw rfl (by simp) trivial am trivial (by simp) ?_)
 refine aN fun b1 hb1 hd1 => ?_
 exact ak fun s1 h1 h2 h3 h4 => ⟨_, _, rfl, b1, rfl, hb1, h4.1, h1⟩
theorem WD (args : List V) (s : S) : gc aq 154 args s = some (.enter 154 args s) := by kernel_rfl
theorem WC (args : List V) (s : S) : gc aq 156 args s = some (.enter 156 args s) := by kernel_rfl
def WL (l : List Nat) (v : V) (b : Nat) (s : S) : Prop := ∃ (p row : V) (a e : Int), v = .tuple [p, row, .agg [.int .i64 a, .int .i64 e]] ∧ p.one = true ∧ ((e ≠ 0 ∧ bo l = 0 ∧ row = .nilslice) ∨ (e = 0 ∧ ∃ (n : Nat) (c cs : List V) (o : Option Nat), WO l l.length n c ∧ gQ 117 4 s row n cs o ∧ (1 ≤ n → cs.take 4 = c) ∧ ∀ X, o = some X → b ≤ X))
theorem OB {l : List Nat} (hb : Bytes l) (hl : l.length ≤ 24) {s : S} (hw : WF s) (hG : cd s) : Cw aq 102 [.str l] s fun v s' => WL l v s.next s' ∧ Fw [] s s' := by
 refine ay ?_
 refine rX (fn := Tryz.f102) rfl Tryz.func102 rfl (by kernel_rfl) ?_
 rw [bc, dB]
 have hm := ((Me.start (F := []) hw).alloc (B := .cells 135 false 1 [⟨0, 0, [.nilslice]⟩]) (fun _ h => by cases h)).alloc (B := .cells 172 false 1 [⟨0, 0, [.int .i64 0, .int .i64 0]⟩]) (fun _ h => by cases h)
 have hBn : (s.alloc (.cells 135 false 1 [⟨0, 0, [.nilslice]⟩])).next = s.next + 1 := S.next_alloc _ _
 rw [hBn] at hm
 generalize hA : s.next = A at hm hBn
 repeat refine aM ?_
 refine ar (t' := ?t1) (ds' := ?d1) (up' := ?u1) (s' := ?s1) (by kernel_rfl) ?h1 ?k1
 case h1 =>
  simp only [ae, aL, af, al, ac, aG, ag, jT, Nh, WI, Tg, hA, hBn]
  exact rfl
 case k1 =>
 generalize S.alloc (S.alloc s _) _ = s1 at hm ⊢
 refine aM ?_
 obtain ⟨v1, s2, call1, fs, mm, rfl, gfs, gmm, hfs, hmm, hfm, hf2⟩ := TP (l := l) hm.wf
 have call1 := iQ call1
 refine ar (t' := ?t2) (ds' := ?d2) (up' := ?u2) (s' := ?s2) (by kernel_rfl) ?h2 ?k2
 case h2 =>
  simp only [ae, aL, af, al, bR, cu, ac, aG, ah, dq, ab, Nat.reduceEqDiff, reduceIte, ag, bB, fA, List.nil_append, List.append_nil, evals, WD, call1]
  exact rfl
 case k2 =>
 refine aM ?_
 refine ar (t' := ?t3) (ds' := ?d3) (up' := ?u3) (s' := ?s3) (by kernel_rfl) ?h3 ?k3
 case h3 =>
  simp only [ae, af, ac, aG, ah, ab, Nat.reduceEqDiff, reduceIte, evals]
  exact rfl
 case k3 =>
 generalize hT : T.node _ (some (V.str l)) _ = t3
 have l2 : t3.get (eV 2) = some (.ptr ⟨fs, 0, 0⟩) := by rw [← hT]; rfl
 have l3 : t3.get (eV 3) = some (.ptr ⟨A, 0, 0⟩) := by rw [← hT]; rfl
 have l4 : t3.get (eV 4) = some (.ptr ⟨A + 1, 0, 0⟩) := by rw [← hT]; rfl
 clear hT
 have hm2 := hm.call hf2
 obtain ⟨v2, s3, call2, vb, rfl, hvb, gvb, hf3⟩ := Om (fs := fs) hm2.wf
 have call2 := iQ call2
 repeat refine aM ?_
 refine ar (t' := ?t4) (ds' := ?d4) (up' := ?u4) (s' := ?s4) (by kernel_rfl) ?h4 ?k4
 case h4 =>
  simp only [ae, aL, af, al, bR, cu, ac, aG, ah, dq, ab, reduceIte, ag, bB, fA, List.nil_append, List.append_nil, evals, WC, call2, l2]
  exact rfl
 case k4 =>
 have hm3 := hm2.call hf3
 have gA := hm3.at 1 rfl
 have gB := hm3.at 0 rfl
 have gfs3 := hf3.keep _ _ (by simp) gfs
 have gmm3 := hf3.keep _ _ (by simp) gmm
 have hf13 := hm3.fw
 have hw3 := hm3.wf
 have hlA : A < s1.next := hm.wf _ _ (hm.at 1 rfl)
 have hlB : A + 1 < s1.next := hm.wf _ _ (hm.at 0 rfl)
 have hl2 := hf2.next
 refine ce ?_
 have hf4 : Fw [] s3 (s3.alloc .deferred) := Fw.alloc [] hw3 _
 have hw4 := hf4.wf hw3
 have hlb : (s3.alloc .deferred).next = s3.next + 1 := S.next_alloc _ _
 have hf5 : Fw [] (s3.alloc .deferred) ((s3.alloc .deferred).alloc (lh (putD (putD t3 (some 9) (.ptr ⟨fs, 0, 0⟩)) (some 10) (.func (.func 202) [] [.ptr ⟨vb, 0, 0⟩])) s3.next .ready)) := Fw.alloc [] hw4 _
 have gL := cy (s3.alloc .deferred) (lh (putD (putD t3 (some 9) (.ptr ⟨fs, 0, 0⟩)) (some 10) (.func (.func 202) [] [.ptr ⟨vb, 0, 0⟩])) s3.next .ready)
 have hf45 := hf4.trans hf5
 have hw5 := hf45.wf hw3
 have hfsn : fs < s3.next := hw3 _ _ gfs3
 have hmmn : mm < s3.next := hw3 _ _ gmm3
 have hvbn : vb < s3.next := hw3 _ _ gvb
 have hs2n : s2.next ≤ s3.next := hf3.next
 have hs13 : s1.next ≤ s3.next := by omega
 have hfs2 : fs < s2.next := hm2.wf _ _ gfs
 have hmm2 : mm < s2.next := hm2.wf _ _ gmm
 have ht3 : (putD (putD t3 (some 9) (.ptr ⟨fs, 0, 0⟩)) (some 10) (.func (.func 202) [] [.ptr ⟨vb, 0, 0⟩])).get (eV 3) = some (.ptr ⟨A, 0, 0⟩) := by simp only [ab, Nat.reduceEqDiff, reduceIte, l3]
 have key := Vz (I := IT (putD (putD t3 (some 9) (.ptr ⟨fs, 0, 0⟩)) (some 10) (.func (.func 202) [] [.ptr ⟨vb, 0, 0⟩])) s3.next (s3.alloc .deferred).next A) (c0 := []) (DY := [(s3.alloc .deferred).next, A]) hb hl (WZ ht3)
  ⟨none, .nilslice, [], rfl, gL, hf45.keep _ _ (by simp) gA, .nil, fun h => by omega, (fun X h => by cases h), by omega⟩
  (by
   intro g hg
   simp only [List.mem_cons, List.not_mem_nil, or_false] at hg
   have h5 := hf5.next
   rcases hg with rfl | rfl
   ·exact ⟨hw5 _ _ gL, by omega, by omega⟩
   ·exact ⟨Nat.lt_of_lt_of_le (by omega) h5, by omega, by omega⟩)
  hw5 ((((hG.keep hm.fw.ro).keep hf2.ro).keep hf3.ro).keep hf45.ro) (by omega) (hf45.keep _ _ (by simp) gvb) (hf45.keep _ _ (by simp) gfs3) (hf45.keep _ _ (by simp) gmm3)
  (by simp only [List.mem_append, List.mem_cons, List.not_mem_nil, or_false]; omega)
 show Wp aq 102 Tryz.f102 _ (.code (.rangeFunc (.tmp 10) #[11] Pb Pa) :: _) _ _ _ _ _
 unfold QS at key
 refine NT (g' := 202) (first := []) (cap := [.ptr ⟨vb, 0, 0⟩]) (by simp only [ah, ab, Nat.reduceEqDiff, reduceIte]) key ?_ ?_
 ·rintro _ s6 ⟨rfl, n, c, D, hR, ⟨o, v', cs, rfl, gl, ga, hGr, hc, hX, hne⟩, hf6, hDn⟩
  refine ⟨gl, ?_⟩
  generalize hLB : (s3.alloc .deferred).next = LB at *
  have gd6 := hf6.keep _ _ (by simp only [List.mem_append, List.mem_cons, List.not_mem_nil, or_false]; omega) (hf5.keep _ _ (by simp) (cy s3 .deferred))
  have gB6 := hf6.keep _ _ (by simp only [List.mem_append, List.mem_cons, List.not_mem_nil, or_false]; omega) (hf45.keep _ _ (by simp) gB)
  have hf7 : Fw [LB] s6 (s6.put LB (lh (putD (putD t3 (some 9) (.ptr ⟨fs, 0, 0⟩)) (some 10) (.func (.func 202) [] [.ptr ⟨vb, 0, 0⟩])) s3.next .exhausted)) := Fw.put (by simp) gl (fun _ h => by cases h) _
  show Wp aq 102 Tryz.f102 _ _ _ _ _ (s6.put LB (lh (putD (putD t3 (some 9) (.ptr ⟨fs, 0, 0⟩)) (some 10) (.func (.func 202) [] [.ptr ⟨vb, 0, 0⟩])) s3.next .exhausted)) _
  generalize s6.put LB (lh (putD (putD t3 (some 9) (.ptr ⟨fs, 0, 0⟩)) (some 10) (.func (.func 202) [] [.ptr ⟨vb, 0, 0⟩])) s3.next .exhausted) = s7 at hf7 ⊢
  have gd7 := hf7.keep _ _ (by simp only [List.mem_cons, List.not_mem_nil, or_false]; omega) gd6
  have gB7 := hf7.keep _ _ (by simp only [List.mem_cons, List.not_mem_nil, or_false]; omega) gB6
  have ga7 := hf7.keep _ _ (by simp [hne.symm]) ga
  have hG7 := hGr.fw hf7 (fun X hx => by simp [(hX X hx).1])
  have hw7 : WF s7 := hf7.wf (hf6.wf hw5)
  have hf8 : Fw [A] s7 (s7.put A (.cells 135 false 1 [⟨0, 0, [v']⟩])) := Fw.put (by simp) ga7 (fun _ h => by cases h) _
  have ga8 : (s7.put A (.cells 135 false 1 [⟨0, 0, [v']⟩])).get A = some (.cells 135 false 1 [⟨0, 0, [v']⟩]) := by rw [S.get_put, if_pos rfl]
  have hst8 : storeCells s7 ⟨A, 0, 0⟩ [v'] = some (s7.put A (.cells 135 false 1 [⟨0, 0, [v']⟩])) := EL ga7 0 [v'] (by simp [hGr.one]) rfl
  have hnb8 := hf8.ble
  generalize s7.put A (.cells 135 false 1 [⟨0, 0, [v']⟩]) = s8 at hf8 ga8 hst8 hnb8
  have gB8 := hf8.keep _ _ (by simp) gB7
  have hf9 : Fw [A + 1] s8 (s8.put (A + 1) (.cells 172 false 1 [⟨0, 0, [.int .i64 0, .int .i64 0]⟩])) := Fw.put (by simp) gB8 (fun _ h => by cases h) _
  have gB9 : (s8.put (A + 1) (.cells 172 false 1 [⟨0, 0, [.int .i64 0, .int .i64 0]⟩])).get (A + 1) = some (.cells 172 false 1 [⟨0, 0, [.int .i64 0, .int .i64 0]⟩]) := by rw [S.get_put, if_pos rfl]
  have hst9 : storeCells s8 ⟨A + 1, 0, 0⟩ [.int .i64 0, .int .i64 0] = some (s8.put (A + 1) (.cells 172 false 1 [⟨0, 0, [.int .i64 0, .int .i64 0]⟩])) := EL gB8 0 [.int .i64 0, .int .i64 0] rfl rfl
  have hnb9 := hf9.ble
  generalize s8.put (A + 1) (.cells 172 false 1 [⟨0, 0, [.int .i64 0, .int .i64 0]⟩]) = s9 at hf9 gB9 hst9 hnb9
  have ga9 := hf9.keep _ _ (by simp) ga8
  have htk : aW 2 [V.int .i64 0, .int .i64 0] = some [.int .i64 0, .int .i64 0] := rfl
  refine cE ?_
  repeat refine aM ?_
  refine gd (t' := ?t5) (ds' := ?d5) (up' := ?u5) (s' := ?s5) [(some 1, 0), (some 1, 1), (some 1, 3), (none, 4), (some 2, 2), (none, 5)] (by kernel_rfl) (by kernel_rfl) ?h5 ?k5
  case h5 =>
   simp only [cH, ef, ii, cI, eY, bC, bQ, ey, dC, dT, aS, dX, gJ, cK, cg, bD, cJ, bN, kJ, iU, aC, List.take_succ_cons, List.take_nil, jf, dt, aZ, du, ac, aG, ah, ab, eu, Nat.reduceEqDiff, reduceIte, ag, jT, List.getElem?_toArray, List.getElem?_cons_zero, List.getElem?_cons_succ, Option.map, bN, Ll, wO ga7, Lj, QP gB7, QP gB8, List.drop_zero, htk, Oq _ _ v' hGr.cel, hst8, hnb8, Oo _ _ [.int .i64 0, .int .i64 0] rfl, hst9, hnb9, l2, l3, l4]
   exact rfl
  case k5 =>
  have gd9 := hf9.keep _ _ (by simp only [List.mem_cons, List.not_mem_nil, or_false]; omega) (hf8.keep _ _ (by simp only [List.mem_cons, List.not_mem_nil, or_false]; omega) gd7)
  have hXB : ∀ X, o = some X → X ≠ A + 1 ∧ X ≠ s3.next := fun X hx => by
   subst hx
   cases hG7 with
   | row _ nv rest n cs q1 q2 q3 => exact ⟨fun h => (by rw [h, gB7] at q1; cases q1), fun h => (by rw [h, gd7] at q1; cases q1)⟩
  have hG9 := (hG7.fw hf8 (fun X hx => by simp [(hX X hx).2])).fw hf9 (fun X hx => by simp [(hXB X hx).1])
  have hf10 : Fw [s3.next] s9 (s9.put s3.next .gone) := Fw.put (by simp) gd9 (fun _ h => by cases h) _
  refine QZ (qV (by simp) gd9 ?_)
  generalize s9.put s3.next .gone = s10 at hf10 ⊢
  have hG10 := hG9.fw hf10 (fun X hx => by simp [(hXB X hx).2])
  have ga10 := hf10.keep _ _ (by simp only [List.mem_cons, List.not_mem_nil, or_false]; omega) ga9
  have gB10 := hf10.keep _ _ (by simp only [List.mem_cons, List.not_mem_nil, or_false]; omega) gB9
  refine KC PW (by simp) (by simp) ?_
  refine Bo (v := .tuple [.ptr ⟨fs, 0, 0⟩, v', .agg [.int .i64 0, .int .i64 0]]) ?_ ?_
  ·have hr : Tryz.f102.results.toList = [.tmp 2, .cell 3 135, .cell 4 172] := by kernel_rfl
   simp only [de, hr, fW, gD, ab, Nat.reduceEqDiff, reduceIte, l2, l3, l4, jT, Ll, wO ga10, Lj, QP gB10, List.drop_zero, htk, List.getElem?_cons_zero, Option.map, rj]
  ·refine ⟨_, _, rfl, ⟨_, _, 0, 0, rfl, rfl, .inr ⟨rfl, n, c, cs, o, hR, hG10, hc, fun X hx => ?_⟩⟩, ?_⟩
   ·have h1 := hf13.next
    have h2 := hf45.next
    rcases hDn X (by simp [hx]) with h | h
    ·omega
    ·simp only [List.mem_append, List.mem_cons, List.not_mem_nil, or_false] at h
     omega
   have hW : Fw ([vb, fs] ++ [LB, A, A + 1, s3.next]) s3 s10 :=
    ((((hf45.mono (by simp)).trans (hf6.mono (by simp))).trans (hf7.mono (by simp))).trans ((hf8.mono (by simp)).trans (hf9.mono (by simp)))).trans (hf10.mono (by simp))
   refine hf13.andThen hw hW (fun g hg => .inl ?_)
   have := hf13.next
   simp only [List.mem_append, List.mem_cons, List.not_mem_nil, or_false] at hg
   omega
 ·rintro _ s6 ⟨⟨a, e, he, rfl⟩, hk, ⟨n, c, D, o, v', cs, rfl, gl, ga, hGr, hc, hX, hne⟩, hf6⟩
  generalize hLB : (s3.alloc .deferred).next = LB at *
  have gd6 := hf6.keep _ _ (by simp only [List.mem_append, List.mem_cons, List.not_mem_nil, or_false]; omega) (hf5.keep _ _ (by simp) (cy s3 .deferred))
  have gB6 := hf6.keep _ _ (by simp only [List.mem_append, List.mem_cons, List.not_mem_nil, or_false]; omega) (hf45.keep _ _ (by simp) gB)
  have hf7 : Fw [s3.next] s6 (s6.put s3.next .gone) := Fw.put (by simp) gd6 (fun _ h => by cases h) _
  refine qV (by simp) gd6 ?_
  generalize s6.put s3.next .gone = s7 at hf7 ⊢
  have ga7 := hf7.keep _ _ (by simp only [List.mem_cons, List.not_mem_nil, or_false]; omega) ga
  have gB7 := hf7.keep _ _ (by simp only [List.mem_cons, List.not_mem_nil, or_false]; omega) gB6
  have hw7 : WF s7 := hf7.wf (hf6.wf hw5)
  obtain ⟨s8, hc8, ga8, gB8, hf8⟩ := PX (a := a) (e := e) hw7 ga7 gB7 rfl (by omega)
  refine KC hc8 (by simp) (by simp) ?_
  have htk : aW 2 [V.int .i64 a, .int .i64 e] = some [.int .i64 a, .int .i64 e] := rfl
  refine Bo (v := .tuple [.ptr ⟨fs, 0, 0⟩, .nilslice, .agg [.int .i64 a, .int .i64 e]]) ?_ ?_
  ·have hr : Tryz.f102.results.toList = [.tmp 2, .cell 3 135, .cell 4 172] := by kernel_rfl
   simp only [de, hr, fW, gD, ab, Nat.reduceEqDiff, reduceIte, l2, l3, l4, jT, Ll, wO ga8, Lj, QP gB8, List.drop_zero, htk, List.getElem?_cons_zero, Option.map, rj]
  ·refine ⟨_, _, rfl, ⟨_, _, a, e, rfl, rfl, .inl ⟨he, hk, rfl⟩⟩, ?_⟩
   have hW : Fw ([vb, fs] ++ [LB, A, A + 1, s3.next]) s3 s8 :=
    (((hf45.mono (by simp)).trans (hf6.mono (by simp))).trans (hf7.mono (by simp))).trans (hf8.mono (by simp))
   refine hf13.andThen hw hW (fun g hg => .inl ?_)
   have := hf13.next
   simp only [List.mem_append, List.mem_cons, List.not_mem_nil, or_false] at hg
   omega
end Go.AI.Lx
namespace Go.AI.Lx
open Go.Proofs Go.Proofs.YtkeaedhoaamfnaaGreatDoor
def Kd : List aA := []
def Jz : Code := match Tryz.f69.body with | some c => c | none => .skip
def AR : eK := ⟨aq, Tryz.f69, Kd, [(102, ⟨[], false⟩)], [⟨100005, [(4, false), (30, true)], []⟩], 0⟩
def mz : ax := .cond 1 (rT (iV 0)) (aT (.indexAddr 135 0 (iV 0)) 2 (aT (.fieldAddr 117 2 0) 3 (aT (.load 3 3) 4 (rT 4))))
def HF : ax := aT (.bif .len #[9] [0]) 1 (aT (.bin .gtr 3 true 1 (iV 24)) 2 (.cond 2 (rT (iV 0)) (.call 102 [0] [] [] 4 (.tuple [3, 4, .agg [5, 6]]) false (.new (aT (.bin .neq 31 true 6 (iV 0)) 7 (.cond 7 (.cut 2 [4, .bool true] [] [] mz) (aT (.bif .len #[135] [4]) 8 (aT (.bin .neq 3 true 8 (iV 1)) 9 (.cond 9 (.cut 2 [4, .bool true] [] [] mz) (aT (.indexAddr 135 4 (iV 0)) 10 (aT (.fieldAddr 117 10 2) 11 (aT (.load 9 11) 12 (aT (.bin .neq 9 false 12 0) 13 (.cut 2 [4, 13] [] [] mz))))))))))))))
theorem Mx : bu AR 400 [] [.code Jz] (aO [.atom 0] 0 .leaf id) (aR ⟨.leaf, 0⟩ []) 1 = some HF := by kernel_rfl
end Go.AI.Lx
namespace Go.AI.Lx
open Go.Proofs Go.Proofs.YtkeaedhoaamfnaaGreatDoor
set_option maxRecDepth 10000
theorem Ae {s : S} {row : V} {n : Nat} {cs c : List V} {o : Option Nat} (h : gQ 117 4 s row n cs o) (hn : 1 ≤ n) (hc : cs.take 4 = c) {i : Nat} (hi : i < 4) {w : V} (hw : c[i]? = some w) {ty : TypeId} (hl : ∀ s a, loadVar Tryz.prog s ty a = cO s a) :
 ∃ X nv, bJ Tryz.prog 135 (some row) (some 0) = some (.ptr ⟨X, nv, 0⟩) ∧ aQ Tryz.prog 117 (some (.ptr ⟨X, nv, 0⟩)) i = (aQ Tryz.prog 117 (some (.ptr ⟨X, nv, 0⟩)) i) ∧ ∀ s', gQ 117 4 s' row n cs o → gh (eQ Tryz.prog s' ty (some (.ptr ⟨X, nv, 0 + i⟩))) = some w := by
 cases h with
 | nil => omega
 | row X nv rest n cs h1 h2 h3 =>
  refine ⟨X, nv, ?_, rfl, fun s' hG => ?_⟩
  ·have hu : Tryz.prog.underlying 135 = some (.slice 117) := Ix.und
   simp only [bJ, hu, pZ, Nat.beq_refl, Bool.true_and]
   rw [show Nat.blt 0 n = true from Nat.ble_eq_true_of_le hn]
   rfl
  ·cases hG with
   | row _ _ rest' _ _ g1 g2 g3 =>
    have hv : bw (⟨nv, 0, cs⟩ :: rest') nv = some ⟨nv, 0, cs⟩ := by simp only [bw, Nat.beq_refl, cond_true]
    rw [aZ, hl]
    simp only [cO, g1, hv, GO, cond_true, Nat.sub_zero, Nat.zero_add]
    have : cs[i]? = some w := by rw [← hw, ← hc, List.getElem?_take, if_pos hi]
    rw [this]; rfl
section
variable {l : List Nat} {s : S} {L : List bS}
theorem SW (X nv i : Nat) (hi : i < 4) : aQ Tryz.prog 117 (some (.ptr ⟨X, nv, 0⟩)) i = some (.ptr ⟨X, nv, 0 + i⟩) := by
 match i, hi with
 | 0, _ => exact RY X nv 0
 | 1, _ => exact RX X nv 0
 | 2, _ => exact RW X nv 0
 | 3, _ => exact RU X nv 0
def SC (l : List Nat) : bS := fun vs bs D U => ∃ (row : V) (q : Bool), vs = [row, .bool q] ∧ bs = [] ∧ (q = true → bo l = 0) ∧
 (q = false → ∃ (n : Nat) (cs : List V) (o : Option Nat) (k a p0 : Int) (s1 : S), D = o.toList ∧ U = (fun s => gQ 117 4 s row n cs o) ∧ 1 ≤ n ∧ cs.take 4 = [.int .i64 k, .int .i64 a, .str l, .int .i64 p0] ∧ qL l (.int .i64 k) ∧ gQ 117 4 s1 row n cs o)
theorem lq {vs : List V} {bs D : List Nat} {U : S → Prop} (h : SC l vs bs D U) : ai aq [] s (QK l s) mz ⟨vs, bs⟩ D U L := by
 obtain ⟨row, q, rfl, rfl, h1, h2⟩ := h
 refine aB rfl (fun c1 => ?_) (fun c1 => ?_)
 ·exact ak fun s1 k1 k2 k3 k4 => Pc k1 (h1 c1)
 ·obtain ⟨n, cs, o, k, a, p0, s1, rfl, rfl, hn, hc, hk, hG⟩ := h2 c1
  obtain ⟨X, nv, x1, -, x2⟩ := Ae (i := 0) hG hn hc (by omega) rfl CG
  refine ao (.ptr ⟨X, nv, 0⟩) rfl (fun s1 k1 k2 k3 k4 => x1) rfl ?_
  refine ao (.ptr ⟨X, nv, 0 + 0⟩) rfl (fun s1 k1 k2 k3 k4 => SW X nv 0 (by omega)) rfl ?_
  refine ao (.int .i64 k) rfl (fun s1 k1 k2 k3 k4 => x2 s1 (k3 rfl)) rfl ?_
  exact ak fun s1 k1 k2 k3 k4 => ⟨_, _, rfl, hk, k1⟩
theorem Py (hb : Bytes l) (hll : l.length < 4611686018427387904) {s : S} (hw : WF s) (hG : cd s) : Cw aq 69 [.str l] s fun v s' => qL l v ∧ Fw [] s s' := by
 refine ay (aI (C := AR) (e := ⟨[.str l], []⟩) (F := []) rfl Tryz.func69 rfl (by kernel_rfl) Mx rfl ⟨rfl, rfl, rfl⟩ rfl hw rfl (by simp) trivial am trivial (by simp) ?_)
 refine dV rfl Tryz.underlying9 rfl rfl ?_
 refine gp rfl rfl rfl ?_
 refine aP rfl (fun c2 => ?_) (fun c2 => ?_)
 ·exact ak fun s1 h1 h2 h3 h4 => Pc h1 (by unfold bo; rw [if_pos (.inr (.inl (by omega)))])
 ·have hl : l.length ≤ 24 := by omega
  refine cU fun s1 k1 k2 k3 k4 => ?_
  obtain ⟨v, s2, hc, ⟨p, row, a, e, rfl, hp, hS⟩, hf⟩ := OB hb hl k2 (hG.keep k1.ro)
  rcases hS with ⟨he, hk, rfl⟩ | ⟨rfl, n, c, cs, o, hR, hGr, hcc, hXf⟩
  ·refine .inl ⟨[p, .nilslice, .int .i64 a, .int .i64 e], _, s2, [], T0, inferInstance, rfl, by simp [au, hp, eA]; rfl, hc, hf.mono (by simp), trivial, am, trivial, by simp, ?_⟩
   refine aN fun b1 hb1 hd1 => ?_
   refine iv rfl rfl rfl ?_
   refine aP rfl (fun c3 => ?_) (fun c3 => absurd he c3)
   exact iw (SC l) ⟨_, true, rfl, rfl, fun _ => hk, fun h => by cases h⟩ am (fun vs bs D U h _ _ _ => lq h)
  ·have hw2 := hf.wf k2
   have hst : kz o.toList (fun s => gQ 117 4 s row n cs o) := fun s s' h hk _ => h.keep (fun X B hX hB => hk X (by simp [hX]) B hB)
   refine .inl ⟨[p, row, .int .i64 a, .int .i64 0], _, s2, o.toList, fun s => gQ 117 4 s row n cs o, inferInstance, rfl, by simp [au, hp, eA, hGr.one], hc, hf.mono (by simp), trivial, hst, hGr, ?_, ?_⟩
   ·intro g hg
    cases o with
    | none => simp at hg
    | some X =>
     simp at hg; subst hg
     exact ⟨hGr.lt hw2, .inr (hXf g rfl)⟩
   refine aN fun b1 hb1 hd1 => ?_
   refine iv rfl rfl rfl ?_
   refine aP rfl (fun c3 => absurd rfl c3) (fun c3 => ?_)
   refine bT (n := n) rfl (fun s1 _ _ => hGr.len Ix.und) rfl ?_
   refine iv rfl rfl rfl ?_
   have hkr := Px hb hl hR
   refine aP rfl (fun c4 => ?_) (fun c4 => ?_)
   ·refine iw (SC l) ⟨_, true, rfl, rfl, fun _ => ?_, fun h => by cases h⟩ hst (fun vs bs D U h _ _ _ => lq h)
    rcases hkr with h | ⟨k, a, x, p0, -, -, -, h, -⟩
    ·exact h.2
    ·exact h (.inl (by omega))
   ·rcases hkr with h | ⟨k, a', x, p0, rfl, hn, hx, h5, h6⟩
    ·omega
    obtain ⟨X, nv, x1, -, x2⟩ := Ae (i := 2) hGr hn (hcc hn) (by omega) rfl CF
    refine ao (.ptr ⟨X, nv, 0⟩) rfl (fun s1 k1 k2 k3 k4 => x1) rfl ?_
    refine ao (.ptr ⟨X, nv, 0 + 2⟩) rfl (fun s1 k1 k2 k3 k4 => SW X nv 2 (by omega)) rfl ?_
    refine ao (.str x) rfl (fun s1 k1 k2 k3 k4 => x2 s1 (k3 rfl)) rfl ?_
    refine wY rfl rfl hx hb rfl ?_
    refine iw (SC l) ⟨_, _, rfl, rfl, fun h => h5 (.inr (by simpa using h)), fun h => ?_⟩ hst (fun vs bs D U h _ _ _ => lq h)
    have hxl : x = l := by simpa using h
    subst hxl
    exact ⟨n, cs, o, k, a', _, s2, rfl, rfl, hn, hcc hn, h6 (by omega) rfl, hGr⟩
end
end Go.AI.Lx
namespace Go.AI.Lx
open Go.Proofs Go.Proofs.YtkeaedhoaamfnaaGreatDoor
def Kh : List aA := []
def JC : Code := match Tryz.f43.body with | some c => c | none => .skip
def AU : eK := ⟨aq, Tryz.f43, Kh, [(69, ⟨[], false⟩)], [], 0⟩
def HI : ax := cT 69 [0] 1 (aT (.bin .eql 3 true 1 (iV 4)) 2 (rT 2))
theorem MA : bu AU 400 [] [.code JC] (aO [.atom 0] 0 .leaf id) (aR ⟨.leaf, 0⟩ []) 1 = some HI := by kernel_rfl
def Ki : List aA := []
def JD : Code := match Tryz.f68.body with | some c => c | none => .skip
def AV : eK := ⟨aq, Tryz.f68, Ki, [(69, ⟨[], false⟩)], [], 0⟩
def HJ : ax := cT 69 [0] 1 (aT (.bin .eql 3 true 1 (iV 3)) 2 (rT 2))
theorem MB : bu AV 400 [] [.code JD] (aO [.atom 0] 0 .leaf id) (aR ⟨.leaf, 0⟩ []) 1 = some HJ := by kernel_rfl
def GZ : List aA := [⟨15, [(0, false), (1, false), (2, false), (76, false), (77, true)], []⟩]
def GA : Code := match Tryz.f38.body with | some c => c | none => .skip
def xM : eK := ⟨aq, Tryz.f38, GZ, [(43, ⟨[], false⟩), (68, ⟨[], false⟩), (38, ⟨[(2, [0])], false⟩)], [⟨12, [(0, false), (1, false), (2, false), (8, true)], []⟩, ⟨100013, [(0, false), (1, false), (2, false), (71, true)], []⟩], 1⟩
def EH : ax := aT (.bin .lss 3 false 3 2) 5 (.cond 5 (aT (.nilCheck 0) 6 (aT (.fieldAddr 25 6 1) 7 (aT (.load 23 7) 8 (aT (.indexAddr 23 8 3) 9 (aT (.bin .add 3 true 1 (iV 1)) 10 (.call 38 [9, 10, .ptr ⟨0, 0, 0⟩] [(0, cB 3 [4])] [(0, cB 3 [11])] 2 12 false (aT (.un .not 12) 13 (.cond 13 (.ret (.bool false) [(0, cB 3 [11])]) (aT (.bin .add 3 true 3 (iV 1)) 14 (.back 0 [0, 1, 2, 14, 11] [0])))))))))) (.ret (.bool true) [(0, cB 3 [4])]))
def kF : ax := .cond 2 (.ret (.bool false) [(0, cB 3 [3])]) (aT (.nilCheck 0) 4 (aT (.fieldAddr 25 4 1) 5 (aT (.load 23 5) 6 (aT (.bif .len #[23] [6]) 7 (.loop 0 5 [0, 1, 7, iV 0, 3] [0] [cB 3 [4]] EH)))))
def dG : ax := aT (.un .not 2) 4 (.cond 4 (.cut 4 [0, 1, .bool true, 3] [0] [cB 3 [3]] kF) (aT (.bin .gtr 3 true 3 (iV 2000)) 5 (.cond 5 (.cut 4 [0, 1, .bool true, 3] [0] [cB 3 [3]] kF) (aT (.bin .gtr 3 true 1 (iV 100)) 6 (.cut 4 [0, 1, 6, 3] [0] [cB 3 [3]] kF)))))
def EB : ax := aT (.bin .add 3 true 2 (iV 1)) 3 (aT (.nilCheck 0) 4 (aT (.fieldAddr 25 4 1) 5 (aT (.load 23 5) 6 (aT (.bif .len #[23] [6]) 7 (aT (.nilCheck 0) 8 (aT (.fieldAddr 25 8 0) 9 (aT (.load 9 9) 10 (aT (.bin .eql 9 true 10 (.str [73, 110, 116])) 11 (.cond 11 (aT (.bin .eql 3 true 7 (iV 0)) 12 (.cut 4 [0, 1, 12, 3] [0] [cB 3 [3]] dG)) (aT (.bin .eql 9 true 10 (.str [45, 62])) 12 (.cond 12 (aT (.bin .eql 3 true 7 (iV 2)) 13 (.cut 4 [0, 1, 13, 3] [0] [cB 3 [3]] dG)) (aT (.bin .eql 9 true 10 (.str [44])) 13 (.cond 13 (aT (.bin .geq 3 true 7 (iV 2)) 14 (.cond 14 (aT (.bin .leq 3 true 7 (iV 4)) 15 (.cut 4 [0, 1, 15, 3] [0] [cB 3 [3]] dG)) (.cut 4 [0, 1, .bool false, 3] [0] [cB 3 [3]] dG))) (aT (.nilCheck 0) 14 (aT (.fieldAddr 25 14 0) 15 (aT (.load 9 15) 16 (cT 43 [16] 17 (.cond 17 (aT (.bin .eql 3 true 7 (iV 0)) 18 (.cond 18 (.cut 4 [0, 1, .bool true, 3] [0] [cB 3 [3]] dG) (aT (.nilCheck 0) 19 (aT (.fieldAddr 25 19 0) 20 (aT (.load 9 20) 21 (cT 68 [21] 22 (.cond 22 (aT (.bin .leq 3 true 7 (iV 16)) 23 (.cut 4 [0, 1, 23, 3] [0] [cB 3 [3]] dG)) (.cut 4 [0, 1, .bool false, 3] [0] [cB 3 [3]] dG)))))))) (aT (.nilCheck 0) 18 (aT (.fieldAddr 25 18 0) 19 (aT (.load 9 19) 20 (cT 68 [20] 21 (.cond 21 (aT (.bin .leq 3 true 7 (iV 16)) 22 (.cut 4 [0, 1, 22, 3] [0] [cB 3 [3]] dG)) (.cut 4 [0, 1, .bool false, 3] [0] [cB 3 [3]] dG))))))))))))))))))))))))
theorem It : bu xM 400 [] [.code GA] (aO [.atom 0, .atom 1, .ptr ⟨0, 0, 0⟩] 0 .leaf id) (aR ⟨.leaf, 0⟩ [.cells 3 false 1 [⟨0, 0, [.atom 2]⟩]]) 3 = some EB := by kernel_rfl
def JT : List aA := []
def Jo : Code := match Tryz.f13.body with | some c => c | none => .skip
def AG : eK := ⟨aq, Tryz.f13, JT, [(38, ⟨[(2, [0])], false⟩)], [], 0⟩
def Hv : ax := .new (.new (.call 38 [.ptr ⟨0, 0, 0⟩, iV 1, .ptr ⟨1, 0, 0⟩] [(0, cB 25 [0, 1]), (1, cB 3 [iV 0])] [(1, cB 3 [2])] 2 3 false (aT (.un .not 3) 4 (.cond 4 (rT (iV 0)) (rT 2)))))
theorem Mm : bu AG 400 [] [.code Jo] (aO [.agg [.atom 0, .atom 1]] 0 .leaf id) (aR ⟨.leaf, 0⟩ []) 2 = some Hv := by kernel_rfl
def Kj : List aA := [⟨3, [(1, false), (2, false), (5, true), (6, true)], []⟩]
def JE : Code := match Tryz.f39.body with | some c => c | none => .skip
def AW : eK := ⟨aq, Tryz.f39, Kj, [(39, ⟨[], false⟩)], [], 0⟩
def HL : ax := .new (.loop 0 5 [2, iV 1, iV 0, 0, 1] [0] [cB 25 [3, 4]] (aT (.bif .len #[23] [4]) 5 (aT (.bin .lss 3 false 2 5) 6 (.cond 6 (aT (.bin .leq 3 false 1 0) 7 (.cond 7 (aT (.indexAddr 23 4 2) 8 (.ask (.load 25 8) true [] 2 (.agg [9, 10]) (aT (.bin .sub 3 false 0 1) 11 (cT 39 [.agg [9, 10], 11] 12 (aT (.bin .add 3 false 1 12) 13 (aT (.bin .add 3 true 2 (iV 1)) 14 (.back 0 [0, 13, 14, 3, 4] [0]))))))) (rT 1))) (rT 1)))))
theorem MC : bu AW 400 [] [.code JE] (aO [.agg [.atom 0, .atom 1], .atom 2] 0 .leaf id) (aR ⟨.leaf, 0⟩ []) 3 = some HL := by kernel_rfl
def NG : List aA := [⟨3, [(1, false), (3, true), (4, true)], []⟩]
def Nv : Code := match Tryz.f65.body with | some c => c | none => .skip
def GJ : eK := ⟨aq, Tryz.f65, NG, [(65, ⟨[], false⟩)], [], 0⟩
def LX : ax := .new (.loop 0 4 [iV 0, iV 0, 0, 1] [0] [cB 25 [2, 3]] (aT (.bif .len #[23] [3]) 4 (aT (.bin .lss 3 false 1 4) 5 (.cond 5 (aT (.indexAddr 23 3 1) 6 (.ask (.load 25 6) true [] 2 (.agg [7, 8]) (cT 65 [.agg [7, 8]] 9 (aT (.bif .max #[3, 3] [0, 9]) 10 (aT (.bin .add 3 true 1 (iV 1)) 11 (.back 0 [10, 11, 2, 3] [0])))))) (aT (.bin .add 3 true 0 (iV 1)) 6 (rT 6))))))
theorem OM : bu GJ 400 [] [.code Nv] (aO [.agg [.atom 0, .atom 1]] 0 .leaf id) (aR ⟨.leaf, 0⟩ []) 2 = some LX := by kernel_rfl
def Ha : List aA := [⟨2, [(1, false), (3, true)], []⟩]
def GB : Code := match Tryz.f66.body with | some c => c | none => .skip
def xN : eK := ⟨aq, Tryz.f66, Ha, [(66, ⟨[], false⟩), (45, ⟨[], false⟩)], [], 0⟩
def EC : ax := .new (.loop 0 3 [iV 0, 0, 1] [0] [cB 25 [1, 2]] (aT (.bif .len #[23] [2]) 3 (aT (.bin .lss 3 false 0 3) 4 (.cond 4 (aT (.indexAddr 23 2 0) 5 (.ask (.load 25 5) true [] 2 (.agg [6, 7]) (cT 66 [.agg [6, 7]] 8 (aT (.un .not 8) 9 (.cond 9 (rT (.bool false)) (aT (.bin .add 3 true 0 (iV 1)) 10 (.back 0 [10, 1, 2] [0]))))))) (aT (.bin .eql 9 true 1 (.str [45, 62])) 5 (.cond 5 (aT (.bif .len #[23] [2]) 6 (aT (.bin .eql 3 true 6 (iV 2)) 7 (rT 7))) (aT (.bin .eql 9 true 1 (.str [44])) 6 (.cond 6 (aT (.bif .len #[23] [2]) 7 (aT (.bin .geq 3 true 7 (iV 2)) 8 (.cond 8 (aT (.bif .len #[23] [2]) 9 (aT (.bin .leq 3 true 9 (iV 4)) 10 (rT 10))) (rT (.bool false))))) (aT (.bin .eql 9 true 1 (.str [73, 110, 116])) 7 (.cond 7 (aT (.bif .len #[23] [2]) 8 (aT (.bin .eql 3 true 8 (iV 0)) 9 (rT 9))) (cT 45 [1] 8 (aT (.bin .eql 3 true 8 (iV 4)) 9 (.cond 9 (aT (.bif .len #[23] [2]) 10 (aT (.bin .eql 3 true 10 (iV 0)) 11 (.cond 11 (rT (.bool true)) (aT (.bin .eql 3 true 8 (iV 3)) 12 (.cond 12 (aT (.bif .len #[23] [2]) 13 (aT (.bin .leq 3 true 13 (iV 16)) 14 (rT 14))) (rT (.bool false))))))) (aT (.bin .eql 3 true 8 (iV 3)) 10 (.cond 10 (aT (.bif .len #[23] [2]) 11 (aT (.bin .leq 3 true 11 (iV 16)) 12 (rT 12))) (rT (.bool false)))))))))))))))))
theorem Iu : bu xN 400 [] [.code GB] (aO [.agg [.atom 0, .atom 1]] 0 .leaf id) (aR ⟨.leaf, 0⟩ []) 2 = some EC := by kernel_rfl
def JQ : List aA := []
def Jl : Code := match Tryz.f36.body with | some c => c | none => .skip
def AD : eK := ⟨aq, Tryz.f36, JQ, [(39, ⟨[], false⟩), (65, ⟨[], false⟩), (66, ⟨[], false⟩)], [], 0⟩
def Hs : ax := .new (cT 39 [.agg [0, 1], iV 2000] 2 (aT (.bin .leq 3 true 2 (iV 2000)) 3 (.cond 3 (cT 65 [.agg [0, 1]] 4 (aT (.bin .leq 3 true 4 (iV 100)) 5 (.cond 5 (cT 66 [.agg [0, 1]] 6 (rT 6)) (rT (.bool false))))) (rT (.bool false)))))
theorem Mi : bu AD 400 [] [.code Jl] (aO [.agg [.atom 0, .atom 1]] 0 .leaf id) (aR ⟨.leaf, 0⟩ []) 2 = some Hs := by kernel_rfl
def GY : List aA := []
def Gz : Code := match Tryz.f67.body with | some c => c | none => .skip
def xL : eK := ⟨aq, Tryz.f67, GY, [], [], 0⟩
def EA : ax := .new (aT (.bif .len #[9] [0]) 2 (aT (.bin .gtr 3 true 2 (iV 0)) 3 (.cond 3 (aT (.index 9 0 (iV 0)) 4 (aT (.bin .eql 5 true 4 (.int .u8 39)) 5 (rT 5))) (rT (.bool false)))))
theorem Is : bu xL 400 [] [.code Gz] (aO [.agg [.atom 0, .atom 1]] 0 .leaf id) (aR ⟨.leaf, 0⟩ []) 2 = some EA := by kernel_rfl
def DS : List aA := []
def Dy : Code := match Tryz.f12.body with | some c => c | none => .skip
def uB : eK := ⟨aq, Tryz.f12, DS, [(36, ⟨[], false⟩)], [], 0⟩
def BA : ax := .new (cT 36 [.agg [0, 1]] 2 (aT (.un .not 2) 3 (.cond 3 (rT (iV 32)) (rT (iV 0)))))
theorem Fe : bu uB 400 [] [.code Dy] (aO [.agg [.atom 0, .atom 1]] 0 .leaf id) (aR ⟨.leaf, 0⟩ []) 2 = some BA := by kernel_rfl
def NE : List aA := [⟨2, [(0, false), (1, false), (5, true)], []⟩]
def Nt : Code := match Tryz.f42.body with | some c => c | none => .skip
def GH : eK := ⟨aq, Tryz.f42, NE, [], [], 0⟩
def LV : ax := .loop 0 3 [0, 1, iV 0] [] [] (aT (.bif .len #[22] [0]) 3 (aT (.bin .lss 3 false 2 3) 4 (.cond 4 (aT (.indexAddr 22 0 2) 5 (aT (.load 9 5) 6 (aT (.bin .eql 9 false 6 1) 7 (.cond 7 (rT 2) (aT (.bin .add 3 true 2 (iV 1)) 8 (.back 0 [0, 1, 8] [])))))) (rT (iV (-1))))))
theorem OK : bu GH 400 [] [.code Nt] (aO [.atom 0, .atom 1] 0 .leaf id) (aR ⟨.leaf, 0⟩ []) 2 = some LV := by kernel_rfl
def Qx : List aA := []
def Qc : Code := match Tryz.f41.body with | some c => c | none => .skip
def LG : eK := ⟨aq, Tryz.f41, Qx, [(42, ⟨[], false⟩)], [], 0⟩
def Ok : ax := cT 42 [0, 1] 2 (aT (.bin .geq 3 true 2 (iV 0)) 3 (rT 3))
theorem Ru : bu LG 400 [] [.code Qc] (aO [.atom 0, .atom 1] 0 .leaf id) (aR ⟨.leaf, 0⟩ []) 2 = some Ok := by kernel_rfl
def ya : List aA := [⟨4, [(0, false), (1, false), (5, true)], []⟩]
def xy : Code := match Tryz.f8.body with | some c => c | none => .skip
def pP : eK := ⟨aq, Tryz.f8, ya, [], [], 0⟩
def vQ : ax := aT (.bif .len #[22] [0]) 2 (aT (.bif .len #[22] [1]) 3 (aT (.bin .neq 3 false 2 3) 4 (.cond 4 (rT (.bool false)) (.loop 0 3 [0, 1, iV 0] [] [] (aT (.bif .len #[22] [0]) 3 (aT (.bin .lss 3 false 2 3) 4 (.cond 4 (aF (.indexAddr 22 0 2) 5 (aF (.load 9 5) 6 (aF (.indexAddr 22 1 2) 7 (aF (.load 9 7) 8 (aF (.bin .neq 9 false 6 8) 9 (.cond 9 (rT (.bool false)) (aT (.bin .add 3 true 2 (iV 1)) 10 (.back 0 [0, 1, 10] [])))))))) (rT (.bool true)))))))))
theorem yF : bu pP 400 [] [.code xy] (aO [.atom 0, .atom 1] 0 .leaf id) (aR ⟨.leaf, 0⟩ []) 2 = some vQ := by kernel_rfl
end Go.AI.Lx
namespace Go.AI.Lx
open Go.Proofs Go.Proofs.YtkeaedhoaamfnaaGreatDoor
set_option maxRecDepth 10000
theorem _root_.Go.AI.h_askN {E : cx} {F : List Nat} {s0 : S} {Q : dz → Prop} {σ R : List V} {β : List Nat} {D : List Nat} {U : S → Prop} {L : List bS} {k : ax} {u : Bool} {own : List (Nat × bZ)} {v : V} {q : lE} {n : Nat} (vs : List V) (w : V) (hl : vs.length = n) (h1 : au vs)
 (hr : ∀ s, Fw F s0 s → WF s → (u = true → U s) → eo ⟨σ, β⟩ s own → (q.sub ⟨σ, β⟩).run E.P s = some w) [hs : lZ σ vs R] (hv : sub ⟨R, β⟩ v = w) (hk : ai E F s0 Q k ⟨R, β⟩ D U L) :
 ai E F s0 Q (.ask q u own n v k) ⟨σ, β⟩ D U L := PF vs hl h1 (fun s a b c d => by rw [hv]; exact hr s a b c d) hk
inductive Ty where
 | mk (name : List Nat) (args : List Ty)
inductive jO (K : S → Prop) (sz : Nat) : V → List (List V) → Prop
 | nil : jO K sz .nilslice []
 | zero (a : Ad) (c : Option Nat) (z : Nat) : jO K sz (.slice a 0 0 c z) []
 | row (a : Ad) (n : Nat) (c : Option Nat) (cs : List (List V)) : n = cs.length → n < 4611686018427387904 → (∀ i x, cs[i]? = some x → ∀ s, K s → loadCells s (dZ a (i * sz)) sz = some x) → jO K sz (.slice a 0 n c sz) cs
theorem jO.mono {K K' : S → Prop} (h : ∀ s, K' s → K s) {sz : Nat} {v : V} {cs : List (List V)} (r : jO K sz v cs) : jO K' sz v cs := by
 cases r with
 | nil => exact .nil
 | zero a c z => exact .zero a c z
 | row a n c cs h1 h2 h3 => exact .row a n c cs h1 h2 fun i x hx s hs => h3 i x hx s (h s hs)
theorem jO.one {K : S → Prop} {sz : Nat} {v : V} {cs : List (List V)} (r : jO K sz v cs) : v.one = true := by cases r <;> rfl
theorem jO.lt {K : S → Prop} {sz : Nat} {v : V} {cs : List (List V)} (r : jO K sz v cs) : cs.length < 4611686018427387904 := by
 cases r with
 | nil => simp
 | zero a c z => simp
 | row a n c cs h1 h2 h3 => omega
theorem jO.len {K : S → Prop} {sz : Nat} {v : V} {cs : List (List V)} (r : jO K sz v cs) {ty e : TypeId} (hu : Tryz.prog.underlying ty = some (.slice e)) (s : S) : lM Tryz.prog ty s v = some (.int .i64 ((cs.length : Nat) : Int)) := by
 cases r with
 | nil => simp only [lM, hu]; rfl
 | zero a c z => simp only [lM, hu, aX]; rfl
 | row a n c cs h1 h2 h3 => simp only [lM, hu, aX, h1]
theorem jO.at {K : S → Prop} {sz : Nat} {v : V} {cs : List (List V)} (r : jO K sz v cs) {ty e : TypeId} (hu : Tryz.prog.underlying ty = some (.slice e)) (hs : size Tryz.prog e = some sz) {i : Nat} {x : List V} (hx : cs[i]? = some x) :
 ∃ p, bJ Tryz.prog ty (some v) (some i) = some (.ptr p) ∧ ∀ s, K s → loadCells s p sz = some x := by
 cases r with
 | nil => simp at hx
 | zero a c z => simp at hx
 | row a n c cs h1 h2 h3 =>
  have hi : i < cs.length := by
   rcases Nat.lt_or_ge i cs.length with h | h
   ·exact h
   ·rw [List.getElem?_eq_none h] at hx; cases hx
  refine ⟨dZ a (i * sz), ?_, h3 i x hx⟩
  simp only [bJ, hu, hs, Nat.beq_refl, Bool.true_and]
  rw [show Nat.blt i n = true from Nat.ble_eq_true_of_le (by omega)]
  rfl
theorem Sj {s : S} {a : Ad} {n : Nat} {l : List V} (h : loadCells s a n = some l) {i : Nat} {x : V} (hx : l[i]? = some x) : cO s (dZ a i) = some x := by
 have key : ∀ (u : nh), (bif Nat.ble u.lo a.c then aW n (u.cells.drop (a.c - u.lo)) else none) = some l → (bif Nat.ble u.lo (a.c + i) then u.cells[a.c + i - u.lo]? else none) = some x := fun u hu => by
  cases hb : Nat.ble u.lo a.c with
  | false => rw [hb] at hu; cases hu
  | true =>
   rw [hb] at hu
   have hle := Nat.le_of_ble_eq_true hb
   obtain ⟨rfl, h2⟩ := ic hu
   rw [show Nat.ble u.lo (a.c + i) = true from Nat.ble_eq_true_of_le (by omega)]
   simp only [cond_true]
   rw [List.getElem?_take] at hx
   split at hx
   ·rw [List.getElem?_drop] at hx
    rw [show a.c + i - u.lo = a.c - u.lo + i by omega]; exact hx
   ·cases hx
 unfold loadCells at h
 unfold cO
 simp only [dZ]
 split at h
 ·rename_i e1 e2 e3 vers hg
  split at h
  ·rename_i u hu; exact key u h
  ·cases h
 ·rename_i vers hg
  split at h
  ·rename_i u hu; exact key u h
  ·cases h
 ·cases h
mutual
def ff (K : S → Prop) : Ty → V → V → Prop
 | .mk name args, nm, row => nm = .str name ∧ Bytes name ∧ name.length < 4611686018427387904 ∧ ∃ cs, jO K 2 row cs ∧ ea K args cs
def ea (K : S → Prop) : List Ty → List (List V) → Prop
 | [], cs => cs = []
 | t :: r, cs => ∃ nm rw cs', cs = [nm, rw] :: cs' ∧ ff K t nm rw ∧ ea K r cs'
end
mutual
theorem ff.mono {K K' : S → Prop} (h : ∀ s, K' s → K s) : ∀ {t : Ty} {nm row : V}, ff K t nm row → ff K' t nm row
 | .mk name args, nm, row, r => by
  simp only [ff] at r ⊢
  obtain ⟨h1, h2, h3, cs, h4, h5⟩ := r
  exact ⟨h1, h2, h3, cs, h4.mono h, ea.mono h h5⟩
theorem ea.mono {K K' : S → Prop} (h : ∀ s, K' s → K s) : ∀ {l : List Ty} {cs : List (List V)}, ea K l cs → ea K' l cs
 | [], cs, r => by simpa only [ea] using r
 | t :: l, cs, r => by
  simp only [ea] at r ⊢
  obtain ⟨nm, rw, cs', h1, h2, h3⟩ := r
  exact ⟨nm, rw, cs', h1, ff.mono h h2, ea.mono h h3⟩
end
theorem ea.len {K : S → Prop} : ∀ {l : List Ty} {cs : List (List V)}, ea K l cs → cs.length = l.length
 | [], cs, r => by simp only [ea] at r; simp [r]
 | t :: l, cs, r => by
  simp only [ea] at r
  obtain ⟨nm, rw, cs', rfl, h2, h3⟩ := r
  simp [ea.len h3]
theorem ea.at {K : S → Prop} : ∀ {l : List Ty} {cs : List (List V)} {i : Nat} {t : Ty}, ea K l cs → l[i]? = some t → ∃ nm rw, cs[i]? = some [nm, rw] ∧ ff K t nm rw
 | [], cs, i, t, r, h => by simp at h
 | t' :: l, cs, i, t, r, h => by
  simp only [ea] at r
  obtain ⟨nm, rw, cs', rfl, h2, h3⟩ := r
  cases i with
  | zero => simp at h; subst h; exact ⟨nm, rw, rfl, h2⟩
  | succ i => simpa using ea.at h3 (by simpa using h)
mutual
def cq : Ty → Nat
 | .mk _ args => cG args + 1
def cG : List Ty → Nat
 | [] => 0
 | t :: r => cq t + cG r
end
theorem fT : ∀ {l : List Ty} {i : Nat} {t : Ty}, l[i]? = some t → cq t ≤ cG l
 | [], i, t, h => by simp at h
 | t' :: l, 0, t, h => by simp at h; subst h; simp only [cG]; omega
 | t' :: l, i + 1, t, h => by have := fT (l := l) (i := i) (t := t) (by simpa using h); simp only [cG]; omega
theorem dj : size Tryz.prog 25 = some 2 := by kernel_rfl
theorem Oi : fK Tryz.prog 25 = some true := by kernel_rfl
theorem VP (s : S) (a : Ad) : loadVar Tryz.prog s 25 a = (loadCells s a 2).map .agg := by simp only [loadVar, Oi, dj, Option.bind]
theorem cX : Tryz.prog.underlying 23 = some (.slice 25) := by kernel_rfl
theorem Ob : Tryz.prog.underlying 22 = some (.slice 9) := by kernel_rfl
theorem Oj : fK Tryz.prog 23 = some false := by kernel_rfl
theorem TZ (s : S) (a : Ad) : loadVar Tryz.prog s 23 a = cO s a := by simp only [loadVar, Oj]
theorem Vb (f v c : Nat) : aQ Tryz.prog 25 (some (.ptr ⟨f, v, c⟩)) 0 = some (.ptr ⟨f, v, c + 0⟩) := by kernel_rfl
theorem Va (f v c : Nat) : aQ Tryz.prog 25 (some (.ptr ⟨f, v, c⟩)) 1 = some (.ptr ⟨f, v, c + 1⟩) := by kernel_rfl
theorem IX (p : Ad) (i : Nat) (hi : i < 2) : aQ Tryz.prog 25 (some (.ptr p)) i = some (.ptr (dZ p i)) := by
 match i, hi with
 | 0, _ => exact Vb p.f p.v p.c
 | 1, _ => exact Va p.f p.v p.c
theorem eM {s : S} {p : Ad} {l : List V} (h : loadCells s p 2 = some l) : gh (eQ Tryz.prog s 25 (some (.ptr p))) = some (.agg l) := by
 rw [aZ, VP, h]; rfl
theorem fo {s : S} {p : Ad} {n : Nat} {l : List V} (h : loadCells s p n = some l) {i : Nat} {x : V} (hx : l[i]? = some x) {ty : TypeId} (hl : ∀ s a, loadVar Tryz.prog s ty a = cO s a) : gh (eQ Tryz.prog s ty (some (.ptr (dZ p i)))) = some x := by
 rw [aZ, hl, Sj h hx]; rfl
end Go.AI.Lx
