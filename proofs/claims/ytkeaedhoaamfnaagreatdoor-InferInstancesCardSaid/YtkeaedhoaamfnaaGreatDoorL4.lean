/- What the functions answer in the evaluator: part 4. No conditions beyond those of the row. -/
import Derived.Test.YtkeaedhoaamfnaaGreatDoorL3
import Derived.Test.YtkeaedhoaamfnaaGreatDoorA10
set_option linter.unusedVariables false
set_option linter.unusedSimpArgs false
noncomputable section
namespace Go.AI.Lx
open Go.Proofs Go.Proofs.YtkeaedhoaamfnaaGreatDoor
theorem tn (l : List V) (i : Nat) : fH (some (.tuple l)) i = l[i]? := rfl
theorem Kl {l : List Nat} {a b : Nat} (h1 : b ≤ l.length) (h2 : a ≤ b) : gT Tryz.prog 9 (some (.str l)) (some (some (.int .i64 ((a : Nat) : Int)))) (some (some (.int .i64 ((b : Nat) : Int)))) (some none) = some (.str ((l.drop a).take (b - a))) := by
 simp only [gT, pd, Tryz.underlying9, mq, jL, Nat.ble_eq_true_of_le h1, Nat.ble_eq_true_of_le h2, Bool.and_self, cond_true]
theorem Nz {l : List Nat} {a : Nat} (h2 : a ≤ l.length) : gT Tryz.prog 9 (some (.str l)) (some (some (.int .i64 ((a : Nat) : Int)))) (some none) (some none) = some (.str (l.drop a)) := by
 simp only [gT, pd, Tryz.underlying9, mq, jL, Nat.ble_eq_true_of_le h2, Nat.ble_eq_true_of_le (Nat.le_refl l.length), Bool.and_self, cond_true]
 rw [List.take_of_length_le (by rw [List.length_drop]; omega)]
theorem NA {l : List Nat} {b : Nat} (h1 : b ≤ l.length) : gT Tryz.prog 9 (some (.str l)) (some none) (some (some (.int .i64 ((b : Nat) : Int)))) (some none) = some (.str (l.take b)) := by
 simp only [gT, pd, Tryz.underlying9, mq, jL, Nat.ble_eq_true_of_le h1, Nat.ble_eq_true_of_le (Nat.zero_le b), Bool.and_self, cond_true]
 simp
end Go.AI.Lx
namespace Go.AI.Lx
abbrev dC := Go.Proofs.YtkeaedhoaamfnaaGreatDoor.small
abbrev gV := Go.Proofs.YtkeaedhoaamfnaaGreatDoor.great
abbrev bW := Go.Proofs.YtkeaedhoaamfnaaGreatDoor.digit
abbrev bH := Go.Proofs.YtkeaedhoaamfnaaGreatDoor.part
abbrev cj := Go.Proofs.YtkeaedhoaamfnaaGreatDoor.space
end Go.AI.Lx
namespace Go.AI.Lx
open Go.Proofs Go.Proofs.YtkeaedhoaamfnaaGreatDoor
set_option maxRecDepth 10000
set_option maxHeartbeats 2000000
def gb (l p : List Nat) : Bool := decide (p.length ≤ l.length) && decide (l.take p.length = p)
theorem ri : ∀ {a b : List Nat}, Bytes a → Bytes b → ia a b = some (decide (a = b))
 | [], [], _, _ => rfl
 | [], _ :: _, _, _ => by simp [ia]
 | _ :: _, [], _, _ => by simp [ia]
 | x :: a, y :: b, ha, hb => by
  have ih := ri (a := a) (b := b) (fun z hz => ha z (List.mem_cons_of_mem _ hz)) (fun z hz => hb z (List.mem_cons_of_mem _ hz))
  have h1 : Nat.blt x 256 = true := by have := ha x (by simp); simp [Nat.blt]; omega
  have h2 : Nat.blt y 256 = true := by have := hb y (by simp); simp [Nat.blt]; omega
  simp only [ia, ih, h1, h2, Bool.and_self, cond_true]
  by_cases h : x = y
  ·subst h; simp
  ·have : Nat.beq x y = false := by
    cases hb : Nat.beq x y with
    | false => rfl
    | true => exact absurd (Nat.eq_of_beq_eq_true hb) h
   simp [this, h]
theorem Qv (l p : List Nat) (hl : Bytes l) (hp : Bytes p) (hn : l.length < 4611686018427387904) (s : S) :
 Cw au 286 [.str l, .str p] s fun v s' => v = .bool (gb l p) ∧ s = s' := by
 refine ls (fn := Tryz.f286) rfl Tryz.func286 rfl (by kernel_rfl) ?_
 rw [bf, bf, dM]
 by_cases h1 : p.length ≤ l.length
 ·have c1 : decide (((l.length : Nat) : Int) ≥ ((p.length : Nat) : Int)) = true := by simp; omega
  have c2 := ri (a := l.take p.length) (b := p) (fun z hz => hl z (List.mem_of_mem_take hz)) hp
  repeat refine aJ ?_
  refine ao (t' := ?t1) (ds' := ?d1) (up' := ?u1) (s' := ?s1) (by kernel_rfl) ?h1 ?k1
  case h1 =>
   simp only [ae, aN, af, ak, ac, az, jx, ag, Nat.zero_add]
   exact rfl
  case k1 =>
  repeat refine aJ ?_
  have hsl2a : p.length ≤ l.length := by first | omega | exact Nat.le_refl _
  have hsl2b : 0 ≤ p.length := by omega
  refine ao (t' := ?t3) (ds' := ?d3) (up' := ?u3) (s' := ?s3) (by kernel_rfl) ?h3 ?k3
  case h3 =>
   simp only [ae, aN, af, ak, ac, jd, kC, kD, az, ai, ab, Nat.reduceEqDiff, reduceIte, ag, bx, eg, ip, TI, evals, lp, List.getElem?_toArray, List.getElem?_cons_zero, List.getElem?_cons_succ, Option.bind, cS, bj, eE, cond_true, cond_false, bD, bQ, aR, decide_true, dI, Option.map, jj, c1, NA hsl2a, gm, oB, c2]
   exact rfl
  case k3 =>
  refine kg (.bool (decide ((l.take p.length) = p))) 4 rfl (by simp only [ab, Nat.reduceEqDiff, reduceIte]) ⟨by simp [gb, h1], rfl⟩
 ·have c1 : decide (((l.length : Nat) : Int) ≥ ((p.length : Nat) : Int)) = false := by simp; omega
  repeat refine aJ ?_
  refine ao (t' := ?t4) (ds' := ?d4) (up' := ?u4) (s' := ?s4) (by kernel_rfl) ?h4 ?k4
  case h4 =>
   simp only [ae, aN, af, ak, ac, az, jx, ag, Nat.zero_add]
   exact rfl
  case k4 =>
  repeat refine aJ ?_
  refine ao (t' := ?t5) (ds' := ?d5) (up' := ?u5) (s' := ?s5) (by kernel_rfl) ?h5 ?k5
  case h5 =>
   simp only [ae, aN, af, qh, ak, ac, jd, kC, kD, az, ai, jx, ab, Nat.reduceEqDiff, reduceIte, ag, bx, eg, ip, TJ, evals, lp, List.getElem?_toArray, List.getElem?_cons_zero, List.getElem?_cons_succ, Option.bind, cS, bj, eE, cond_true, cond_false, bD, bQ, aR, decide_true, dI, jj, c1]
   exact rfl
  case k5 =>
  refine kg (.bool false) 4 rfl (by simp only [ab, Nat.reduceEqDiff, reduceIte]) ⟨by simp [gb, h1], rfl⟩
end Go.AI.Lx
namespace Go.AI.Lx
open Go.Proofs Go.Proofs.YtkeaedhoaamfnaaGreatDoor
theorem SE (args : List V) (s : S) : fU au 271 args s = some (.enter 271 args s) := by kernel_rfl
theorem SD (args : List V) (s : S) : fU au 286 args s = some (.enter 286 args s) := by kernel_rfl
set_option maxRecDepth 10000
set_option maxHeartbeats 2000000
theorem NU (l p : List Nat) (hl : Bytes l) (hp : Bytes p) (hn : l.length < 4611686018427387904) (s : S) :
 Cw au 271 [.str l, .str p] s fun v s' => v = .bool (gb l p) ∧ s = s' := by
 refine ls (fn := Tryz.f271) rfl Tryz.func271 rfl (by kernel_rfl) ?_
 rw [bf, bf, dM]
 repeat refine aJ ?_
 refine ao (t' := ?t1) (ds' := ?d1) (up' := ?u1) (s' := ?s1) (by kernel_rfl) ?h1 ?k1
 case h1 =>
  simp only [ae, aN, af, ak, ac, az, jx, ag, Nat.zero_add]
  exact rfl
 case k1 =>
 repeat refine aJ ?_
 obtain ⟨_, _, call2, rfl, rfl⟩ := Qv l p hl hp hn s
 have call2 := ir call2
 refine ao (t' := ?t3) (ds' := ?d3) (up' := ?u3) (s' := ?s3) (by kernel_rfl) ?h3 ?k3
 case h3 =>
  simp only [ae, aN, af, ak, bM, cx, ac, az, ai, cW, ab, Nat.reduceEqDiff, reduceIte, ag, bx, ft, List.nil_append, List.append_nil, evals, call2, SD]
  exact rfl
 case k3 =>
 refine kg (.bool (gb l p)) 4 rfl (by simp only [ab, Nat.reduceEqDiff, reduceIte]) ⟨rfl, rfl⟩
theorem jf {fs : Nat} {e : TypeId} {sb : Bool} {nv : Nat} {l : List Nat} {p : Nat} {rest : List V} (hb : Bytes l) (hl : l.length < 4611686018427387904) (hp : p ≤ l.length) (q : List Nat) (hq : Bytes q) {s : S} (hg : s.get fs = some (.cells e sb nv [⟨0, 0, .str l :: .int .i64 ((p : Nat) : Int) :: rest⟩])) :
 Cw au 236 [.ptr ⟨fs, 0, 0⟩, .str q] s fun v s' => v = .bool (gb (l.drop p) q) ∧ s = s' := by
 refine ls (fn := Tryz.f236) rfl Tryz.func236 rfl (by kernel_rfl) ?_
 rw [bf, bf, dM]
 repeat refine aJ ?_
 refine ao (t' := ?t1) (ds' := ?d1) (up' := ?u1) (s' := ?s1) (by kernel_rfl) ?h1 ?k1
 case h1 =>
  simp only [ae, aN, af, ak, ac, az, jx, ag, Nat.zero_add]
  exact rfl
 case k1 =>
 repeat refine aJ ?_
 have hsl2a : l.length ≤ l.length := by first | omega | exact Nat.le_refl _
 have hsl2b : p ≤ l.length := by omega
 obtain ⟨_, _, call3, rfl, rfl⟩ := NU (l.drop p) q (fun z hz => hb z (List.mem_of_mem_drop hz)) hq (by rw [List.length_drop]; omega) s
 have call3 := ir call3
 refine fK (t' := ?t4) (ds' := ?d4) (up' := ?u4) (s' := ?s4) [(some 1, 0), (some 1, 1), (some 1, 2), (some 1, 3), (some 1, 4), (some 1, 5), (some 1, 6), (some 1, 7), (some 1, 8), (some 1, 9), (none, 10), (some 1, 11)] (by kernel_rfl) (by kernel_rfl) ?h4 ?k4
 case h4 =>
  simp only [cp, dO, gF, cq, eG, bn, bC, ea, cZ, dE, aG, dG, iL, jV, cu, em, bR, bo, cr, bz, al, List.take_succ_cons, List.take_zero, List.take_nil, iP, aX, ac, az, ai, cW, ab, Nat.reduceEqDiff, reduceIte, ag, bx, ft, List.nil_append, List.append_nil, Nat.zero_add, Nat.add_zero, evals, lp, List.getElem?_toArray, List.getElem?_cons_zero, List.getElem?_cons_succ, aw, iy, IU, wE hg, dU, As, Nz hsl2b, gm, iP, call3, SE]
  exact rfl
 case k4 =>
 refine kg (.bool (gb (l.drop p) q)) 4 rfl (by simp only [ab, Nat.reduceEqDiff, reduceIte]) ⟨rfl, rfl⟩
def aQ (q : Nat → Bool) (l : List Nat) (i : Nat) : Nat := ((l.drop i).takeWhile q).length
theorem Ci (q : Nat → Bool) {l : List Nat} {i : Nat} (h : l.length ≤ i) : aQ q l i = 0 := by simp [aQ, List.drop_eq_nil_of_le h]
theorem II {q : Nat → Bool} {l : List Nat} {i c : Nat} (h : l[i]? = some c) : aQ q l i = if q c = true then aQ q l (i + 1) + 1 else 0 := by
 have hlt := (List.getElem?_eq_some_iff.1 h).1
 have hc := (List.getElem?_eq_some_iff.1 h).2
 unfold aQ
 rw [List.drop_eq_getElem_cons hlt, hc, List.takeWhile_cons]
 split <;> rfl
theorem kr (q : Nat → Bool) (l : List Nat) (i : Nat) (h : i ≤ l.length) : i + aQ q l i ≤ l.length := by
 unfold aQ
 have := (List.takeWhile_sublist q (l := l.drop i)).length_le
 rw [List.length_drop] at this
 omega
theorem IH {g : FuncId} {q : Nat → Bool} (hgq : iJ pG g = some q) (hcf : ∀ args s, fU au g args s = some (.enter g args s)) {fs : Nat} {e : TypeId} {sb : Bool} {nv : Nat} {l : List Nat} {p k : Nat} {rest : List V} (hb : Bytes l) (hl : l.length < 4611686018427387904) (hk : p + k ≤ l.length) {s : S} (hg : s.get fs = some (.cells e sb nv [⟨0, 0, .str l :: .int .i64 ((p : Nat) : Int) :: rest⟩])) :
 Cw au 234 [.ptr ⟨fs, 0, 0⟩, .int .i64 ((k : Nat) : Int), .func (.func g) [] []] s fun v s' => v = .int .i64 ((aQ q l (p + k) : Nat) : Int) ∧ s = s' := by
 refine ls (fn := Tryz.f234) rfl Tryz.func234 rfl (by kernel_rfl) ?_
 rw [bf, bf, bf, dM]
 repeat refine aJ ?_
 refine ao (t' := ?t1) (ds' := ?d1) (up' := ?u1) (s' := ?s1) (by kernel_rfl) ?h1 ?k1
 case h1 =>
  simp only [ae, aN, af, ak, ac, az, dq, ag, Nat.zero_add, Nat.reduceAdd]
  exact rfl
 case k1 =>
 repeat refine aJ ?_
 refine ao (t' := ?t2) (ds' := ?d2) (up' := ?u2) (s' := ?s2) (by kernel_rfl) ?h2 ?k2
 case h2 =>
  simp only [ae, aN, af, ak, ac, az, dq, ag]
  exact rfl
 case k2 =>
 repeat refine aJ ?_
 refine cH ?_
 refine kh (fun j t s1 => ∃ (n : Nat), j = l.length - (p + k + n) ∧ p + k + n ≤ l.length ∧ aQ q l (p + k) = n + aQ q l (p + k + n) ∧ s = s1 ∧ t.get (eT 0) = some (.ptr ⟨fs, 0, 0⟩) ∧ t.get (eT 1) = some (.int .i64 ((k : Nat) : Int)) ∧ t.get (eT 2) = some (.func (.func g) [] []) ∧ t.get (eT 6) = some (.int .i64 0) ∧ t.get (eT 7) = some (.int .i64 ((n : Nat) : Int))) ?_ _ _ _ ⟨0, rfl, hk, by simp, rfl, ?_, ?_, ?_, ?_, ?_⟩
 rotate_left
 ·simp only [ab, Nat.reduceEqDiff, reduceIte] <;> rfl
 ·simp only [ab, Nat.reduceEqDiff, reduceIte] <;> rfl
 ·simp only [ab, Nat.reduceEqDiff, reduceIte] <;> rfl
 ·simp only [ab, Nat.reduceEqDiff, reduceIte] <;> rfl
 ·simp only [ab, Nat.reduceEqDiff, reduceIte] <;> rfl
 rintro j t s1 ⟨n, hj, hn, hr, rfl, l0, l1, l2, l6, l7⟩ hnext
 by_cases hlt : p + k + n < l.length
 ·have c1 : decide (((p + k + n : Nat) : Int) < ((l.length : Nat) : Int)) = true := by simp; omega
  obtain ⟨x, hx⟩ : ∃ x, l[p + k + n]? = some x := ⟨_, List.getElem?_eq_getElem hlt⟩
  have hxx : l[p + k + n]? = some x ∧ x < 256 := ⟨hx, hb.at hx⟩
  have hrs := II (q := q) hx
  repeat refine aJ ?_
  have hw3 : IntKind.wrap .i64 (((p : Nat) : Int) + ((k : Nat) : Int)) = ((p + k : Nat) : Int) := by have := bJ (((p : Nat) : Int) + ((k : Nat) : Int)) ⟨by omega, by omega⟩; omega
  have hw4 : IntKind.wrap .i64 (((p + k : Nat) : Int) + ((n : Nat) : Int)) = ((p + k + n : Nat) : Int) := by have := bJ (((p + k : Nat) : Int) + ((n : Nat) : Int)) ⟨by omega, by omega⟩; omega
  have call5 := DF hgq hxx.2 s
  refine fK (t' := ?t6) (ds' := ?d6) (up' := ?u6) (s' := ?s6) [(some 1, 0), (some 1, 1), (some 1, 2), (some 1, 3), (some 1, 4), (some 1, 5), (some 1, 6), (some 1, 7), (some 1, 8), (some 1, 9), (some 1, 10), (some 1, 11), (some 1, 12), (some 1, 13), (some 1, 14), (some 1, 15), (some 1, 16), (some 1, 17), (some 1, 18), (some 1, 19), (some 1, 20), (some 1, 21), (some 1, 22), (some 1, 23), (some 1, 24), (some 1, 25), (some 1, 26), (some 1, 27), (some 1, 28), (none, 29), (some 1, 30)] (by kernel_rfl) (by kernel_rfl) ?h6 ?k6
  case h6 =>
   simp only [cp, dO, gF, cq, eG, bn, bC, ea, cZ, dE, aG, dG, iL, jV, cu, em, bR, bo, cr, bz, al, List.take_succ_cons, List.take_zero, List.take_nil, iP, aX, me, ac, jd, kC, kD, az, ai, ab, Nat.reduceEqDiff, reduceIte, ag, bx, eg, ft, ip, TI, List.nil_append, List.append_nil, Nat.zero_add, Nat.add_zero, evals, lp, List.getElem?_toArray, List.getElem?_cons_zero, List.getElem?_cons_succ, Option.bind, cS, bj, eE, cond_true, cond_false, bD, bQ, aR, decide_true, dI, aw, dU, As, wE hg, aS, hw3, hw4, iy, IU, jj, c1, me, HE hxx, iP, call5, hcf, l0, l1, l2, l7]
   exact rfl
  case k6 =>
  refine cP (q x) (by simp only [ai, ab, Nat.reduceEqDiff, reduceIte]) (fun hd => ?_) (fun hd => ?_)
  ·rw [if_pos hd] at hrs
   refine lE ?_
   refine cH ?_
   have hw7 : IntKind.wrap .i64 (((n : Nat) : Int) + 1) = ((n + 1 : Nat) : Int) := by have := bJ (((n : Nat) : Int) + 1) ⟨by omega, by omega⟩; omega
   refine ao (t' := ?t8) (ds' := ?d8) (up' := ?u8) (s' := ?s8) (by kernel_rfl) ?h8 ?k8
   case h8 =>
    simp only [ae, aN, af, ak, ac, az, ai, dq, ab, Nat.reduceEqDiff, reduceIte, ag, cS, bj, eE, cond_true, cond_false, bD, bQ, aR, decide_true, dI, aS, hw7, l7]
    exact rfl
   case k8 =>
   refine cU ?_
   refine hnext _ _ _ (by omega) ⟨n + 1, rfl, by omega, by rw [hr, hrs, show p + k + (n + 1) = p + k + n + 1 by omega]; omega, rfl, ?_, ?_, ?_, ?_, ?_⟩
   ·simp only [ab, Nat.reduceEqDiff, reduceIte, l0] <;> rfl
   ·simp only [ab, Nat.reduceEqDiff, reduceIte, l1] <;> rfl
   ·simp only [ab, Nat.reduceEqDiff, reduceIte, l2] <;> rfl
   ·simp only [ab, Nat.reduceEqDiff, reduceIte, l6] <;> rfl
   ·simp only [ab, Nat.reduceEqDiff, reduceIte, l7] <;> rfl
  ·have hd2 : ¬ (q x = true) := by rw [hd]; exact Bool.false_ne_true
   rw [if_neg hd2] at hrs
   refine zp rfl ?_
   repeat refine aJ ?_
   refine ao (t' := ?t9) (ds' := ?d9) (up' := ?u9) (s' := ?s9) (by kernel_rfl) ?h9 ?k9
   case h9 =>
    simp only [ae, aN, af, ak, ac, az, ai, ab, Nat.reduceEqDiff, reduceIte, ag, l7]
    exact rfl
   case k9 =>
   refine kg (.int .i64 ((n : Nat) : Int)) 6 rfl (by simp only [ab, Nat.reduceEqDiff, reduceIte]) ⟨by rw [hr, hrs, Nat.add_zero], rfl⟩
 ·have c1 : decide (((p + k + n : Nat) : Int) < ((l.length : Nat) : Int)) = false := by simp; omega
  repeat refine aJ ?_
  have hw10 : IntKind.wrap .i64 (((p : Nat) : Int) + ((k : Nat) : Int)) = ((p + k : Nat) : Int) := by have := bJ (((p : Nat) : Int) + ((k : Nat) : Int)) ⟨by omega, by omega⟩; omega
  have hw11 : IntKind.wrap .i64 (((p + k : Nat) : Int) + ((n : Nat) : Int)) = ((p + k + n : Nat) : Int) := by have := bJ (((p + k : Nat) : Int) + ((n : Nat) : Int)) ⟨by omega, by omega⟩; omega
  refine fK (t' := ?t12) (ds' := ?d12) (up' := ?u12) (s' := ?s12) [(some 1, 0), (some 1, 1), (some 1, 2), (some 1, 3), (some 1, 4), (some 1, 5), (some 1, 6), (some 1, 7), (some 1, 8), (some 1, 9), (some 1, 10), (some 1, 11), (some 1, 12), (some 1, 13), (some 1, 14), (some 1, 15), (some 1, 16), (some 1, 17), (some 1, 18), (some 1, 19), (some 1, 20), (some 1, 21), (some 1, 22), (some 1, 23), (some 1, 24), (some 1, 25), (some 1, 26), (some 1, 27), (some 1, 28), (none, 29), (some 1, 30)] (by kernel_rfl) (by kernel_rfl) ?h12 ?k12
  case h12 =>
   simp only [cp, dO, gF, cq, eG, bn, bC, ea, cZ, dE, aG, rP, xh, cu, em, bR, bo, cr, bz, al, List.take_succ_cons, List.take_zero, List.take_nil, iP, aX, ac, jd, kC, kD, az, ai, jx, ab, Nat.reduceEqDiff, reduceIte, ag, bx, eg, ip, TJ, Nat.zero_add, Nat.add_zero, evals, lp, List.getElem?_toArray, List.getElem?_cons_zero, List.getElem?_cons_succ, Option.bind, cS, bj, eE, cond_true, cond_false, bD, bQ, aR, decide_true, dI, aw, dU, As, wE hg, aS, hw10, hw11, iy, IU, jj, c1, l0, l1, l7]
   exact rfl
  case k12 =>
  refine cP false (by simp only [ai, ab, Nat.reduceEqDiff, reduceIte]) (fun h => by cases h) (fun _ => ?_)
  refine zp rfl ?_
  repeat refine aJ ?_
  refine ao (t' := ?t13) (ds' := ?d13) (up' := ?u13) (s' := ?s13) (by kernel_rfl) ?h13 ?k13
  case h13 =>
   simp only [ae, aN, af, ak, ac, az, ai, ab, Nat.reduceEqDiff, reduceIte, ag, l7]
   exact rfl
  case k13 =>
  refine kg (.int .i64 ((n : Nat) : Int)) 6 rfl (by simp only [ab, Nat.reduceEqDiff, reduceIte]) ⟨by rw [hr, Ci q (by omega), Nat.add_zero], rfl⟩
theorem oY : size Tryz.prog 117 = some 4 := by kernel_rfl
theorem Ig : fj Tryz.prog 117 = some true := by kernel_rfl
theorem Pv (s : S) : eJ Tryz.prog s 117 = some (.val (.ptr ⟨s.next, 0, 0⟩) (s.alloc (.cells 117 false 1 [⟨0, 0, [.int .i64 0, .int .i64 0, .str [], .int .i64 0]⟩]))) := by kernel_rfl
theorem Pb (s : S) (a : Ad) : loadVar Tryz.prog s 117 a = (loadCells s a 4).map .agg := by simp only [loadVar, Ig, oY, Option.bind]
theorem OQ (s : S) (a : Ad) (l : List V) (h : l.length = 4) : storeVar Tryz.prog s 117 a (.agg l) = storeCells s a l := by
 simp only [storeVar, oY, V.cells, h]; rfl
theorem Oh (f v c : Nat) : aP Tryz.prog 117 (some (.ptr ⟨f, v, c⟩)) 0 = some (.ptr ⟨f, v, c + 0⟩) := by kernel_rfl
theorem Og (f v c : Nat) : aP Tryz.prog 117 (some (.ptr ⟨f, v, c⟩)) 1 = some (.ptr ⟨f, v, c + 1⟩) := by kernel_rfl
theorem Of (f v c : Nat) : aP Tryz.prog 117 (some (.ptr ⟨f, v, c⟩)) 2 = some (.ptr ⟨f, v, c + 2⟩) := by kernel_rfl
theorem Oe (f v c : Nat) : aP Tryz.prog 117 (some (.ptr ⟨f, v, c⟩)) 3 = some (.ptr ⟨f, v, c + 3⟩) := by kernel_rfl
theorem dw (f v c : Nat) : aP Tryz.prog 274 (some (.ptr ⟨f, v, c⟩)) 0 = some (.ptr ⟨f, v, c + 0⟩) := by kernel_rfl
theorem Od (f v c : Nat) : aP Tryz.prog 274 (some (.ptr ⟨f, v, c⟩)) 2 = some (.ptr ⟨f, v, c + 3⟩) := by kernel_rfl
set_option maxRecDepth 10000
set_option maxHeartbeats 2000000
theorem Hx {fs : Nat} {e : TypeId} {sb : Bool} {nv : Nat} {l : List Nat} {p n : Nat} {rest : List V} (kind : Int) (hl : l.length ≤ 24) (hn : p + n ≤ l.length) {s : S} (hw : WF s) (hg : s.get fs = some (.cells e sb nv [⟨0, 0, .str l :: .int .i64 ((p : Nat) : Int) :: rest⟩])) :
 Cw au 244 [.ptr ⟨fs, 0, 0⟩, .int .i64 kind, .int .i64 ((n : Nat) : Int)] s fun v s' => v = .agg [.int .i64 kind, .int .i64 0, .str ((l.drop p).take n), .int .i64 ((p : Nat) : Int)] ∧ Fw [] s s' := by
 refine ls (fn := Tryz.f244) rfl Tryz.func244 rfl (by kernel_rfl) ?_
 rw [bf, bf, bf, dM]
 have hm := Me.start (F := []) hw
 have c1 : decide (((n : Nat) : Int) > 24) = false := by simp; omega
 have hpn : p + n - p = n := by omega
 repeat refine aJ ?_
 have hm1 := hm.alloc (B := .cells 117 false 1 [⟨0, 0, [.int .i64 0, .int .i64 0, .str [], .int .i64 0]⟩]) (fun _ h => by cases h)
 refine ao (t' := ?t2) (ds' := ?d2) (up' := ?u2) (s' := ?s2) (by kernel_rfl) ?h2 ?k2
 case h2 =>
  simp only [ae, aN, af, ak, ac, az, Nat.zero_add, Nat.reduceAdd, lp, Pv]
  exact rfl
 case k2 =>
 have hm := hm1
 generalize hs2 : S.alloc s _ = s3 at hm ⊢
 generalize hf4 : S.next s = f4 at hm ⊢
 have g5 := hm.at 0 rfl
 have g6 := hm.fw.keep fs _ (by simp) hg
 repeat refine aJ ?_
 refine ao (t' := ?t7) (ds' := ?d7) (up' := ?u7) (s' := ?s7) (by kernel_rfl) ?h7 ?k7
 case h7 =>
  simp only [ae, aN, af, ak, ac, az, ai, dq, ab, Nat.reduceEqDiff, reduceIte, ag, cS, bj, eE, cond_true, cond_false, bD, bQ, aR, decide_true, dI, c1]
  exact rfl
 case k7 =>
 refine cP false (by simp only [ai, ab, Nat.reduceEqDiff, reduceIte]) (fun h => by cases h) (fun _ => ?_)
 refine lE ?_
 repeat refine aJ ?_
 have hw8 : IntKind.wrap .i64 (((p : Nat) : Int) + ((n : Nat) : Int)) = ((p + n : Nat) : Int) := by have := bJ (((p : Nat) : Int) + ((n : Nat) : Int)) ⟨by omega, by omega⟩; omega
 have hsl9a : p + n ≤ l.length := by first | omega | exact Nat.le_refl _
 have hsl9b : p ≤ p + n := by omega
 have bd10_244 : fZ Tryz.prog 117 (some [(0, .int .i64 kind), (2, .str ((l.drop p).take (p + n - p))), (3, .int .i64 ((p : Nat) : Int))]) = some (.agg [.int .i64 kind, .int .i64 0, .str ((l.drop p).take (p + n - p)), .int .i64 ((p : Nat) : Int)]) := by rfl
 have hm11 := hm.put 0 rfl (B' := .cells 117 false 1 [⟨0, 0, [.int .i64 kind, .int .i64 0, .str ((l.drop p).take (p + n - p)), .int .i64 ((p : Nat) : Int)]⟩]) (fun _ h => by cases h)
 simp only [List.set_cons_zero] at hm11
 refine fK (t' := ?t12) (ds' := ?d12) (up' := ?u12) (s' := ?s12) [(some 1, 0), (some 1, 1), (some 1, 2), (some 1, 3), (some 1, 4), (some 1, 5), (some 1, 6), (some 1, 7), (some 1, 8), (some 1, 9), (some 1, 10), (some 1, 11), (some 1, 12), (some 1, 13), (some 1, 14), (some 1, 15), (some 1, 16), (some 1, 17), (some 1, 18), (some 1, 19), (some 1, 20), (some 1, 21), (some 1, 22), (some 1, 23), (some 1, 24), (none, 25)] (by kernel_rfl) (by kernel_rfl) ?h12 ?k12
 case h12 =>
  simp only [cp, dO, gF, cq, eG, bn, bC, ea, cZ, dE, aG, dG, gg, cu, em, bR, bo, cr, bz, al, List.take_succ_cons, List.take_nil, qS, cM, aX, cN, ac, az, ai, ab, dY, Nat.reduceEqDiff, reduceIte, ag, Nat.zero_add, Nat.add_zero, lp, List.getElem?_toArray, List.getElem?_cons_zero, List.getElem?_cons_succ, cS, bj, eE, cond_true, cond_false, bD, bQ, aR, decide_true, dI, aw, dw, iy, IU, wE g6, dU, As, aS, hw8, Kl hsl9a hsl9b, gm, dR, bd10_244, OQ _ _ [.int .i64 kind, .int .i64 0, .str ((l.drop p).take (p + n - p)), .int .i64 ((p : Nat) : Int)] rfl, GU g5 0 [.int .i64 kind, .int .i64 0, .str ((l.drop p).take (p + n - p)), .int .i64 ((p : Nat) : Int)] (rfl) rfl]
  exact rfl
 case k12 =>
 have hm := hm11
 generalize hs12 : S.put s3 f4 _ = s13 at hm ⊢
 have g14 := hm.at 0 rfl
 have g15 := hm.fw.keep fs _ (by simp) hg
 refine JI (.agg [.int .i64 kind, .int .i64 0, .str ((l.drop p).take (p + n - p)), .int .i64 ((p : Nat) : Int)]) 6 ⟨f4, 0, 0⟩ 117 rfl (by simp only [ab, Nat.reduceEqDiff, reduceIte]) (by rw [lp, Pb, MY g14]; rfl) ⟨by rw [hpn], hm.fw⟩
end Go.AI.Lx
namespace Go.AI.Lx
open Go.Proofs Go.Proofs.YtkeaedhoaamfnaaGreatDoor
set_option maxRecDepth 10000
set_option maxHeartbeats 2000000
def cG : List (List Nat) := [[97, 110, 100], [99, 97, 115, 101], [100, 97, 116, 97], [101, 108, 115, 101], [101, 110, 100], [102, 110], [102, 117, 110], [105, 102], [105, 110], [105, 110, 112, 117, 116], [108, 101, 116], [111, 102], [111, 117, 116, 112, 117, 116], [116, 104, 101, 110], [118, 97, 108]]
def bK : List (List Nat) → Nat → List pL
 | [], _ => []
 | w :: r, n => ⟨.str w, .int .i64 5, n⟩ :: bK r (n + 1)
theorem yx {ok : V → V → Option Bool} (hok : ∀ a b, Bytes a → Bytes b → ok (.str a) (.str b) = some (decide (a = b))) {x : List Nat} (hx : Bytes x) : ∀ (ws : List (List Nat)) (n : Nat), (∀ w ∈ ws, Bytes w) → bN ok (.str x) (bK ws n) = some (if x ∈ ws then some (.int .i64 5) else none)
 | [], n, _ => by simp [bK, bN]
 | w :: r, n, h => by
  have ih := yx hok hx r (n + 1) (fun z hz => h z (List.mem_cons_of_mem _ hz))
  simp only [bK, bN, ih, hok x w hx (h w (by simp))]
  by_cases hw : x = w
  ·subst hw; simp [bN.foundKey]
  ·simp [bN.foundKey, hw]
def bE (l : List Nat) (p : Nat) : Nat :=
 if aC l (p + aQ bH l p) = 39 ∧ 0 < aQ bW l (p + aQ bH l p + 1) then aQ bH l p + (1 + aQ bW l (p + aQ bH l p + 1)) else aQ bH l p
end Go.AI.Lx
namespace Go.AI.Lx
open Go.Proofs Go.Proofs.YtkeaedhoaamfnaaGreatDoor
theorem Pt (args : List V) (s : S) : fU au 234 args s = some (.enter 234 args s) := by kernel_rfl
theorem Pq (args : List V) (s : S) : fU au 239 args s = some (.enter 239 args s) := by kernel_rfl
theorem Pp (args : List V) (s : S) : fU au 245 args s = some (.enter 245 args s) := by kernel_rfl
set_option maxRecDepth 10000
set_option maxHeartbeats 2000000
theorem mN : ∀ w ∈ cG, Bytes w := by
 intro w hw b hb
 simp only [cG, List.mem_cons, List.mem_nil_iff, or_false] at hw
 rcases hw with rfl | rfl | rfl | rfl | rfl | rfl | rfl | rfl | rfl | rfl | rfl | rfl | rfl | rfl | rfl <;> simp only [List.mem_cons, List.mem_nil_iff, or_false] at hb <;> omega
theorem io (s : S) (a b : List Nat) (ha : Bytes a) (hb : Bytes b) : dJ Tryz.prog (plainAt s) 20 9 (.str a) (.str b) = some (decide (a = b)) := by
 simp only [dJ, Tryz.underlying9, ri ha hb]
theorem jg : eO Tryz.prog 9 = true := by kernel_rfl
theorem RC : qz Tryz.prog 3 true (some none) = some (.tuple [.int .i64 0, .bool false]) := by kernel_rfl
theorem QF (v : V) : qz Tryz.prog 3 true (some (some v)) = some (.tuple [v, .bool true]) := by rfl
theorem IV {s : S} {mm n0 clk : Nat} (hm : s.get mm = some (.map (bK cG n0) clk)) {x : List Nat} (hx : Bytes x) :
 bZ Tryz.prog s 86 (some (.map mm)) (some (.str x)) true = some (.tuple [.int .i64 (if x ∈ cG then 5 else 0), .bool (decide (x ∈ cG))]) := by
 simp only [bZ, Tryz.underlying86, nE, hm, jg, cond_true, yx (fun a b ha hb => io s a b ha hb) hx cG n0 mN]
 by_cases h : x ∈ cG
 ·simp only [h, if_true, QF, decide_true]
 ·simp only [h, if_false, RC, decide_false]
def gO (x : List Nat) (kind : Int) : Int := if x ∈ cG then 5 else kind
theorem pn (l : List Nat) (p : Nat) (h : p ≤ l.length) : p + bE l p ≤ l.length := by
 have h1 := kr bH l p h
 unfold bE
 split
 ·rename_i hc
  have h3 : p + aQ bH l p < l.length := by
   rcases Nat.lt_or_ge (p + aQ bH l p) l.length with h | h
   ·exact h
   ·have := hc.1
    unfold aC at this
    rw [List.getElem?_eq_none h] at this
    cases this
  have h2 := kr bW l (p + aQ bH l p + 1) (by omega)
  omega
 ·exact h1
theorem ud : size Tryz.prog 172 = some 2 := by kernel_rfl
theorem Ie : fj Tryz.prog 172 = some true := by kernel_rfl
theorem Pu (s : S) : eJ Tryz.prog s 172 = some (.val (.ptr ⟨s.next, 0, 0⟩) (s.alloc (.cells 172 false 1 [⟨0, 0, [.int .i64 0, .int .i64 0]⟩]))) := by kernel_rfl
theorem Hy (s : S) (a : Ad) : loadVar Tryz.prog s 172 a = (loadCells s a 2).map .agg := by simp only [loadVar, Ie, ud, Option.bind]
theorem Ka (s : S) (a : Ad) (l : List V) (h : l.length = 2) : storeVar Tryz.prog s 172 a (.agg l) = storeCells s a l := by
 simp only [storeVar, ud, V.cells, h]; rfl
theorem we (args : List V) (s : S) : fU au 236 args s = some (.enter 236 args s) := by kernel_rfl
set_option maxRecDepth 10000
set_option maxHeartbeats 2000000
theorem lu (t : T V) : eval t (.const (.string ⟨#[40, 42]⟩)) = some (.str [40, 42]) := by rfl
theorem yL (t : T V) : eval t (.const (.string ⟨#[42, 41]⟩)) = some (.str [42, 41]) := by rfl
def pJ (c : List tX) : Prop := ∃ a e : Int, e ≠ 0 ∧ c = [⟨.iface 172 (.agg [.int .i64 a, .int .i64 e]), false⟩]
abbrev MZ (e : TypeId) (sb : Bool) (nv : Nat) (l : List Nat) (p : Nat) (mm : Nat) (cm : V) : bP := .cells e sb nv [⟨0, 0, [.str l, .int .i64 ((p : Nat) : Int), .map mm, cm]⟩]
theorem Cy {l : List Nat} {p a b : Nat} (h : gb (l.drop p) [a, b] = true) : p + 2 ≤ l.length := by
 simp only [gb, Bool.and_eq_true, decide_eq_true_eq, List.length_drop, List.length_cons, List.length_nil] at h
 omega
theorem Mi {fs : Nat} {e : TypeId} {sb : Bool} {nv : Nat} {l : List Nat} {p : Nat} {mm : Nat} {cm : V} (hb : Bytes l) (hl : l.length ≤ 24) (hp : gb (l.drop p) [40, 42] = true) {s : S} (hw : WF s) (hg : s.get fs = some (MZ e sb nv l p mm cm)) :
 Co au 237 [.ptr ⟨fs, 0, 0⟩] s (RP (fun v s' => v = .tuple [] ∧ ∃ p', p < p' ∧ p' ≤ l.length ∧ s'.get fs = some (MZ e sb nv l p' mm cm) ∧ Fw [fs] s s') (fun c s' => pJ c ∧ Fw [fs] s s')) := by
 refine qN (fn := Tryz.f237) rfl Tryz.func237 rfl (by kernel_rfl) ?_
 rw [bf, dM]
 have hm := Me.start1 (F := [fs]) hw (by simp) hg (fun _ h => by cases h)
 have g1 := hm.at 0 rfl
 have hp2 := Cy hp
 repeat refine aJ ?_
 refine ao (t' := ?t2) (ds' := ?d2) (up' := ?u2) (s' := ?s2) (by kernel_rfl) ?h2 ?k2
 case h2 =>
  simp only [aX, ae, aN, af, ak, ac, az, ai, dq, ab, Nat.reduceEqDiff, reduceIte, ag, Nat.zero_add, Nat.add_zero, lp, List.getElem?_cons_zero, List.getElem?_cons_succ, aw, dw, dU, As, wE g1]
  exact rfl
 case k2 =>
 refine cH ?_
 refine kh (fun j t s1 => ∃ (q o : Nat), j = l.length - q ∧ q ≤ l.length ∧ ((q = p ∧ o = 0) ∨ (p < q ∧ 1 ≤ o ∧ o ≤ q)) ∧ Me [fs] s s1 [(fs, MZ e sb nv l q mm cm)] ∧ t.get (eT 0) = some (.ptr ⟨fs, 0, 0⟩) ∧ t.get (eT 2) = some (.int .i64 ((p : Nat) : Int)) ∧ t.get (eT 3) = some (.int .i64 ((o : Nat) : Int))) ?_ _ _ _ ⟨p, 0, rfl, by omega, .inl ⟨rfl, rfl⟩, hm, ?_, ?_, ?_⟩
 rotate_left
 ·simp only [ab, Nat.reduceEqDiff, reduceIte] <;> rfl
 ·simp only [ab, Nat.reduceEqDiff, reduceIte] <;> rfl
 ·simp only [ab, Nat.reduceEqDiff, reduceIte] <;> rfl
 rintro j t s1 ⟨q, o, hj, hq, ho, hm, l0, l2, l3⟩ hnext
 have gq := hm.at 0 rfl
 have hw1 := hm.wf
 by_cases hend : l.length ≤ q
 ·have c1 : decide (((q : Nat) : Int) ≥ ((l.length : Nat) : Int)) = true := by simp; omega
  refine cH ?_
  refine cH ?_
  repeat refine aJ ?_
  refine fK (t' := ?t3) (ds' := ?d3) (up' := ?u3) (s' := ?s3) [(some 1, 0), (some 1, 1), (some 1, 2), (some 1, 3), (some 1, 4), (some 1, 5), (some 1, 6), (some 1, 7), (some 1, 8), (some 1, 9), (some 1, 10), (some 1, 11), (some 1, 12)] (by kernel_rfl) (by kernel_rfl) ?h3 ?k3
  case h3 =>
   simp only [cp, dO, cq, bn, bC, aG, cu, em, bR, bo, cr, bz, al, List.take_succ_cons, List.take_nil, aX, ac, az, ai, ab, Nat.reduceEqDiff, reduceIte, ag, bx, eg, Nat.zero_add, Nat.add_zero, evals, lp, List.getElem?_toArray, List.getElem?_cons_zero, List.getElem?_cons_succ, cS, bj, eE, cond_true, cond_false, bD, bQ, aR, decide_true, dI, aw, dw, dU, As, wE gq, iy, IU, jj, c1, l0]
   exact rfl
  case k3 =>
  refine cP true (by simp only [ai, ab, Nat.reduceEqDiff, reduceIte]) (fun _ => ?_) (fun h => by cases h)
  have bd4_237 : fZ Tryz.prog 172 (some [(0, .int .i64 ((p : Nat) : Int)), (1, .int .i64 12)]) = some (.agg [.int .i64 ((p : Nat) : Int), .int .i64 12]) := by rfl
  have if5_237 : eR Tryz.prog 172 (some (.agg [.int .i64 ((p : Nat) : Int), .int .i64 12])) = some (.iface 172 (.agg [.int .i64 ((p : Nat) : Int), .int .i64 12])) := by rfl
  refine JK (t' := ?t6) (c := ?d6) (s' := ?s6) (by kernel_rfl) ?h6 ?k6
  case h6 =>
   simp only [ae, af, ak, ac, az, ai, dq, ab, Nat.reduceEqDiff, reduceIte, ag, lp, dR, bd4_237, if5_237, qj, AK, l2]
   exact rfl
  case k6 =>
  exact ⟨⟨_, _, by decide, rfl⟩, hm.fw⟩
 ·have c1 : decide (((q : Nat) : Int) ≥ ((l.length : Nat) : Int)) = false := by simp; omega
  cases hs : gb (l.drop q) [40, 42] with
  | true =>
   have h2 := Cy hs
   have c2 : decide (((o : Nat) : Int) ≥ 100) = false := by simp; omega
   refine cH ?_
   refine cH ?_
   repeat refine aJ ?_
   refine fK (t' := ?t7) (ds' := ?d7) (up' := ?u7) (s' := ?s7) [(some 1, 0), (some 1, 1), (some 1, 2), (some 1, 3), (some 1, 4), (some 1, 5), (some 1, 6), (some 1, 7), (some 1, 8), (some 1, 9), (some 1, 10), (some 1, 11), (some 1, 12)] (by kernel_rfl) (by kernel_rfl) ?h7 ?k7
   case h7 =>
    simp only [cp, dO, cq, bn, bC, aG, cu, em, bR, bo, cr, bz, al, List.take_succ_cons, List.take_nil, aX, ac, az, ai, ab, Nat.reduceEqDiff, reduceIte, ag, bx, eg, Nat.zero_add, Nat.add_zero, evals, lp, List.getElem?_toArray, List.getElem?_cons_zero, List.getElem?_cons_succ, cS, bj, eE, cond_true, cond_false, bD, bQ, aR, decide_true, dI, aw, dw, dU, As, wE gq, iy, IU, jj, c1, l0]
    exact rfl
   case k7 =>
   refine cP false (by simp only [ai, ab, Nat.reduceEqDiff, reduceIte]) (fun h => by cases h) (fun _ => ?_)
   repeat refine aJ ?_
   obtain ⟨_, _, call8, rfl, rfl⟩ := jf hb (by omega) hq [40, 42] (fun z hz => by simp at hz; omega) gq
   have call8 := ir call8
   refine ao (t' := ?t9) (ds' := ?d9) (up' := ?u9) (s' := ?s9) (by kernel_rfl) ?h9 ?k9
   case h9 =>
    simp only [ae, aN, af, ak, bM, cx, ac, az, ai, cW, ab, Nat.reduceEqDiff, reduceIte, ag, bx, ft, List.nil_append, List.append_nil, Nat.add_zero, evals, lp, aw, dw, lu, hs, call8, we, l0]
    exact rfl
   case k9 =>
   refine cP true (by simp only [ai, ab, Nat.reduceEqDiff, reduceIte]) (fun _ => ?_) (fun h => by cases h)
   repeat refine aJ ?_
   refine ao (t' := ?t10) (ds' := ?d10) (up' := ?u10) (s' := ?s10) (by kernel_rfl) ?h10 ?k10
   case h10 =>
    simp only [ae, aN, af, ak, ac, az, ai, dq, ab, Nat.reduceEqDiff, reduceIte, ag, cS, bj, eE, cond_true, cond_false, bD, bQ, aR, decide_true, dI, c2, l3]
    exact rfl
   case k10 =>
   refine cP false (by simp only [ai, ab, Nat.reduceEqDiff, reduceIte]) (fun h => by cases h) (fun _ => ?_)
   refine lE ?_
   repeat refine aJ ?_
   have hw11 : IntKind.wrap .i64 (((o : Nat) : Int) + 1) = ((o + 1 : Nat) : Int) := by have := bJ (((o : Nat) : Int) + 1) ⟨by omega, by omega⟩; omega
   refine ao (t' := ?t12) (ds' := ?d12) (up' := ?u12) (s' := ?s12) (by kernel_rfl) ?h12 ?k12
   case h12 =>
    simp only [ae, aN, af, ak, ac, az, ai, dq, ab, Nat.reduceEqDiff, reduceIte, ag, cS, bj, eE, cond_true, cond_false, bD, bQ, aR, decide_true, dI, aS, hw11, l3]
    exact rfl
   case k12 =>
   have hw13 : IntKind.wrap .i64 (((q : Nat) : Int) + 2) = ((q + 2 : Nat) : Int) := by have := bJ (((q : Nat) : Int) + 2) ⟨by omega, by omega⟩; omega
   have hm14 := hm.put 0 rfl (B' := .cells e sb nv [⟨0, 0, [.str l, .int .i64 ((q + 2 : Nat) : Int), .map mm, cm]⟩]) (fun _ h => by cases h)
   simp only [List.set_cons_zero] at hm14
   refine ao (t' := ?t15) (ds' := ?d15) (up' := ?u15) (s' := ?s15) (by kernel_rfl) ?h15 ?k15
   case h15 =>
    simp only [cM, aX, cN, ae, aN, af, ak, fe, ac, az, ai, dq, ab, dY, Nat.reduceEqDiff, reduceIte, ag, Nat.zero_add, Nat.add_zero, lp, List.getElem?_cons_zero, List.getElem?_cons_succ, cS, bj, eE, cond_true, cond_false, bD, bQ, aR, decide_true, dI, aw, dw, dU, As, wE gq, aS, hw13, RG _ _ (.int .i64 ((q + 2 : Nat) : Int)) rfl, GU gq 1 [.int .i64 ((q + 2 : Nat) : Int)] (rfl) rfl, l0]
    exact rfl
   case k15 =>
   have hm := hm14
   generalize hs15 : S.put s1 fs _ = s16 at hm ⊢
   have g17 := hm.at 0 rfl
   refine cU ?_
   refine cU ?_
   refine hnext _ _ _ (by omega) ⟨q + 2, o + 1, rfl, h2, .inr (by omega), hm, ?_, ?_, ?_⟩
   ·simp only [ab, Nat.reduceEqDiff, reduceIte, l0] <;> rfl
   ·simp only [ab, Nat.reduceEqDiff, reduceIte, l2] <;> rfl
   ·simp only [ab, Nat.reduceEqDiff, reduceIte, l3] <;> rfl
  | false =>
   have hne : p < q ∧ 1 ≤ o ∧ o ≤ q := by
    rcases ho with ⟨h, _⟩ | h
    ·subst h; rw [hp] at hs; cases hs
    ·exact h
   cases hs2 : gb (l.drop q) [42, 41] with
   | true =>
    have h2 := Cy hs2
    have hsub : IntKind.wrap .i64 (((o : Nat) : Int) - 1) = ((o - 1 : Nat) : Int) := by have := bJ (((o : Nat) : Int) - 1) ⟨by omega, by omega⟩; omega
    refine cH ?_
    refine cH ?_
    repeat refine aJ ?_
    refine fK (t' := ?t18) (ds' := ?d18) (up' := ?u18) (s' := ?s18) [(some 1, 0), (some 1, 1), (some 1, 2), (some 1, 3), (some 1, 4), (some 1, 5), (some 1, 6), (some 1, 7), (some 1, 8), (some 1, 9), (some 1, 10), (some 1, 11), (some 1, 12)] (by kernel_rfl) (by kernel_rfl) ?h18 ?k18
    case h18 =>
     simp only [cp, dO, cq, bn, bC, aG, cu, em, bR, bo, cr, bz, al, List.take_succ_cons, List.take_nil, aX, ac, az, ai, ab, Nat.reduceEqDiff, reduceIte, ag, bx, eg, Nat.zero_add, Nat.add_zero, evals, lp, List.getElem?_toArray, List.getElem?_cons_zero, List.getElem?_cons_succ, cS, bj, eE, cond_true, cond_false, bD, bQ, aR, decide_true, dI, aw, dw, dU, As, wE gq, iy, IU, jj, c1, l0]
     exact rfl
    case k18 =>
    refine cP false (by simp only [ai, ab, Nat.reduceEqDiff, reduceIte]) (fun h => by cases h) (fun _ => ?_)
    repeat refine aJ ?_
    obtain ⟨_, _, call19, rfl, rfl⟩ := jf hb (by omega) hq [40, 42] (fun z hz => by simp at hz; omega) gq
    have call19 := ir call19
    refine ao (t' := ?t20) (ds' := ?d20) (up' := ?u20) (s' := ?s20) (by kernel_rfl) ?h20 ?k20
    case h20 =>
     simp only [ae, aN, af, ak, bM, cx, ac, az, ai, cW, ab, Nat.reduceEqDiff, reduceIte, ag, bx, ft, List.nil_append, List.append_nil, Nat.add_zero, evals, lp, aw, dw, lu, hs, call19, we, l0]
     exact rfl
    case k20 =>
    refine cP false (by simp only [ai, ab, Nat.reduceEqDiff, reduceIte]) (fun h => by cases h) (fun _ => ?_)
    repeat refine aJ ?_
    obtain ⟨_, _, call21, rfl, rfl⟩ := jf hb (by omega) hq [42, 41] (fun z hz => by simp at hz; omega) gq
    have call21 := ir call21
    refine ao (t' := ?t22) (ds' := ?d22) (up' := ?u22) (s' := ?s22) (by kernel_rfl) ?h22 ?k22
    case h22 =>
     simp only [ae, aN, af, ak, bM, cx, ac, az, ai, cW, ab, Nat.reduceEqDiff, reduceIte, ag, bx, ft, List.nil_append, List.append_nil, Nat.add_zero, evals, lp, aw, dw, yL, hs2, call21, we, l0]
     exact rfl
    case k22 =>
    refine cP true (by simp only [ai, ab, Nat.reduceEqDiff, reduceIte]) (fun _ => ?_) (fun h => by cases h)
    repeat refine aJ ?_
    refine ao (t' := ?t23) (ds' := ?d23) (up' := ?u23) (s' := ?s23) (by kernel_rfl) ?h23 ?k23
    case h23 =>
     simp only [ae, aN, af, ak, ac, az, ai, dq, ab, Nat.reduceEqDiff, reduceIte, ag, cS, bj, eE, cond_true, cond_false, bD, bQ, aR, decide_true, dI, aS, hsub, l3]
     exact rfl
    case k23 =>
    repeat refine aJ ?_
    have hw24 : IntKind.wrap .i64 (((q : Nat) : Int) + 2) = ((q + 2 : Nat) : Int) := by have := bJ (((q : Nat) : Int) + 2) ⟨by omega, by omega⟩; omega
    have hm25 := hm.put 0 rfl (B' := .cells e sb nv [⟨0, 0, [.str l, .int .i64 ((q + 2 : Nat) : Int), .map mm, cm]⟩]) (fun _ h => by cases h)
    simp only [List.set_cons_zero] at hm25
    refine ao (t' := ?t26) (ds' := ?d26) (up' := ?u26) (s' := ?s26) (by kernel_rfl) ?h26 ?k26
    case h26 =>
     simp only [cM, aX, cN, ae, aN, af, ak, fe, ac, az, ai, dq, ab, dY, Nat.reduceEqDiff, reduceIte, ag, Nat.zero_add, Nat.add_zero, lp, List.getElem?_cons_zero, List.getElem?_cons_succ, cS, bj, eE, cond_true, cond_false, bD, bQ, aR, decide_true, dI, aw, dw, dU, As, wE gq, aS, hw24, RG _ _ (.int .i64 ((q + 2 : Nat) : Int)) rfl, GU gq 1 [.int .i64 ((q + 2 : Nat) : Int)] (rfl) rfl, l0]
     exact rfl
    case k26 =>
    have hm := hm25
    generalize hs26 : S.put s1 fs _ = s27 at hm ⊢
    have g28 := hm.at 0 rfl
    repeat refine aJ ?_
    refine ao (t' := ?t29) (ds' := ?d29) (up' := ?u29) (s' := ?s29) (by kernel_rfl) ?h29 ?k29
    case h29 =>
     simp only [ae, aN, af, ak, ac, az, ai, dq, ab, Nat.reduceEqDiff, reduceIte, ag, cS, bj, eE, cond_true, cond_false, bD, bQ, aR, decide_true, dI, l3]
     exact rfl
    case k29 =>
    refine cP (((o - 1 : Nat) : Int) == 0) (by simp only [ai, ab, Nat.reduceEqDiff, reduceIte]) (fun h0 => ?_) (fun h0 => ?_)
    ·skip
     refine GJ (.tuple []) rfl ⟨rfl, q + 2, by omega, h2, hm.at 0 rfl, hm.fw⟩
    ·have h0 : ¬ ((o - 1 : Nat) : Int) = 0 := by simpa using h0
     refine lE ?_
     refine cU ?_
     refine cU ?_
     refine hnext _ _ _ (by omega) ⟨q + 2, o - 1, rfl, h2, .inr (by omega), hm, ?_, ?_, ?_⟩
     ·simp only [ab, Nat.reduceEqDiff, reduceIte, l0] <;> rfl
     ·simp only [ab, Nat.reduceEqDiff, reduceIte, l2] <;> rfl
     ·simp only [ab, Nat.reduceEqDiff, reduceIte, l3] <;> rfl
   | false =>
    skip
    refine cH ?_
    refine cH ?_
    repeat refine aJ ?_
    refine fK (t' := ?t30) (ds' := ?d30) (up' := ?u30) (s' := ?s30) [(some 1, 0), (some 1, 1), (some 1, 2), (some 1, 3), (some 1, 4), (some 1, 5), (some 1, 6), (some 1, 7), (some 1, 8), (some 1, 9), (some 1, 10), (some 1, 11), (some 1, 12)] (by kernel_rfl) (by kernel_rfl) ?h30 ?k30
    case h30 =>
     simp only [cp, dO, cq, bn, bC, aG, cu, em, bR, bo, cr, bz, al, List.take_succ_cons, List.take_nil, aX, ac, az, ai, ab, Nat.reduceEqDiff, reduceIte, ag, bx, eg, Nat.zero_add, Nat.add_zero, evals, lp, List.getElem?_toArray, List.getElem?_cons_zero, List.getElem?_cons_succ, cS, bj, eE, cond_true, cond_false, bD, bQ, aR, decide_true, dI, aw, dw, dU, As, wE gq, iy, IU, jj, c1, l0]
     exact rfl
    case k30 =>
    refine cP false (by simp only [ai, ab, Nat.reduceEqDiff, reduceIte]) (fun h => by cases h) (fun _ => ?_)
    repeat refine aJ ?_
    obtain ⟨_, _, call31, rfl, rfl⟩ := jf hb (by omega) hq [40, 42] (fun z hz => by simp at hz; omega) gq
    have call31 := ir call31
    refine ao (t' := ?t32) (ds' := ?d32) (up' := ?u32) (s' := ?s32) (by kernel_rfl) ?h32 ?k32
    case h32 =>
     simp only [ae, aN, af, ak, bM, cx, ac, az, ai, cW, ab, Nat.reduceEqDiff, reduceIte, ag, bx, ft, List.nil_append, List.append_nil, Nat.add_zero, evals, lp, aw, dw, lu, hs, call31, we, l0]
     exact rfl
    case k32 =>
    refine cP false (by simp only [ai, ab, Nat.reduceEqDiff, reduceIte]) (fun h => by cases h) (fun _ => ?_)
    repeat refine aJ ?_
    obtain ⟨_, _, call33, rfl, rfl⟩ := jf hb (by omega) hq [42, 41] (fun z hz => by simp at hz; omega) gq
    have call33 := ir call33
    refine ao (t' := ?t34) (ds' := ?d34) (up' := ?u34) (s' := ?s34) (by kernel_rfl) ?h34 ?k34
    case h34 =>
     simp only [ae, aN, af, ak, bM, cx, ac, az, ai, cW, ab, Nat.reduceEqDiff, reduceIte, ag, bx, ft, List.nil_append, List.append_nil, Nat.add_zero, evals, lp, aw, dw, yL, hs2, call33, we, l0]
     exact rfl
    case k34 =>
    refine cP false (by simp only [ai, ab, Nat.reduceEqDiff, reduceIte]) (fun h => by cases h) (fun _ => ?_)
    have hw35 : IntKind.wrap .i64 (((q : Nat) : Int) + 1) = ((q + 1 : Nat) : Int) := by have := bJ (((q : Nat) : Int) + 1) ⟨by omega, by omega⟩; omega
    have hm36 := hm.put 0 rfl (B' := .cells e sb nv [⟨0, 0, [.str l, .int .i64 ((q + 1 : Nat) : Int), .map mm, cm]⟩]) (fun _ h => by cases h)
    simp only [List.set_cons_zero] at hm36
    refine ao (t' := ?t37) (ds' := ?d37) (up' := ?u37) (s' := ?s37) (by kernel_rfl) ?h37 ?k37
    case h37 =>
     simp only [cM, aX, cN, ae, aN, af, ak, fe, ac, az, ai, dq, ab, dY, Nat.reduceEqDiff, reduceIte, ag, Nat.zero_add, Nat.add_zero, lp, List.getElem?_cons_zero, List.getElem?_cons_succ, cS, bj, eE, cond_true, cond_false, bD, bQ, aR, decide_true, dI, aw, dw, dU, As, wE gq, aS, hw35, RG _ _ (.int .i64 ((q + 1 : Nat) : Int)) rfl, GU gq 1 [.int .i64 ((q + 1 : Nat) : Int)] (rfl) rfl, l0]
     exact rfl
    case k37 =>
    have hm := hm36
    generalize hs37 : S.put s1 fs _ = s38 at hm ⊢
    have g39 := hm.at 0 rfl
    refine cU ?_
    refine cU ?_
    refine hnext _ _ _ (by omega) ⟨q + 1, o, rfl, by omega, .inr (by omega), hm, ?_, ?_, ?_⟩
    ·simp only [ab, Nat.reduceEqDiff, reduceIte, l0] <;> rfl
    ·simp only [ab, Nat.reduceEqDiff, reduceIte, l2] <;> rfl
    ·simp only [ab, Nat.reduceEqDiff, reduceIte, l3] <;> rfl
end Go.AI.Lx
