/- The evaluator by which runs of the program are reckoned, and that it is sound: part 7. No conditions beyond those of the row. -/
import Derived.Test.YtkeaedhoaamfnaaGreatDoorA6
set_option linter.unusedVariables false
set_option linter.unusedSimpArgs false
noncomputable section
namespace Go.AI
theorem yu (acc : List Nat) (k : Nat) : ∀ (l : List Edge) (s : Nat), (l.foldl (fun s e => bif Region.binds .any e then Nat.lor s (Nat.lor (Nat.pow 2 e.on) (acc.getD e.on 0)) else s) s).testBit k = true ↔
 s.testBit k = true ∨ ∃ e ∈ l, Region.binds .any e = true ∧ (k = e.on ∨ (acc.getD e.on 0).testBit k = true)
 | [], s => by simp
 | e :: l, s => by
  rw [List.foldl_cons, yu acc k l]
  cases hb : Region.binds .any e with
  | false =>
   simp only [cond_false, List.mem_cons, exists_eq_or_imp, hb, Bool.false_eq_true, false_and, false_or]
  | true =>
   simp only [cond_true, List.mem_cons, exists_eq_or_imp, hb, true_and]
   have : (Nat.lor s (Nat.lor (Nat.pow 2 e.on) (acc.getD e.on 0))).testBit k = (s.testBit k || (decide (e.on = k) || (acc.getD e.on 0).testBit k)) := by
    show (s ||| (2 ^ e.on ||| acc.getD e.on 0)).testBit k = _
    rw [Nat.testBit_or, Nat.testBit_or, Nat.testBit_two_pow]
   rw [this]
   simp only [Bool.or_eq_true, decide_eq_true_eq]
   constructor
   ·rintro ((h | h | h) | h)
    ·exact .inl h
    ·exact .inr (.inl (.inl h.symm))
    ·exact .inr (.inl (.inr h))
    ·exact .inr (.inr h)
   ·rintro (h | (h | h) | h)
    ·exact .inl (.inl h)
    ·exact .inl (.inr (.inl h.symm))
    ·exact .inl (.inr (.inr h))
    ·exact .inr h
theorem Fi (o : Oper) (acc : List Nat) (k : Nat) : (po o acc).testBit k = true ↔ ∃ e ∈ o.after, Region.binds .any e = true ∧ (k = e.on ∨ (acc.getD e.on 0).testBit k = true) := by
 unfold po
 rw [yu]
 simp
theorem ry : ∀ (l : List Oper) (acc : List Nat), ∃ r, kz l acc = acc ++ r ∧ r.length = l.length ∧ ∀ j o, l[j]? = some o → r[j]? = some (po o (acc ++ r.take j))
 | [], acc => ⟨[], by simp [kz], rfl, fun j o h => by simp at h⟩
 | o :: l, acc => by
  obtain ⟨r, h1, h2, h3⟩ := ry l (acc ++ [po o acc])
  refine ⟨po o acc :: r, by simp [kz, h1], by simp [h2], fun j o' hj => ?_⟩
  cases j with
  | zero => simp at hj; subst hj; simp
  | succ j =>
   simp at hj
   have := h3 j o' hj
   simpa using this
def lA (ops : Array Oper) (i k : Nat) : Prop := ((kz ops.toList []).getD i 0).testBit k = true
theorem Ls {ops : Array Oper} {i : Nat} {o : Oper} (ho : ops[i]? = some o) : (kz ops.toList []).getD i 0 = po o ((kz ops.toList []).take i) := by
 obtain ⟨r, h1, h2, h3⟩ := ry ops.toList []
 rw [List.nil_append] at h1
 rw [h1]
 have := h3 i o (by simpa using ho)
 rw [List.nil_append] at this
 rw [List.getD_eq_getElem?_getD, this]
 rfl
def gr (ops : Array Oper) : Prop := ∀ i o, ops[i]? = some o → ∀ e ∈ o.after, Region.binds .any e = true → e.on < i
theorem xL {l : List Nat} {i j : Nat} (h : j < i) : (l.take i).getD j 0 = l.getD j 0 := by
 rw [List.getD_eq_getElem?_getD, List.getD_eq_getElem?_getD, List.getElem?_take_of_lt h]
theorem tE {ops : Array Oper} (hE : gr ops) {i k : Nat} {o : Oper} (ho : ops[i]? = some o) : lA ops i k ↔ ∃ e ∈ o.after, Region.binds .any e = true ∧ (k = e.on ∨ lA ops e.on k) := by
 unfold lA
 rw [Ls ho, Fi]
 constructor
 ·rintro ⟨e, h1, h2, h3⟩
  rw [xL (hE i o ho e h1 h2)] at h3
  exact ⟨e, h1, h2, h3⟩
 ·rintro ⟨e, h1, h2, h3⟩
  refine ⟨e, h1, h2, ?_⟩
  rw [xL (hE i o ho e h1 h2)]
  exact h3
theorem Hn {ops : Array Oper} {i k : Nat} (h : lA ops i k) : ∃ o, ops[i]? = some o := by
 cases ho : ops[i]? with
 | some o => exact ⟨o, rfl⟩
 | none =>
  exfalso
  unfold lA at h
  obtain ⟨r, h1, h2, h3⟩ := ry ops.toList []
  rw [List.nil_append] at h1
  have hi : ops.size ≤ i := by
   rcases Nat.lt_or_ge i ops.size with h' | h'
   ·rw [Array.getElem?_eq_getElem h'] at ho; cases ho
   ·exact h'
  rw [h1, List.getD_eq_getElem?_getD, List.getElem?_eq_none (by rw [h2]; simpa using hi)] at h
  simp at h
theorem rp {ops : Array Oper} (hE : gr ops) : ∀ (i k : Nat), lA ops i k → k < i := by
 intro i
 induction i using Nat.strongRecOn with
 | ind i ih =>
  intro k h
  obtain ⟨o, ho⟩ := Hn h
  obtain ⟨e, h1, h2, h3⟩ := (tE hE ho).1 h
  have hb := hE i o ho e h1 h2
  rcases h3 with rfl | h3
  ·exact hb
  ·exact Nat.lt_trans (ih e.on hb k h3) hb
theorem rn {ops : Array Oper} (hE : gr ops) : ∀ (i k m : Nat), lA ops i k → lA ops k m → lA ops i m := by
 intro i
 induction i using Nat.strongRecOn with
 | ind i ih =>
  intro k m h hm
  obtain ⟨o, ho⟩ := Hn h
  obtain ⟨e, h1, h2, h3⟩ := (tE hE ho).1 h
  refine (tE hE ho).2 ⟨e, h1, h2, .inr ?_⟩
  rcases h3 with rfl | h3
  ·exact hm
  ·exact ih e.on (hE i o ho e h1 h2) k m h3 hm
theorem uR : ∀ {l : List Oper} {i k : Nat} {o : Oper}, (k, o) ∈ dz l i ↔ i ≤ k ∧ l[k - i]? = some o
 | [], i, k, o => by simp [dz]
 | x :: l, i, k, o => by
  simp only [dz, List.mem_cons, Prod.mk.injEq]
  rw [uR (l := l) (i := i + 1)]
  constructor
  ·rintro (⟨rfl, rfl⟩ | ⟨h1, h2⟩)
   ·simp
   ·exact ⟨by omega, by rw [show k - i = (k - (i + 1)) + 1 by omega]; simpa using h2⟩
  ·rintro ⟨h1, h2⟩
   by_cases hk : k = i
   ·left; subst hk; simp at h2; exact ⟨rfl, h2.symm⟩
   ·right; refine ⟨by omega, ?_⟩
    rw [show k - i = (k - (i + 1)) + 1 by omega] at h2; simpa using h2
theorem ej {ops : Array Oper} {k : Nat} {o : Oper} : (k, o) ∈ dz ops.toList 0 ↔ ops[k]? = some o := by
 rw [uR]; simp
structure ke (ops : Array Oper) : Prop where
 back : gr ops
 guard : ∀ (i : Nat) (o : Oper) (g : Nat) (b : Bool), ops[i]? = some o → o.guard = some (g, b) → lA ops i g
 dst : ∀ (i j : Nat) (o q : Oper) (d : Tmp), ops[i]? = some o → ops[j]? = some q → i ≠ j → q.dst = some d → o.dst ≠ some d
 sees : ∀ (i j : Nat) (o q : Oper) (d : Tmp), ops[i]? = some o → ops[j]? = some q → i ≠ j → q.dst = some d → d ∈ sees o → lA ops i j ∨ lA ops j i
theorem Dn {ops : Array Oper} (h : FK (kz ops.toList []) (dz ops.toList 0) = true) : ke ops := by
 have key : ∀ i o, ops[i]? = some o → _ := fun i o ho => List.all_eq_true.1 h (i, o) (ej.2 ho)
 refine ⟨fun i o ho e he hb => ?_, fun i o g b ho hg => ?_, fun i j o q d ho hq hij hd => ?_, fun i j o q d ho hq hij hd hs => ?_⟩
 ·have := key i o ho
  simp only [Bool.and_eq_true] at this
  have h2 := List.all_eq_true.1 this.1.1 e (by simpa using he)
  rw [hb] at h2
  exact kY (by simpa using h2)
 ·have := key i o ho
  simp only [Bool.and_eq_true] at this
  have h2 := this.1.2
  rw [hg] at h2
  exact h2
 ·have := key i o ho
  simp only [Bool.and_eq_true] at this
  have h2 := List.all_eq_true.1 this.2 (j, q) (ej.2 hq)
  have hb : Nat.beq i j = false := by
   cases hb : Nat.beq i j with
   | false => rfl
   | true => exact absurd (Nat.eq_of_beq_eq_true hb) hij
  simp only [hb, hd, Bool.false_or, Bool.and_eq_true] at h2
  intro hc
  rw [hc] at h2
  simp at h2
 ·have := key i o ho
  simp only [Bool.and_eq_true] at this
  have h2 := List.all_eq_true.1 this.2 (j, q) (ej.2 hq)
  have hb : Nat.beq i j = false := by
   cases hb : Nat.beq i j with
   | false => rfl
   | true => exact absurd (Nat.eq_of_beq_eq_true hb) hij
  simp only [hb, hd, Bool.false_or, Bool.and_eq_true] at h2
  have h3 := h2.2
  have hc : (sees o).contains d = true := by simpa using hs
  rw [hc] at h3
  simp only [Bool.not_true, Bool.false_or, Bool.or_eq_true] at h3
  exact h3
def ST (ops : Array Oper) (t0 : T V) (val : Nat → V) (R : Nat → Prop) (d : Tmp) (x : Option V) : Prop :=
 (∃ q o, ops[q]? = some o ∧ o.dst = some d ∧ R q ∧ x = some (val q)) ∨ ((∀ q o, ops[q]? = some o → o.dst = some d → ¬ R q) ∧ x = t0.get (eT d))
def SL (ops : Array Oper) (t0 : T V) (val : Nat → V) (R : Nat → Prop) (t : T V) : Prop := ∀ d, ST ops t0 val R d (t.get (eT d))
def iZ (ops : Array Oper) (R : Nat → Prop) : Prop := ∀ i k, R i → lA ops i k → R k
def with1 (R : Nat → Prop) (i : Nat) : Nat → Prop := fun k => R k ∨ k = i
theorem iZ.with1 {ops : Array Oper} {R : Nat → Prop} (h : iZ ops R) {i : Nat} (hi : ∀ k, lA ops i k → R k) : iZ ops (with1 R i) := by
 intro a k ha hk
 rcases ha with ha | rfl
 ·exact .inl (h a k ha hk)
 ·exact .inl (hi k hk)
theorem SL.none {ops : Array Oper} {t0 : T V} {val : Nat → V} {R : Nat → Prop} (h : ∀ q, ¬ R q) : SL ops t0 val R t0 := fun d => .inr ⟨fun q _ _ _ => h q, rfl⟩
theorem vE (t : T V) (d : Option Tmp) (v : V) (i : Nat) : (putD t d v).get (eT i) = if d = some i then some v else t.get (eT i) := LP t d (some v) i
theorem SL.put {ops : Array Oper} (hD : ke ops) {t0 : T V} {val : Nat → V} {R : Nat → Prop} {t : T V} (h : SL ops t0 val R t) {i : Nat} {o : Oper} (ho : ops[i]? = some o) : SL ops t0 val (with1 R i) (putD t o.dst (val i)) := by
 intro d
 rw [vE]
 by_cases hd : o.dst = some d
 ·rw [if_pos hd]
  exact .inl ⟨i, o, ho, hd, .inr rfl, rfl⟩
 ·rw [if_neg hd]
  rcases h d with ⟨q, oq, h1, h2, h3, h4⟩ | ⟨h1, h2⟩
  ·exact .inl ⟨q, oq, h1, h2, .inl h3, h4⟩
  ·refine .inr ⟨fun q oq hq hdq hr => ?_, h2⟩
   rcases hr with hr | rfl
   ·exact h1 q oq hq hdq hr
   ·rw [ho] at hq; cases hq; exact hd hdq
mutual
theorem uB : ∀ {x y : V}, ba.sameV x y = true → x = y
 | .bool a, y, h => by cases y <;> simp [ba.sameV] at h; rw [h]
 | .int j a, y, h => by cases y <;> simp [ba.sameV] at h; rw [h.1, h.2]
 | .str a, y, h => by cases y <;> simp [ba.sameV] at h; rw [h]
 | .ptr a, y, h => by
  cases y <;> simp [ba.sameV] at h
  rename_i b
  obtain ⟨⟨h1, h2⟩, h3⟩ := h
  cases a; cases b; simp_all
 | .nilptr, y, h => by cases y <;> simp [ba.sameV] at h; rfl
 | .slice a z n c sz, y, h => by
  cases y <;> simp [ba.sameV] at h
  rename_i b y m d sy
  cases a; cases b; simp_all
 | .nilslice, y, h => by cases y <;> simp [ba.sameV] at h; rfl
 | .map a, y, h => by cases y <;> simp [ba.sameV] at h; rw [h]
 | .nilmap, y, h => by cases y <;> simp [ba.sameV] at h; rfl
 | .nilFunc, y, h => by cases y <;> simp [ba.sameV] at h; rfl
 | .nilIface, y, h => by cases y <;> simp [ba.sameV] at h; rfl
 | .func f a b, y, h => by
  cases y <;> simp [ba.sameV] at h
  rename_i g c d
  obtain ⟨⟨h1, h2⟩, h3⟩ := h
  rw [h1, cw h2, cw h3]
 | .iface t v, y, h => by
  cases y <;> simp [ba.sameV] at h
  rw [h.1, uB h.2]
 | .agg a, y, h => by
  cases y <;> simp [ba.sameV] at h
  rw [cw h]
 | .atom a, y, h => by cases y <;> simp [ba.sameV] at h; rw [h]
 | .tuple a, y, h => by
  cases y <;> simp [ba.sameV] at h
  rw [cw h]
theorem cw : ∀ {x y : List V}, ba x y = true → x = y
 | [], y, h => by cases y <;> simp [ba] at h; rfl
 | v :: x, y, h => by
  cases y with
  | nil => simp [ba] at h
  | cons u y =>
   simp only [ba, Bool.and_eq_true] at h
   rw [uB h.1, cw h.2]
end
theorem lU {E : cg} {t : T V} {o : Oper} : ∀ {l : List S} {v : V}, du E t o l = some v → ∀ s ∈ l, ∃ s1, dV E t s o = some (.val v s1)
 | [], v, h => by cases h
 | [s], v, h => fun s' hs => by
  simp at hs; subst hs
  simp only [du] at h
  split at h
  ·rename_i u s1 hu; cases h; exact ⟨s1, hu⟩
  ·cases h
 | s :: s2 :: r, v, h => fun s' hs => by
  simp only [du] at h
  split at h
  ·rename_i u s1 hu
   split at h
   ·rename_i y hy
    cases hb : ba [u] [y] with
    | false => rw [hb] at h; cases h
    | true =>
     rw [hb] at h
     cases h
     have := cw hb
     simp at this
     subst this
     rcases List.mem_cons.1 hs with rfl | hs
     ·exact ⟨s1, hu⟩
     ·exact lU hy s' hs
   ·cases h
  ·cases h
theorem vM {E : cg} {rec : fu} {t : T V} {s : S} {o : Oper} {b : Option Bool} {v : V} {s' : S} : kW E rec t s o b = some (.val v s') ↔ dH E rec t s o b = some (v, s') := by
 cases b with
 | none => simp [kW, dH]
 | some b => cases b with
  | false => simp [kW, dH]
  | true =>
   simp only [kW, dH]
   cases dV E t s o with
   | none => simp [pC, kG]
   | some x => cases x with
    | enter f args s1 =>
     simp only [pC, kG]
     cases rec f args none s1 with
     | none => simp [qF, nG]
     | some out => obtain ⟨e, u, s2⟩ := out; cases e <;> simp [qF, nG]
    | _ => simp [pC, kG]
structure Ev where
 i : Nat
 o : Oper
 v : V
 t : T V
 a : S
 b : S
section
variable (E : cg) (rec : fu) (ops : Array Oper) (t0 : T V) (s0 : S)
def kf (o : Oper) : Prop := al E.P o.op = 3
def cD : List Ev → S
 | [] => s0
 | e :: _ => e.b
def Ib : List Ev → Prop
 | [] => True
 | e :: _ => kf E e.o
def nR (Y : List Ev) (t : T V) : Prop := ∀ d, (∃ q ∈ Y, q.o.dst = some d ∧ t.get (eT d) = some q.v) ∨ ((∀ q ∈ Y, q.o.dst ≠ some d) ∧ t.get (eT d) = t0.get (eT d))
def Ry (Y : List Ev) (e : Ev) : Prop :=
 (al E.P e.o.op = 0 ∧ e.b = e.a ∧ ∃ s1, dV E e.t e.a e.o = some (.val e.v s1)) ∨
 (al E.P e.o.op = 1 ∧ e.b = e.a ∧ ∀ Z F, Y = Z ++ F → Ib E F → (∀ q ∈ Z, kf E q.o → ¬ lA ops e.i q.i) → ∃ s1, dV E e.t (cD s0 F) e.o = some (.val e.v s1)) ∨
 (al E.P e.o.op = 2 ∧ dV E e.t e.a e.o = some (.val e.v e.b))
def MK (Y : List Ev) (e : Ev) : Prop :=
 (¬ kf E e.o ∧ ((aM ops e.t e.o = some false ∧ e.v = V.undef ∧ e.b = e.a) ∨ (aM ops e.t e.o = some true ∧ Ry E ops s0 Y e))) ∨
 (kf E e.o ∧ dH E rec e.t e.a e.o (aM ops e.t e.o) = some (e.v, e.b) ∧ e.a.next ≤ e.b.next ∧ ∀ q ∈ Y, lA ops e.i q.i)
structure Bo (Y : List Ev) (e : Ev) : Prop where
 op : ops[e.i]? = some e.o
 pre : ∀ k, lA ops e.i k → ∃ q ∈ Y, q.i = k
 new : ∀ q ∈ Y, q.i ≠ e.i
 slots : nR t0 Y e.t
 st : e.a = cD s0 Y
 step : MK E rec ops s0 Y e
def ei : List Ev → Prop
 | [] => True
 | e :: Y => Bo E rec ops t0 s0 Y e ∧ ei Y
def dQ (n : Nat) : List Ev → List (Nat × S)
 | [] => [(n, s0)]
 | e :: Y => if al E.P e.o.op = 3 then (e.i, e.b) :: dQ n Y else dQ n Y
end
section
variable {E : cg} {rec : fu} {ops : Array Oper} {t0 : T V} {s0 : S}
theorem nR.put {Y : List Ev} {t : T V} (h : nR t0 Y t) (e : Ev) : nR t0 (e :: Y) (putD t e.o.dst e.v) := by
 intro d
 rw [vE]
 by_cases hd : e.o.dst = some d
 ·rw [if_pos hd]
  exact .inl ⟨e, by simp, hd, rfl⟩
 ·rw [if_neg hd]
  rcases h d with ⟨q, h1, h2, h3⟩ | ⟨h1, h2⟩
  ·exact .inl ⟨q, List.mem_cons_of_mem _ h1, h2, h3⟩
  ·refine .inr ⟨fun q hq => ?_, h2⟩
   rcases List.mem_cons.1 hq with rfl | hq
   ·exact hd
   ·exact h1 q hq
theorem vB {m n : Nat} : ∀ {Z F : List Ev}, Ib E F → (∀ q ∈ Z, kf E q.o → ¬ m.testBit q.i = true) → cD s0 F ∈ ns m (dQ E s0 n (Z ++ F))
 | [], [], _, _ => by simp [dQ, ns, cD]
 | [], e :: F, h, _ => by
  have h : al E.P e.o.op = 3 := h
  simp [dQ, h, ns, cD]
 | z :: Z, F, h, hz => by
  have ih := vB (n := n) (Z := Z) h (fun q hq => hz q (List.mem_cons_of_mem _ hq))
  simp only [List.cons_append, dQ]
  split
  ·rename_i hk
   have := hz z (by simp) hk
   have hb : m.testBit z.i = false := by simpa using this
   simp only [ns, hb, cond_false]
   exact List.mem_cons_of_mem _ ih
  ·exact ih
theorem Az {ms : List Nat} (hms : ms = kz ops.toList []) {Y : List Ev} {t : T V} {s : S} {i n : Nat} {o : Oper} {v : V} {s' : S} (hk : ¬ kf E o)
 (hs : s = cD s0 Y) (e : jw E (dQ E s0 n Y) (ms.getD i 0) t s o (aM ops t o) = some (v, s')) : MK E rec ops s0 Y ⟨i, o, v, t, s, s'⟩ := by
 left
 refine ⟨hk, ?_⟩
 unfold jw at e
 split at e
 ·rename_i hw
  right
  refine ⟨hw, ?_⟩
  unfold AA at e
  split at e
  ·rename_i hk0
   left
   unfold pO at e
   split at e
   ·rename_i u s1 hu; cases e; exact ⟨hk0, rfl, s1, hu⟩
   ·cases e
  ·rename_i hk1
   right; left
   unfold jI at e
   split at e
   ·rename_i u hu
    cases e
    refine ⟨hk1, rfl, fun Z F hY hF hZ => ?_⟩
    subst hY
    refine lU hu _ (vB hF fun q hq ha hb => hZ q hq ha ?_)
    subst hms
    exact hb
   ·cases e
  ·rename_i hk2
   right; right
   unfold pP at e
   split at e
   ·rename_i u s1 hu; cases e; exact ⟨hk2, hu⟩
   ·cases e
  ·cases e
 ·rename_i hw
  cases e
  exact .inl ⟨hw, rfl, rfl⟩
 ·cases e
theorem jC (d i k : Nat) : (Nat.lor d (Nat.pow 2 i)).testBit k = (d.testBit k || decide (i = k)) := by
 show (d ||| 2 ^ i).testBit k = _
 rw [Nat.testBit_or, Nat.testBit_two_pow]
def se (done : Nat) (Y : List Ev) : Prop := ∀ k, done.testBit k = true ↔ ∃ q ∈ Y, q.i = k
theorem se.cons {done : Nat} {Y : List Ev} (h : se done Y) (e : Ev) : se (Nat.lor done (Nat.pow 2 e.i)) (e :: Y) := by
 intro k
 rw [jC, Bool.or_eq_true, h k]
 simp only [decide_eq_true_eq]
 constructor
 ·rintro (⟨q, h1, h2⟩ | h)
  ·exact ⟨q, List.mem_cons_of_mem _ h1, h2⟩
  ·exact ⟨e, by simp, h⟩
 ·rintro ⟨q, hq, h2⟩
  rcases List.mem_cons.1 hq with rfl | hq
  ·exact .inr h2
  ·exact .inl ⟨q, hq, h2⟩
structure St (E : cg) (rec : fu) (ops : Array Oper) (t0 : T V) (s0 : S) (Y : List Ev) (done : Nat) (t : T V) (s : S) : Prop where
 run : ei E rec ops t0 s0 Y
 done : se done Y
 slots : nR t0 Y t
 st : s = cD s0 Y
theorem kS {n : Nat} : ∀ {Z Y : List Ev}, (∀ q ∈ Z, ¬ kf E q.o) → dQ E s0 n (Z ++ Y) = dQ E s0 n Y
 | [], _, _ => rfl
 | z :: Z, Y, h => by
  have hz : ¬ al E.P z.o.op = 3 := h z (by simp)
  simp only [List.cons_append, dQ, if_neg hz]
  exact kS fun q hq => h q (List.mem_cons_of_mem _ hq)
theorem nj (hE : gr ops) {ms : List Nat} (hms : ms = kz ops.toList []) {effs : Nat} (heffs : ∀ i o, ops[i]? = some o → kf E o → effs.testBit i = true) {m n : Nat} (hm : ∀ i k, m.testBit i = true → lA ops i k → m.testBit k = true) {Y0 : List Ev} :
 ∀ (l : List Oper) (i : Nat), ops.toList.drop i = l → ∀ (Y : List Ev) (done : Nat) (t : T V) (s : S), St E rec ops t0 s0 Y done t s → dQ E s0 n Y = dQ E s0 n Y0 → (∀ k, k < i → m.testBit k = true → done.testBit k = true) →
  ∀ done' t' s', dl E ops ms effs (dQ E s0 n Y0) m (dz l i) done t s = some (done', t', s') →
   ∃ Z, St E rec ops t0 s0 (Z ++ Y) done' t' s' ∧ (∀ q ∈ Z, ¬ kf E q.o ∧ m.testBit q.i = true) ∧ ∀ k, k < ops.size → m.testBit k = true → done'.testBit k = true
 | [], i, hl, Y, done, t, s, hS, hh, hd, done', t', s', e => by
  simp only [dz, dl, Option.some.injEq, Prod.mk.injEq] at e
  obtain ⟨rfl, rfl, rfl⟩ := e
  refine ⟨[], hS, by simp, fun k hk hb => hd k ?_ hb⟩
  have := List.drop_eq_nil_iff.1 hl
  simp at this
  omega
 | o :: l, i, hl, Y, done, t, s, hS, hh, hd, done', t', s', e => by
  have ho : ops[i]? = some o := by
   have : (ops.toList.drop i)[0]? = some o := by rw [hl]; rfl
   simpa using this
  have hl' : ops.toList.drop (i + 1) = l := by
   rw [← List.tail_drop, hl]; rfl
  simp only [dz, dl] at e
  cases hb : (!(m.testBit i) || done.testBit i) with
  | true =>
   rw [hb] at e
   simp only [cond_true] at e
   refine nj hE hms heffs hm l (i + 1) hl' Y done t s hS hh (fun k hk hkb => ?_) done' t' s' e
   by_cases hki : k = i
   ·subst hki; rw [hkb] at hb; simpa using hb
   ·exact hd k (by omega) hkb
  | false =>
   rw [hb] at e
   simp only [cond_false] at e
   simp only [Bool.or_eq_false_iff, Bool.not_eq_false'] at hb
   cases hf : effs.testBit i with
   | true => rw [hf] at e; cases e
   | false =>
    rw [hf] at e
    simp only [cond_false] at e
    have hk : ¬ kf E o := fun h => by have := heffs i o ho h; rw [hf] at this; cases this
    split at e
    ·rename_i v s1 hfl
     rw [cV] at e
     have hev : Bo E rec ops t0 s0 Y ⟨i, o, v, t, s, s1⟩ := by
      refine ⟨ho, fun k hk => (hS.done k).1 (hd k (rp hE i k hk) (hm i k hb.1 hk)), fun q hq hqi => ?_, hS.slots, hS.st, ?_⟩
      ·have := (hS.done i).2 ⟨q, hq, hqi⟩
       rw [hb.2] at this; cases this
      ·rw [← hh] at hfl
       exact Az hms hk hS.st hfl
     have hS' : St E rec ops t0 s0 (⟨i, o, v, t, s, s1⟩ :: Y) (Nat.lor done (Nat.pow 2 i)) (putD t o.dst v) s1 := ⟨⟨hev, hS.run⟩, hS.done.cons ⟨i, o, v, t, s, s1⟩, hS.slots.put ⟨i, o, v, t, s, s1⟩, rfl⟩
     have hhist : dQ E s0 n (⟨i, o, v, t, s, s1⟩ :: Y) = dQ E s0 n Y0 := by
      have hk' : ¬ al E.P o.op = 3 := hk
      simp only [dQ, if_neg hk']; exact hh
     obtain ⟨Z, h1, h2, h3⟩ := nj hE hms heffs hm l (i + 1) hl' _ _ _ _ hS' hhist (fun k hk' hkb => by
      rw [jC]
      by_cases hki : i = k
      ·simp [hki]
      ·rw [hd k (by omega) hkb]; rfl) done' t' s' e
     refine ⟨Z ++ [⟨i, o, v, t, s, s1⟩], by simpa using h1, fun q hq => ?_, h3⟩
     rcases List.mem_append.1 hq with hq | hq
     ·exact h2 q hq
     ·simp at hq; subst hq; exact ⟨hk, hb.1⟩
    ·cases e
def Rz (ops : Array Oper) : List Ev → Prop
 | [] => True
 | e :: Y => ∀ q ∈ Y, lA ops e.i q.i
theorem ei.at : ∀ {X : List Ev} {e : Ev} {Y : List Ev}, ei E rec ops t0 s0 (X ++ e :: Y) → Bo E rec ops t0 s0 Y e ∧ ei E rec ops t0 s0 Y
 | [], _, _, h => h
 | _ :: _, _, _, h => ei.at h.2
def MN (E : cg) (rec : fu) (ops : Array Oper) (t0 : T V) (s0 : S) (ds : List dT) (up : Option Md) (r : fv) : Prop :=
 ∃ (i : Nat) (o : Oper) (Z Y : List Ev) (done : Nat) (t1 : T V) (c : List tX) (s2 : S),
  r = .panicked c (fS done (dz ops.toList 0) t1) ds up s2 ∧ ops[i]? = some o ∧ kf E o ∧ ei E rec ops t0 s0 (Z ++ Y) ∧ se done Y ∧ nR t0 Y t1 ∧
  kW E rec t1 (cD s0 Y) o (aM ops t1 o) = some (.pan c s2) ∧ (∀ q ∈ Y, lA ops i q.i) ∧ (∀ k, lA ops i k → ∃ q ∈ Y, q.i = k) ∧ (∀ q ∈ Z, ¬ kf E q.o) ∧ (∀ q ∈ Z ++ Y, q.i ≠ i) ∧
  ∀ k, k < ops.size → k ≠ i → ¬ lA ops k i → ∃ q ∈ Z ++ Y, q.i = k
theorem qy {ms : List Nat} {i k : Nat} : ∀ {l : List (Nat × Oper)}, (eA ms i l).testBit k = true ↔ (∃ x ∈ l, x.1 = k) ∧ (ms.getD k 0).testBit i = false ∧ k ≠ i
 | [] => by simp [eA]
 | (a, o) :: r => by
  simp only [eA]
  have ih := qy (ms := ms) (i := i) (k := k) (l := r)
  cases hb : ((ms.getD a 0).testBit i || Nat.beq a i) with
  | true =>
   simp only [cond_true]
   rw [ih]
   constructor
   ·rintro ⟨⟨x, h1, h2⟩, h3⟩
    exact ⟨⟨x, List.mem_cons_of_mem _ h1, h2⟩, h3⟩
   ·rintro ⟨⟨x, h1, h2⟩, h3, h4⟩
    rcases List.mem_cons.1 h1 with rfl | h1
    ·exfalso
     simp only at h2
     subst h2
     simp only [Bool.or_eq_true] at hb
     rcases hb with hb | hb
     ·rw [h3] at hb; cases hb
     ·exact h4 (Nat.eq_of_beq_eq_true hb)
    ·exact ⟨⟨x, h1, h2⟩, h3, h4⟩
  | false =>
   simp only [cond_false]
   have hor : (Nat.lor (Nat.pow 2 a) (eA ms i r)).testBit k = (decide (a = k) || (eA ms i r).testBit k) := by
    show (2 ^ a ||| eA ms i r).testBit k = _
    rw [Nat.testBit_or, Nat.testBit_two_pow]
   rw [hor, Bool.or_eq_true, ih]
   simp only [Bool.or_eq_false_iff] at hb
   constructor
   ·rintro (h | ⟨⟨x, h1, h2⟩, h3⟩)
    ·have h : a = k := by simpa using h
     subst h
     refine ⟨⟨(a, o), by simp, rfl⟩, hb.1, fun h => ?_⟩
     have h2 := hb.2
     rw [h, Nat.beq_refl] at h2; cases h2
    ·exact ⟨⟨x, List.mem_cons_of_mem _ h1, h2⟩, h3⟩
   ·rintro ⟨⟨x, h1, h2⟩, h3⟩
    rcases List.mem_cons.1 h1 with rfl | h1
    ·exact .inl (by simpa using h2)
    ·exact .inr ⟨⟨x, h1, h2⟩, h3⟩
theorem HN (hE : gr ops) {ms : List Nat} (hms : ms = kz ops.toList []) {effs n : Nat} (heffs : ∀ i o, ops[i]? = some o → kf E o → effs.testBit i = true) {ds : List dT} {up : Option Md} :
 ∀ (es : List (Nat × Oper)), (∀ x ∈ es, ops[x.1]? = some x.2 ∧ kf E x.2) → yD ms (es.map (·.1)) = true → ∀ (Y : List Ev) (done : Nat) (t : T V) (s : S), St E rec ops t0 s0 Y done t s → Ib E Y → Rz ops Y →
  (∀ e Y' x r, Y = e :: Y' → es = x :: r → lA ops x.1 e.i) → ∀ r, gH E ops ms effs (dz ops.toList 0) rec ds up es (dQ E s0 n Y) done t s = some r →
   (∃ L t' s', r = .on t' ds up s' ∧ ei E rec ops t0 s0 L ∧ nR t0 L t' ∧ s' = cD s0 L ∧ ∀ k, k < ops.size → ∃ q ∈ L, q.i = k) ∨ MN E rec ops t0 s0 ds up r
 | [], hes, hef, Y, done, t, s, hS, hF, hB, hP, r, e => by
  simp only [gH] at e
  split at e
  ·rename_i d1 t1 s1 hp
   cases e
   have hbits : ∀ k, (Nat.pow 2 ops.size - 1).testBit k = decide (k < ops.size) := fun k => by
    show (2 ^ ops.size - 1).testBit k = _
    rw [Nat.testBit_two_pow_sub_one]
   obtain ⟨Z, h1, h2, h3⟩ := nj hE hms heffs (m := Nat.pow 2 ops.size - 1) (n := n) (fun i k hi hk => by
    rw [hbits] at hi ⊢
    have := rp hE i k hk
    simp at hi ⊢; omega) ops.toList 0 rfl Y done t s hS rfl (fun k hk => absurd hk (Nat.not_lt_zero _)) _ _ _ hp
   refine .inl ⟨_, t1, s1, rfl, h1.run, h1.slots, h1.st, fun k hk => (h1.done k).1 (h3 k hk ?_)⟩
   rw [hbits]; simpa using hk
  ·cases e
 | (i, o) :: r', hes, hef, Y, done, t, s, hS, hF, hB, hP, r, e => by
  simp only [gH] at e
  obtain ⟨ho, hk⟩ := hes (i, o) (by simp)
  simp only at ho hk
  have hpre : ∀ k, (ms.getD i 0).testBit k = true ↔ lA ops i k := fun k => by subst hms; rfl
  split at e
  ·rename_i d1 t1 s1 hp
   obtain ⟨Z, h1, h2, h3⟩ := nj hE hms heffs (m := ms.getD i 0) (n := n) (fun a k ha hk => by
    rw [hpre] at ha ⊢
    exact rn hE i a k ha hk) ops.toList 0 rfl Y done t s hS rfl (fun k hk => absurd hk (Nat.not_lt_zero _)) _ _ _ hp
   have hall : ∀ q ∈ Z ++ Y, lA ops i q.i := by
    intro q hq
    rcases List.mem_append.1 hq with hq | hq
    ·exact (hpre _).1 (h2 q hq).2
    ·cases Y with
     | nil => cases hq
     | cons e0 Y' =>
      have h0 := hP e0 Y' (i, o) r' rfl rfl
      rcases List.mem_cons.1 hq with rfl | hq
      ·exact h0
      ·exact rn hE i e0.i q.i h0 (hB q hq)
   have hisz : i < ops.size := by
    rcases Nat.lt_or_ge i ops.size with h | h
    ·exact h
    ·rw [Array.getElem?_eq_none h] at ho; cases ho
   split at e
   ·rename_i v s2 hst0
    have hst := vM.1 hst0
    cases hc : (Nat.ble s1.next s2.next && !(d1.testBit i) && effs.testBit i) with
    | false => rw [hc] at e; cases e
    | true =>
     rw [hc] at e
     simp only [cond_true] at e
     rw [cV] at e
     simp only [Bool.and_eq_true, Bool.not_eq_true'] at hc
     have hev : Bo E rec ops t0 s0 (Z ++ Y) ⟨i, o, v, t1, s1, s2⟩ := by
      refine ⟨ho, fun k hk => (h1.done k).1 (h3 k ?_ ((hpre k).2 hk)), fun q hq hqi => ?_, h1.slots, h1.st, .inr ⟨hk, hst, Nat.le_of_ble_eq_true hc.1.1, hall⟩⟩
      ·have := rp hE i k hk
       have : i < ops.size := by
        rcases Nat.lt_or_ge i ops.size with h | h
        ·exact h
        ·rw [Array.getElem?_eq_none h] at ho; cases ho
       omega
      ·have := (h1.done i).2 ⟨q, hq, hqi⟩
       rw [hc.1.2] at this; cases this
     have hhist : dQ E s0 n (⟨i, o, v, t1, s1, s2⟩ :: (Z ++ Y)) = (i, s2) :: dQ E s0 n Y := by
      have hk' : al E.P o.op = 3 := hk
      simp only [dQ, if_pos hk']
      rw [kS fun q hq => (h2 q hq).1]
     rw [← hhist] at e
     refine HN hE hms heffs r' (fun x hx => hes x (List.mem_cons_of_mem _ hx)) ?_ (⟨i, o, v, t1, s1, s2⟩ :: (Z ++ Y)) _ _ _ ⟨⟨hev, h1.run⟩, h1.done.cons ⟨i, o, v, t1, s1, s2⟩, h1.slots.put ⟨i, o, v, t1, s1, s2⟩, rfl⟩ hk hall ?_ r e
     ·cases r' with
      | nil => rfl
      | cons x r'' =>
       simp only [List.map_cons, yD, Bool.and_eq_true] at hef
       exact hef.2
     ·intro e1 Y1 x r1 hY hr
      cases hY; subst hr
      simp only [List.map_cons, yD, Bool.and_eq_true] at hef
      have := hef.1
      subst hms
      exact this
   ·rename_i c s2 hst
    cases hdi : d1.testBit i with
    | true => rw [hdi] at e; cases e
    | false =>
     rw [hdi] at e
     simp only [cond_false] at e
     cases hph : dl E ops ms effs (dQ E s0 n Y) (eA ms i (dz ops.toList 0)) (dz ops.toList 0) d1 t1 s1 with
     | none => rw [hph] at e; cases e
     | some x =>
      rw [hph] at e
      obtain ⟨d2, t2, s3⟩ := x
      simp only [Lf, Option.some.injEq] at e
      have hfm : ∀ k, (eA ms i (dz ops.toList 0)).testBit k = true ↔ (∃ x ∈ dz ops.toList 0, x.1 = k) ∧ ¬ lA ops k i ∧ k ≠ i := fun k => by
       rw [qy]
       have : (ms.getD k 0).testBit i = false ↔ ¬ lA ops k i := by
        rw [← Bool.not_eq_true]; subst hms; exact Iff.rfl
       rw [this]
      have hh1 : dQ E s0 n (Z ++ Y) = dQ E s0 n Y := kS fun q hq => (h2 q hq).1
      obtain ⟨Z2, g1, g2, g3⟩ := nj hE hms heffs (m := eA ms i (dz ops.toList 0)) (n := n) (Y0 := Y) (fun a k ha hk => by
       rw [hfm] at ha ⊢
       obtain ⟨⟨x, x1, x2⟩, p1, p2⟩ := ha
       have hka := rp hE a k hk
       refine ⟨?_, fun hki => p1 (rn hE a k i hk hki), fun hki => p1 (by rw [← hki]; exact hk)⟩
       have hxa : ops[a]? = some x.2 := by rw [← x2]; exact ej.1 x1
       have : a < ops.size := by
        rcases Nat.lt_or_ge a ops.size with h | h
        ·exact h
        ·rw [Array.getElem?_eq_none h] at hxa; cases hxa
       exact ⟨(k, ops[k]'(by omega)), ej.2 (by simp), rfl⟩) ops.toList 0 rfl (Z ++ Y) d1 t1 s1 h1 hh1 (fun k hk => absurd hk (Nat.not_lt_zero _)) _ _ _ hph
      refine .inr ⟨i, o, Z2, Z ++ Y, d1, t1, c, s2, e.symm, ho, hk, g1.run, h1.done, h1.slots, by rw [← h1.st]; exact hst, hall, fun k hk => (h1.done k).1 (h3 k ?_ ((hpre k).2 hk)), fun q hq => (g2 q hq).1, fun q hq => ?_, fun k hks hki hp => ?_⟩
      ·have := rp hE i k hk
       omega
      ·rcases List.mem_append.1 hq with hq | hq
       ·exact ((hfm _).1 (g2 q hq).2).2.2
       ·have := rp hE i q.i (hall q hq)
        omega
      ·refine (g1.done k).1 (g3 k hks ((hfm k).2 ⟨⟨(k, ops[k]'hks), ej.2 (by simp [hks]), rfl⟩, hp, hki⟩))
   ·cases e
  ·cases e
theorem vG (k : Nat) : ∀ (es : List (Nat × Oper)) (s : Nat), (es.foldl (fun s x => Nat.lor s (Nat.pow 2 x.1)) s).testBit k = true ↔ s.testBit k = true ∨ ∃ x ∈ es, x.1 = k
 | [], s => by simp
 | x :: es, s => by
  rw [List.foldl_cons, vG k es, jC]
  simp only [Bool.or_eq_true, decide_eq_true_eq, List.mem_cons, exists_eq_or_imp]
  constructor
  ·rintro ((h | h) | h)
   ·exact .inl h
   ·exact .inr (.inl h)
   ·exact .inr (.inr h)
  ·rintro (h | h | h)
   ·exact .inl (.inl h)
   ·exact .inl (.inr h)
   ·exact .inr h
theorem AJ {t : T V} {ds : List dT} {up : Option Md} {s : S} {recR : pK} {r : fv} (e : gI E ops rec recR t ds up s = some r) :
 ke ops ∧ ((∃ L t' s', r = .on t' ds up s' ∧ ei E rec ops t s L ∧ nR t L t' ∧ s' = cD s L ∧ ∀ k, k < ops.size → ∃ q ∈ L, q.i = k) ∨ MN E rec ops t s ds up r) := by
 unfold gI at e
 split at e
 ·rename_i ms l es mask hp
  simp only [Le] at hp
  cases hc : (FK (kz ops.toList []) (dz ops.toList 0) && yD (kz ops.toList []) ((qE E.P (dz ops.toList 0)).map (·.1))) with
  | false => rw [hc] at hp; cases hp
  | true =>
   rw [hc] at hp
   simp only [cond_true, Option.some.injEq, Rx.mk.injEq] at hp
   obtain ⟨rfl, rfl, rfl, rfl⟩ := hp
   simp only [Bool.and_eq_true] at hc
   have hD := Dn hc.1
   refine ⟨hD, ?_⟩
   refine HN (n := ops.size) hD.back rfl (fun i o ho hk => ?_) _ (fun x hx => ?_) hc.2 [] 0 t s ⟨trivial, fun k => by simp, fun d => .inr ⟨by simp, rfl⟩, rfl⟩ trivial trivial (fun e Y' x r h => by cases h) r e
   ·rw [vG]
    refine .inr ⟨(i, o), ?_, rfl⟩
    unfold qE
    rw [List.mem_filter]
    have hk : al E.P o.op = 3 := hk
    exact ⟨ej.2 ho, by simp [hk]⟩
   ·unfold qE at hx
    rw [List.mem_filter] at hx
    obtain ⟨x1, x2⟩ := x
    exact ⟨ej.1 hx.1, by have h := hx.2; simp at h; exact h⟩
 ·cases e
end
def aq.to (ρ : aq) (n : Nat) : aq := fun f v => if f < n then ρ f v else none
theorem aq.to_le (ρ : aq) {n m : Nat} (h : n ≤ m) : (ρ.to n).le (ρ.to m) := fun f v l e => by
 unfold aq.to at e ⊢
 split at e
 ·rw [if_pos (by omega)]; exact e
 ·cases e
theorem aq.to_le_self (ρ : aq) (n : Nat) : (ρ.to n).le ρ := fun f v l e => by
 unfold aq.to at e
 split at e
 ·exact e
 ·cases e
theorem aq.to_mono {ρ ρ' : aq} (h : ρ.le ρ') (n : Nat) : (ρ.to n).le (ρ'.to n) := fun f v l e => by
 unfold aq.to at e ⊢
 split at e
 ·rename_i hf; rw [if_pos hf]; exact h _ _ _ e
 ·cases e
theorem aq.to_lt {ρ : aq} {n f v : Nat} {l : wF} (e : ρ.to n f v = some l) : f < n ∧ ρ f v = some l := by
 unfold aq.to at e
 split at e
 ·rename_i h; exact ⟨h, e⟩
 ·cases e
theorem aq.to_of {ρ : aq} {n f v : Nat} (h : f < n) : ρ.to n f v = ρ f v := by unfold aq.to; rw [if_pos h]
theorem aq.to_ge {ρ : aq} {n f v : Nat} (h : n ≤ f) : ρ.to n f v = none := by unfold aq.to; rw [if_neg (by omega)]
theorem aq.to_all {ρ : aq} {n : Nat} (h : ∀ f v, n ≤ f → ρ f v = none) : ρ.to n = ρ := by
 funext f v
 by_cases hf : f < n
 ·exact aq.to_of hf
 ·rw [aq.to_ge (by omega), h f v (by omega)]
theorem HR.frame {ρ : aq} {s : S} {w w' : World} (h : HR ρ s w) (hs : w.heap.size ≤ w'.heap.size) (hh : ∀ b, b < w.heap.size → w'.heap[b]? = w.heap[b]?) : HR ρ s w' :=
 ⟨h.fresh, h.inj, fun f v l e => Nat.lt_of_lt_of_le (h.low f v l e) hs, fun f B hB => (h.blk f B hB).keep ρ.le_refl (fun _ hv => hv) (fun v l e => hh _ (h.low _ _ _ e)), h.dom, h.rw⟩
def SZ (ρ : aq) : Prop := ∀ f v l f' v' l', ρ f v = some l → ρ f' v' = some l' → l.b = l'.b → f = f' ∧ l.base = l'.base
def SY (ρ : aq) (w : World) : Prop := ∀ f v l, ρ f v = some l → l.b < w.heap.size
theorem HR.widen {ρ : aq} {s : S} {w : World} {n : Nat} (h : HR (ρ.to s.next) s w) (hi : SZ ρ) (hl : SY ρ w) (hn : s.next ≤ n) : HR (ρ.to n) ⟨s.h, n⟩ w := by
 refine ⟨fun f v hf => aq.to_ge hf, fun f v l f' v' l' e e' => hi _ _ _ _ _ _ (aq.to_lt e).2 (aq.to_lt e').2, fun f v l e => hl _ _ _ (aq.to_lt e).2, fun f B hB => ?_, fun f B hB => Nat.lt_of_lt_of_le (h.dom f B (by rw [S.get_eq] at hB ⊢; exact hB)) hn, fun f B hB hnr v l hl => ?_⟩
 rotate_left
 ·have hB' : s.get f = some B := by rw [S.get_eq] at hB ⊢; exact hB
  exact h.rw f B hB' hnr v l (by rw [aq.to_of (h.dom f B hB')]; exact (aq.to_lt hl).2)
 have hB' : s.get f = some B := by rw [S.get_eq] at hB ⊢; exact hB
 have hf := h.dom f B hB'
 refine (h.blk f B hB').keep (aq.to_le ρ hn) (fun v hv => ?_) (fun _ _ _ => rfl)
 rw [aq.to_of hf] at hv
 rw [aq.to_of (by omega)]; exact hv
theorem HR.bare {ρ : aq} {w : World} {n : Nat} (hi : SZ ρ) (hl : SY ρ w) : HR (ρ.to n) ⟨.leaf, n⟩ w :=
 ⟨fun f v hf => aq.to_ge hf, fun f v l f' v' l' e e' => hi _ _ _ _ _ _ (aq.to_lt e).2 (aq.to_lt e').2, fun f v l e => hl _ _ _ (aq.to_lt e).2, fun f B hB => by (rw [S.get_eq, T.get_leaf] at hB; cases hB), fun f B hB => by (rw [S.get_eq, T.get_leaf] at hB; cases hB), fun f B hB => by (rw [S.get_eq, T.get_leaf] at hB; cases hB)⟩
theorem cL {s s' : S} {x : Option V} {v : V} {s1 : S} (e : bc s x = some (.val v s1)) : bc s' x = some (.val v s') := by
 cases x with
 | none => cases e
 | some u => cases e; rfl
theorem Ji {E : cg} {t : T V} {s : S} (s' : S) (o : Oper) (hk : al E.P o.op = 0) {v : V} {s1 : S} (e : dV E t s o = some (.val v s1)) : dV E t s' o = some (.val v s') := by
 obtain ⟨dst, op, type, pos, after, guard⟩ := o
 unfold dV at e ⊢
 simp only at e hk ⊢
 cases op <;> simp only [az] at e ⊢ <;> try (cases e; done)
 case move x => exact cL e
 case assign x => exact cL e
 case pick c a b =>
  unfold ip at e ⊢
  split at e
  ·exact cL e
  ·cases e
 case build ty parts => exact cL e
 case nilCheck x => exact cL e
 case binOp op ty x y z =>
  have hq : eE op = false := by
   simp only [al] at hk
   cases hb : eE op with
   | false => rfl
   | true => rw [hb] at hk; cases hk
  unfold cS at e ⊢
  cases hx : eval t x with
  | none => rw [hx] at e; cases e
  | some a =>
   cases hy : eval t y with
   | none => rw [hx, hy] at e; cases e
   | some b =>
    rw [hx, hy] at e
    simp only at e ⊢
    cases hg : bj E.P op ty x y a b with
    | false => rw [hg] at e; cases e
    | true =>
     rw [hg] at e
     simp only [cond_true] at e ⊢
     have : ∀ ok ok', bD E.P ok op ty a b = bD E.P ok' op ty a b := by
      intro ok ok'
      unfold bD
      split
      ·rfl
      ·rfl
      ·cases op <;> simp [eE] at hq <;> rfl
     rw [this (plainAt s') (plainAt s)]
     exact cL e
 case unOp op ty x => exact cL e
 case convert src dst x =>
  unfold fp at e ⊢
  split at e
  ·rename_i x' hx'
   unfold ff at e ⊢
   unfold iN at e ⊢
   cases hs : E.P.underlying src with
   | none => simp [hs] at e
   | some ds =>
    cases hd : E.P.underlying dst with
    | none => simp [hs, hd] at e
    | some dd =>
     simp only [hs, hd] at e ⊢
     cases dd <;> simp only at e ⊢ <;> try (cases e; done)
     case int k => cases x' <;> simp only at e ⊢ <;> first | (cases e; done) | (cases e; rfl)
     case string => simp [al, hd] at hk
     case slice el => simp [al, hd] at hk
  ·cases e
 case makeInterface ty x => exact cL e
 case makeFunc fn first cap => exact cL e
 case slice ty x lo hi mx => exact cL e
 case fieldAddr ty x f => exact cL e
 case field ty x f => exact cL e
 case indexAddr ty x i => exact cL e
 case index ty x i => exact cL e
 case typeAssert x xt ty ok => exact cL e
 case extract x i => exact cL e
 case call c =>
  simp only [al] at hk
  split at hk <;> cases hk
 all_goals (first | (simp [al] at hk; done) | (exfalso; revert hk; simp [al]))
def only (t : T V) : List Tmp → T V
 | [] => .leaf
 | d :: r => (only t r).set (t.get (eT d)) (eT d)
theorem nk (t : T V) : ∀ (l : List Tmp) (d : Tmp), (only t l).get (eT d) = if d ∈ l then t.get (eT d) else none
 | [], d => by simp [only, T.get_leaf]
 | x :: r, d => by
  simp only [only]
  rw [T.get_setN, nk t r d]
  by_cases h : x = d
  ·subst h; simp
  ·rw [if_neg h]
   have : d ≠ x := fun e => h e.symm
   simp [this]
def oi (ops : Array Oper) (o : Oper) : List Tmp := match o.guard with
 | some (j, _) => ((ops[j]?).bind (·.dst)).toList
 | none => []
def looks (ops : Array Oper) (o : Oper) : List Tmp := sees o ++ oi ops o
theorem IM {t : T V} {ops : Array Oper} {o : Oper} {x : Operand} (hx : x ∈ o.op.operands) : eval t x = eval (only t (looks ops o)) x := by
 cases x with
 | tmp d =>
  simp only [eval]
  rw [nk, if_pos]
  unfold looks sees
  refine List.mem_append.2 (.inl ?_)
  rw [List.mem_filterMap]
  exact ⟨.tmp d, by simpa using hx, rfl⟩
 | const v => rfl
 | global g => rfl
 | func f => rfl
theorem js {E : cg} {ops : Array Oper} {t : T V} {s : S} {o : Oper} : dV E (only t (looks ops o)) s o = dV E t s o :=
 (FG o fun _ hx => IM hx).symm
theorem kx {ops : Array Oper} {t : T V} {o : Oper} : aM ops (only t (looks ops o)) o = aM ops t o := by
 unfold aM
 split
 ·rfl
 ·rename_i j want hg
  split
  ·rename_i d hd
   rw [nk, if_pos]
   unfold looks oi
   refine List.mem_append.2 (.inr ?_)
   rw [hg]; simp [hd]
  ·rfl
theorem qT {α : Type} {c : Bool} {x : Option α} {y : α} (h : (bif c then x else none) = some y) : x = some y := by cases c <;> first | (cases h; done) | exact h
theorem FH {E : cg} {t : T V} {s : S} (o : Oper) (hk : al E.P o.op = 2) {v : V} {s1 : S} (e : dV E t s o = some (.val v s1)) : ∃ B, s1 = s.alloc B := by
 obtain ⟨dst, op, type, pos, after, guard⟩ := o
 unfold dV at e
 simp only at e hk
 cases op <;> simp only [az] at e <;> try (cases e; done)
 case alloc elem =>
  unfold eJ sD bS bV at e
  split at e
  ·cases e; exact ⟨_, rfl⟩
  ·cases e
 case box elem x =>
  unfold nL sD bS bV at e
  split at e
  ·cases e; exact ⟨_, rfl⟩
  ·cases e
 case buildSlice ty len parts =>
  unfold bt at e
  split at e
  ·split at e
   ·split at e
    ·split at e
     ·have e := qT e
      unfold lh bS bV at e
      split at e
      ·cases e; exact ⟨_, rfl⟩
      ·cases e
     ·cases e
    ·cases e
   ·cases e
  ·cases e
 case makeMap ty r =>
  cases r with
  | none => cases e; exact ⟨_, rfl⟩
  | some _ => cases e
 case makeSlice ty l c =>
  unfold eQ bS bV at e
  split at e
  ·split at e
   ·split at e
    ·split at e
     ·split at e
      ·have e := qT e
       cases e; exact ⟨_, rfl⟩
      ·cases e
     ·cases e
    ·cases e
   ·cases e
  ·cases e
 case convert src dst x =>
  unfold fp ff iN at e
  split at e
  ·rename_i x' hx'
   cases hd : E.P.underlying dst with
   | none => simp [al, hd] at hk
   | some d =>
    cases d <;> simp [al, hd] at hk
    cases hs : E.P.underlying src with
    | none => simp [hs] at e
    | some ds =>
     simp only [hs, hd] at e
     cases x' <;> simp only [nV] at e <;> try (cases e; done)
     cases ds <;> simp only [bV] at e <;> try (cases e; done)
     split at e
     ·rename_i hh
      have hh := qT hh
      cases hh; cases e; exact ⟨_, rfl⟩
     ·cases e
  ·cases e
 case binOp op ty x y z => simp only [al] at hk; cases hb : eE op <;> simp [hb] at hk
 case call c => simp only [al] at hk; split at hk <;> simp at hk
 all_goals simp [al] at hk
section
variable {E : cg} {rec : fu} {ops : Array Oper} {t0 : T V} {s0 : S}
theorem Bo.next_le {Y : List Ev} {e : Ev} (h : Bo E rec ops t0 s0 Y e) : e.a.next ≤ e.b.next := by
 rcases h.step with ⟨_, ⟨_, _, hb⟩ | ⟨_, ⟨_, hb, _⟩ | ⟨_, hb, _⟩ | ⟨hk, hb⟩⟩⟩ | ⟨_, _, hb, _⟩
 ·rw [hb]; exact Nat.le_refl _
 ·rw [hb]; exact Nat.le_refl _
 ·rw [hb]; exact Nat.le_refl _
 ·obtain ⟨B, hB⟩ := FH e.o hk hb
  rw [hB, S.next_alloc]; omega
 ·exact hb
theorem ei.next_le : ∀ {X Y : List Ev}, ei E rec ops t0 s0 (X ++ Y) → (cD s0 Y).next ≤ (cD s0 (X ++ Y)).next
 | [], _, _ => Nat.le_refl _
 | e :: X, Y, h => by
  refine Nat.le_trans (ei.next_le h.2) ?_
  have := h.1.next_le
  rw [h.1.st] at this
  exact this
theorem ei.suf : ∀ {X Y : List Ev}, ei E rec ops t0 s0 (X ++ Y) → ei E rec ops t0 s0 Y
 | [], _, h => h
 | _ :: X, _, h => ei.suf (X := X) h.2
theorem ei.before {Y : List Ev} {e : Ev} (h : Bo E rec ops t0 s0 Y e) (hR : ei E rec ops t0 s0 Y) {q : Ev} (hq : q ∈ Y) : q.b.next ≤ e.a.next := by
 obtain ⟨Y1, Y2, rfl⟩ := List.append_of_mem hq
 rw [h.st]
 exact ei.next_le (Y := q :: Y2) hR
theorem ei.start {Y : List Ev} {e : Ev} (h : Bo E rec ops t0 s0 Y e) (hR : ei E rec ops t0 s0 Y) : s0.next ≤ e.a.next := by
 rw [h.st]
 have h1 : ei E rec ops t0 s0 (Y ++ []) := by simpa using hR
 have h2 := ei.next_le h1
 rw [List.append_nil] at h2
 exact h2
theorem ei.ok {L : List Ev} (h : ei E rec ops t0 s0 L) {e : Ev} (he : e ∈ L) : ∃ X Y, L = X ++ e :: Y ∧ Bo E rec ops t0 s0 Y e ∧ ei E rec ops t0 s0 Y := by
 obtain ⟨X, Y, rfl⟩ := List.append_of_mem he
 obtain ⟨h1, h2⟩ := ei.at h
 exact ⟨X, Y, rfl, h1, h2⟩
theorem ei.uniq {L : List Ev} (h : ei E rec ops t0 s0 L) {a b : Ev} (ha : a ∈ L) (hb : b ∈ L) (hi : a.i = b.i) : a = b := by
 induction L with
 | nil => cases ha
 | cons e Y ih =>
  rcases List.mem_cons.1 ha with rfl | ha'
  ·rcases List.mem_cons.1 hb with rfl | hb'
   ·rfl
   ·exact absurd hi.symm (h.1.new b hb')
  ·rcases List.mem_cons.1 hb with rfl | hb'
   ·exact absurd hi (h.1.new a ha')
   ·exact ih h.2 ha' hb'
structure tY (E : cg) (t0 : T V) (s0 : S) (ρ0 : aq) (w0 : World) (X F : List Ev) (R : Nat → Prop) (ρ : aq) (w : World) (tm : Array Value) : Prop where
 front : Ib E F
 inF : ∀ e ∈ F, R e.i
 noE : ∀ e ∈ X, R e.i → ¬ kf E e.o
 vals : ∀ e ∈ X ++ F, R e.i → ∃ y, den (ρ.to e.b.next) e.v = some y ∧ ∀ d, e.o.dst = some d → tm[d]? = some y
 olds : ∀ d x, t0.get (eT d) = some x → (∀ e ∈ X ++ F, R e.i → e.o.dst ≠ some d) → ∃ y, den (ρ.to s0.next) x = some y ∧ tm[d]? = some y
 blks : ∀ e ∈ X, R e.i → e.b = e.a ∨ ∃ B, e.b = e.a.alloc B ∧ wC (ρ.to e.b.next) w e.a.next B ∧ ∀ v l, ρ e.a.next v = some l → ¬ l.ro
 hr : HR (ρ.to (cD s0 F).next) (cD s0 F) w
 inj : SZ ρ
 low : SY ρ w
 fresh : ∀ f v, ρ f v ≠ none → f < (cD s0 F).next ∨ ∃ e ∈ X, R e.i ∧ f = e.a.next ∧ f < e.b.next
 fr : FR ρ0 w0 ρ w
theorem tY.reg {ρ0 : aq} {w0 : World} {X F : List Ev} {R : Nat → Prop} {ρ : aq} {w : World} {tm : Array Value} (h : tY E t0 s0 ρ0 w0 X F R ρ w tm) :
 ∀ {X1 Z : List Ev}, X = X1 ++ Z → ei E rec ops t0 s0 (Z ++ F) → (∀ e ∈ Z, R e.i) → HR (ρ.to (cD s0 (Z ++ F)).next) (cD s0 (Z ++ F)) w
 | _, [], _, _, _ => h.hr
 | X1, e :: Z, hX, hR, hin => by
  have ih := tY.reg h (X1 := X1 ++ [e]) (Z := Z) (by simpa using hX) hR.2 fun q hq => hin q (List.mem_cons_of_mem _ hq)
  have hst : e.a = cD s0 (Z ++ F) := hR.1.st
  rw [← hst] at ih
  show HR (ρ.to e.b.next) e.b w
  rcases h.blks e (by rw [hX]; simp) (hin e (by simp)) with hb | ⟨B, hb, hB, hro⟩
  ·rw [hb]; exact ih
  ·rw [hb] at hB ⊢
   rw [S.next_alloc] at hB ⊢
   refine ⟨fun f v hf => aq.to_ge (by rw [S.next_alloc] at hf; exact hf), fun f v l f' v' l' e1 e2 => h.inj _ _ _ _ _ _ (aq.to_lt e1).2 (aq.to_lt e2).2, fun f v l e1 => h.low _ _ _ (aq.to_lt e1).2, fun f B' hg => ?_, fun f B' hg => ?_, fun f B' hg hnr v l hl => ?_⟩
   ·rw [S.get_alloc] at hg
    split at hg
    ·rename_i he; cases hg; subst he; exact hB
    ·rename_i he
     have hf := ih.dom f B' hg
     refine (ih.blk f B' hg).keep (aq.to_le ρ (Nat.le_succ _)) (fun v hv => ?_) (fun _ _ _ => rfl)
     rw [aq.to_of hf] at hv
     rw [aq.to_of (by omega)]; exact hv
   ·rw [S.get_alloc] at hg
    rw [S.next_alloc]
    split at hg
    ·omega
    ·have := ih.dom f B' hg; omega
   ·rw [S.get_alloc] at hg
    split at hg
    ·rename_i he; subst he; exact hro v l (aq.to_lt hl).2
    ·exact ih.rw f B' hg hnr v l (by rw [aq.to_of (ih.dom f B' hg)]; exact (aq.to_lt hl).2)
theorem tY.env {ρ0 : aq} {w0 : World} {X1 X2 F : List Ev} {e : Ev} {R : Nat → Prop} {ρ : aq} {w : World} {tm : Array Value} (hD : ke ops) (h : tY E t0 s0 ρ0 w0 (X1 ++ e :: X2) F R ρ w tm)
 (hR : ei E rec ops t0 s0 (X1 ++ e :: (X2 ++ F))) (hn : ¬ R e.i) (hcl : iZ ops R) (hpre : ∀ k, lA ops e.i k → R k) : TR (ρ.to e.a.next) (only e.t (looks ops e.o)) tm := by
 obtain ⟨hev, hRY⟩ := ei.at hR
 have hL : X1 ++ e :: X2 ++ F = X1 ++ e :: (X2 ++ F) := by simp
 intro d x hx
 rw [nk] at hx
 split at hx
 ·rename_i hd
  have hord : ∀ q oq, ops[q]? = some oq → oq.dst = some d → q ≠ e.i → lA ops e.i q ∨ lA ops q e.i := by
   intro q oq hq hdq hqi
   rcases List.mem_append.1 hd with hd | hd
   ·exact hD.sees e.i q e.o oq d hev.op hq (fun h => hqi h.symm) hdq hd
   ·unfold oi at hd
    split at hd
    ·rename_i g b hg
     have hgd : ((ops[g]?).bind (·.dst)) = some d := by simpa using hd
     cases hog : ops[g]? with
     | none => rw [hog] at hgd; cases hgd
     | some og =>
      rw [hog] at hgd
      by_cases hgq : g = q
      ·subst hgq; exact .inl (hD.guard e.i e.o g b hev.op hg)
      ·exact absurd hgd (hD.dst g q og oq d hog hq hgq hdq)
    ·simp at hd
  rcases hev.slots d with ⟨q, q1, q2, q3⟩ | ⟨q1, q2⟩
  ·rw [q3] at hx; cases hx
   obtain ⟨Ya, Yb, hY, hqev, _⟩ := ei.ok hRY q1
   have hqi : q.i ≠ e.i := hev.new q q1
   rcases hord q.i q.o hqev.op q2 hqi with p | p
   ·obtain ⟨y, y1, y2⟩ := h.vals q (by rw [hL]; simp; right; right; simpa using q1) (hpre _ p)
    exact ⟨y, bA (aq.to_le ρ (ei.before hev hRY q1)) _ _ y1, y2 d q2⟩
   ·obtain ⟨z, z1, z2⟩ := hqev.pre e.i p
    exact absurd z2 (hev.new z (by rw [hY]; simp; right; right; exact z1))
  ·rw [q2] at hx
   obtain ⟨y, y1, y2⟩ := h.olds d x hx (fun q hq hr hdq => by
    rw [hL] at hq
    obtain ⟨_, Y', _, k1, _⟩ := ei.ok hR hq
    by_cases hqi : q.i = e.i
    ·rw [hqi] at hr; exact hn hr
    ·rcases hord q.i q.o k1.op hdq hqi with p | p
     ·obtain ⟨z, z1, z2⟩ := hev.pre _ p
      have hz : z = q := ei.uniq hR (by simp; right; right; simpa using z1) hq z2
      subst hz
      exact q1 z z1 hdq
     ·exact hn (hcl q.i e.i hr p))
   exact ⟨y, bA (aq.to_le ρ (ei.start hev hRY)) _ _ y1, y2⟩
 ·cases hx
end
section
variable {E : cg} {rec : fu} {ops : Array Oper} {t0 : T V} {s0 : S} {ρ0 : aq} {w0 : World}
theorem xV {tm : Array Value} {o : Option Tmp} {y : Value} {d : Tmp} (h : o = some d) (hd : d < tm.size) : (ni tm o y)[d]? = some y := by
 subst h; simp [ni, hd]
theorem lW {tm : Array Value} {o : Option Tmp} {y : Value} {d : Tmp} (h : o ≠ some d) : (ni tm o y)[d]? = tm[d]? := by
 cases o with
 | none => rfl
 | some i =>
  unfold ni
  exact Array.getElem?_setIfInBounds_ne (fun e => h (by rw [e]))
section
variable {X1 X2 F : List Ev} {e : Ev} {R : Nat → Prop} {ρ : aq} {w : World} {tm : Array Value}
theorem oc {q : Ev} : q ∈ X1 ++ e :: X2 ++ F ↔ q ∈ X1 ++ e :: (X2 ++ F) := by simp
theorem yF (hD : ke ops) (hR : ei E rec ops t0 s0 (X1 ++ e :: (X2 ++ F))) {q : Ev} (hq : q ∈ X1 ++ e :: (X2 ++ F)) (hi : q.i ≠ e.i) {d : Tmp} (hd : q.o.dst = some d) : e.o.dst ≠ some d := by
 obtain ⟨_, _, _, k1, _⟩ := ei.ok hR hq
 have k2 := (ei.at hR).1
 exact hD.dst e.i q.i e.o q.o d k2.op k1.op (fun h => hi h.symm) hd
theorem after (hR : ei E rec ops t0 s0 (X1 ++ e :: (X2 ++ F))) {q : Ev} (hq : q ∈ X1) : e.b.next ≤ q.a.next := by
 obtain ⟨Xa, Xb, rfl⟩ := List.append_of_mem hq
 have h2 : ei E rec ops t0 s0 (Xa ++ q :: (Xb ++ e :: (X2 ++ F))) := by simpa using hR
 obtain ⟨k1, k2⟩ := ei.at h2
 exact ei.before k1 k2 (by simp)
theorem tY.step (hD : ke ops) (h : tY E t0 s0 ρ0 w0 (X1 ++ e :: X2) F R ρ w tm) (hR : ei E rec ops t0 s0 (X1 ++ e :: (X2 ++ F))) (hk : ¬ kf E e.o) (hn : ¬ R e.i) {ρ' : aq} {w' : World} {y : Value}
 (hle : ρ.le ρ') (hkeep : ∀ f v, ρ' f v ≠ none → ρ f v ≠ none ∨ (f = e.a.next ∧ f < e.b.next)) (hsame : ∀ f v, f ≠ e.a.next → ρ' f v = ρ f v)
 (hwh : ∀ b, b < w.heap.size → w'.heap[b]? = w.heap[b]?) (hinj : SZ ρ') (hlow : SY ρ' w') (hfr : FR ρ w ρ' w')
 (hv : den (ρ'.to e.b.next) e.v = some y) (hb : e.b = e.a ∨ ∃ B, e.b = e.a.alloc B ∧ wC (ρ'.to e.b.next) w' e.a.next B ∧ ∀ v l, ρ' e.a.next v = some l → ¬ l.ro) (hdst : ∀ d, e.o.dst = some d → d < tm.size) :
 tY E t0 s0 ρ0 w0 (X1 ++ e :: X2) F (with1 R e.i) ρ' w' (ni tm e.o.dst y) := by
 obtain ⟨hev, hRY⟩ := ei.at hR
 have hNF : (cD s0 F).next ≤ e.a.next := by rw [hev.st]; exact ei.next_le hRY
 have uniq : ∀ q, q ∈ X1 ++ e :: (X2 ++ F) → q.i = e.i → q = e := fun q hq hi => ei.uniq hR hq (by simp) hi
 refine ⟨h.front, fun q hq => .inl (h.inF q hq), fun q hq hr => ?_, fun q hq hr => ?_, fun d x hx hno => ?_, fun q hq hr => ?_, ?_, hinj, hlow, fun f v hf => ?_, h.fr.trans hfr⟩
 ·rcases hr with hr | hr
  ·exact h.noE q hq hr
  ·have := uniq q (by rw [← oc]; exact List.mem_append_left _ hq) hr
   subst this; exact hk
 ·by_cases hi : q.i = e.i
  ·have := uniq q (oc.1 hq) hi
   subst this
   exact ⟨y, hv, fun d hd => xV hd (hdst d hd)⟩
  ·have hr : R q.i := hr.resolve_right hi
   obtain ⟨z, z1, z2⟩ := h.vals q hq hr
   exact ⟨z, bA (aq.to_mono hle _) _ _ z1, fun d hd => by rw [lW (yF hD hR (oc.1 hq) hi hd)]; exact z2 d hd⟩
 ·obtain ⟨z, z1, z2⟩ := h.olds d x hx fun q hq hr => hno q hq (.inl hr)
  refine ⟨z, bA (aq.to_mono hle _) _ _ z1, ?_⟩
  rw [lW (hno e (by simp) (.inr rfl))]; exact z2
 ·by_cases hi : q.i = e.i
  ·have := uniq q (oc.1 (List.mem_append_left _ hq)) hi
   subst this; exact hb
  ·have hr : R q.i := hr.resolve_right hi
   rcases h.blks q hq hr with hqb | ⟨B, hqb, hB, hro⟩
   ·exact .inl hqb
   ·have hne0 : q.a.next = e.a.next → ∀ v l, ρ' q.a.next v = some l → ρ q.a.next v ≠ none := by
     intro hne v l hl hv
     have hqn : q.b.next = q.a.next + 1 := by rw [hqb, S.next_alloc]
     rcases hkeep q.a.next v (by rw [hl]; exact fun h => by cases h) with hc | ⟨_, hc⟩
     ·exact hc hv
     ·rcases List.mem_append.1 hq with hq1 | hq1
      ·have := after hR hq1; omega
      ·rcases List.mem_cons.1 hq1 with rfl | hq1
       ·exact hi rfl
       ·have := ei.before hev hRY (List.mem_append_left F hq1); omega
    refine .inr ⟨B, hqb, hB.keep (aq.to_mono hle _) (fun v hv => ?_) (fun v l hl => hwh _ (h.low _ _ _ (aq.to_lt hl).2)), fun v l hl => ?_⟩
    rotate_left
    ·cases hq0 : ρ q.a.next v with
     | none =>
      exfalso
      by_cases hne : q.a.next = e.a.next
      ·exact hne0 hne v l hl hq0
      ·rw [hsame _ _ hne, hq0] at hl; cases hl
     | some l0 =>
      have := hle _ _ _ hq0
      rw [hl] at this; cases this
      exact hro v l hq0
    have hqn : q.b.next = q.a.next + 1 := by rw [hqb, S.next_alloc]
    rw [aq.to_of (by omega)] at hv ⊢
    by_cases hne : q.a.next = e.a.next
    ·cases hq' : ρ' q.a.next v with
     | none => rfl
     | some l =>
      exfalso
      rcases hkeep q.a.next v (by rw [hq']; exact fun h => by cases h) with hc | ⟨_, hc⟩
      ·exact hc hv
      ·rcases List.mem_append.1 hq with hq1 | hq1
       ·have := after hR hq1; omega
       ·rcases List.mem_cons.1 hq1 with rfl | hq1
        ·exact hi rfl
        ·have := ei.before hev hRY (List.mem_append_left F hq1); omega
    ·rw [hsame _ _ hne]; exact hv
 ·have : ρ'.to (cD s0 F).next = ρ.to (cD s0 F).next := by
   funext f v
   by_cases hf : f < (cD s0 F).next
   ·rw [aq.to_of hf, aq.to_of hf, hsame f v (by omega)]
   ·rw [aq.to_ge (by omega), aq.to_ge (by omega)]
  rw [this]
  exact h.hr.frame hfr.size hwh
 ·rcases hkeep f v hf with hf | ⟨h1, h2⟩
  ·rcases h.fresh f v hf with hf | ⟨q, q1, q2, q3⟩
   ·exact .inl hf
   ·exact .inr ⟨q, q1, .inl q2, q3⟩
  ·exact .inr ⟨e, by simp, .inr rfl, h1, h2⟩
theorem tY.float (hD : ke ops) (h : tY E t0 s0 ρ0 w0 (X1 ++ e :: X2) F R ρ w tm) (hR : ei E rec ops t0 s0 (X1 ++ e :: (X2 ++ F))) (hk : ¬ kf E e.o) (hn : ¬ R e.i) (hcl : iZ ops R) (hpre : ∀ k, lA ops e.i k → R k)
 (hdst : ∀ d, e.o.dst = some d → d < tm.size) :
 (Region.wanted e.o (yielded ops tm) = false ∧ tY E t0 s0 ρ0 w0 (X1 ++ e :: X2) F (with1 R e.i) ρ w (ni tm e.o.dst undef)) ∨
 (Region.wanted e.o (yielded ops tm) = true ∧ ∃ y w' ρ', (execOp (rv tm) e.o).run E.P w = .ok (.value y) w' ∧ tY E t0 s0 ρ0 w0 (X1 ++ e :: X2) F (with1 R e.i) ρ' w' (ni tm e.o.dst y)) := by
 obtain ⟨hev, hRY⟩ := ei.at hR
 have hT := h.env hD hR hn hcl hpre
 have hNF : (cD s0 F).next ≤ e.a.next := by rw [hev.st]; exact ei.next_le hRY
 have wsp : ∀ b, aM ops e.t e.o = some b → Region.wanted e.o (yielded ops tm) = b := fun b hb => by
  rw [← kx] at hb
  exact eN (fr := { (default : Frame) with tmps := tm }) hT hb
 have plain : ∀ y, den (ρ.to e.b.next) e.v = some y → e.b = e.a → tY E t0 s0 ρ0 w0 (X1 ++ e :: X2) F (with1 R e.i) ρ w (ni tm e.o.dst y) := fun y hv hb =>
  tY.step hD h hR hk hn ρ.le_refl (fun f v hf => .inl hf) (fun _ _ _ => rfl) (fun _ _ => rfl) h.inj h.low (FR.refl ρ w) hv (.inl hb) hdst
 rcases hev.step with ⟨_, ⟨hw, hv, hb⟩ | ⟨hw, hf⟩⟩ | ⟨hk', _⟩
 ·left
  refine ⟨wsp _ hw, plain undef ?_ hb⟩
  rw [hv]; rfl
 ·right
  refine ⟨wsp _ hw, ?_⟩
  rcases hf with ⟨hk0, hb, s1, hd⟩ | ⟨hk1, hb, hd⟩ | ⟨hk2, hd⟩
  ·rw [← js (ops := ops)] at hd
   have hd' := Ji ⟨.leaf, e.a.next⟩ e.o hk0 hd
   obtain ⟨v, y, h1, h2, h3⟩ := xZ (HR.bare h.inj h.low) hT e.o (by omega) hd'
   cases h1
   exact ⟨y, w, ρ, h2, plain y (by rw [hb]; exact h3) hb⟩
  ·obtain ⟨s1, hd⟩ := hd X2 F rfl h.front fun q hq hqe hp => h.noE q (by simp [hq]) (hpre _ hp) hqe
   rw [← js (ops := ops)] at hd
   have hd' := yG (n' := e.a.next) (h := (cD s0 F).h) (n := (cD s0 F).next) e.o (by omega) hd
   obtain ⟨v, y, h1, h2, h3⟩ := xZ (h.hr.widen h.inj h.low hNF) hT e.o (by omega) hd'
   cases h1
   exact ⟨y, w, ρ, h2, plain y (by rw [hb]; exact h3) hb⟩
  ·rw [← js (ops := ops)] at hd
   obtain ⟨mk, B, hm, y, obj, lim, n, hrun, hmk⟩ := IL (w := w) hT e.o hk2 hd
   have hm' := hm e.a
   simp only at hm'
   rw [hm'] at hd
   injection hd with hd; injection hd with hd1 hd2
   have hbn : e.b.next = e.a.next + 1 := by rw [← hd2, S.next_alloc]
   have hfree : ∀ v, ρ e.a.next v = none := by
    intro v
    cases hr : ρ e.a.next v with
    | none => rfl
    | some l =>
     exfalso
     rcases h.fresh e.a.next v (by rw [hr]; exact fun h => by cases h) with hf | ⟨q, q1, q2, q3, q4⟩
     ·omega
     ·rcases List.mem_append.1 q1 with hq1 | hq1
      ·have := after hR hq1; omega
      ·rcases List.mem_cons.1 hq1 with rfl | hq1
       ·exact hn q2
       ·have := ei.before hev hRY (List.mem_append_left F hq1); omega
   let ρ' := ρ.put e.a.next 0 ⟨w.heap.size, 0, lim⟩
   have hle : ρ.le ρ' := aq.le_put _ (hfree 0)
   have hto : (ρ.to e.a.next).le (ρ'.to e.b.next) := aq.le_trans (aq.to_mono hle _) (aq.to_le ρ' (by omega))
   obtain ⟨hv, hblk⟩ := hmk (ρ'.to e.b.next) e.a.next hto (by rw [aq.to_of (by omega)]; exact aq.put_same _ _ _ _) (fun v hv => by
    rw [aq.to_of (by omega)]
    show ρ.put _ _ _ _ _ = none
    unfold aq.put; rw [if_neg (by omega)]; exact hfree v)
   have hhp : ∀ b, b < w.heap.size → (({ w with drawn := n } : World).alloc obj).heap[b]? = w.heap[b]? := fun b hb => ix { w with drawn := n } obj hb
   refine ⟨y, _, ρ', hrun, tY.step hD h hR hk hn hle (fun f v hf => ?_) (fun f v hf => ?_) hhp ?_ ?_ ?_ (by rw [← hd1]; exact hv) (.inr ⟨B, hd2.symm, hblk _ ?_, fun v l hl => ?_⟩) hdst⟩
   ·cases hr : ρ' f v with
    | none => exact absurd hr hf
    | some l =>
     rcases aq.of_put hr with ⟨h1, _, _⟩ | h1
     ·exact .inr ⟨h1, by omega⟩
     ·exact .inl (by rw [h1]; exact fun h => by cases h)
   ·show ρ.put _ _ _ _ _ = _
    unfold aq.put; rw [if_neg (fun h => hf h.1)]
   ·intro f v l f' v' l' e1 e2 hb
    rcases aq.of_put e1 with ⟨rfl, rfl, rfl⟩ | e1
    ·rcases aq.of_put e2 with ⟨rfl, rfl, rfl⟩ | e2
     ·exact ⟨rfl, rfl⟩
     ·have := h.low _ _ _ e2; simp at hb; omega
    ·rcases aq.of_put e2 with ⟨rfl, rfl, rfl⟩ | e2
     ·have := h.low _ _ _ e1; simp at hb; omega
     ·exact h.inj _ _ _ _ _ _ e1 e2 hb
   ·intro f v l e1
    rcases aq.of_put e1 with ⟨rfl, rfl, rfl⟩ | e1
    ·simp
    ·have := h.low _ _ _ e1; simp; omega
   ·refine ⟨hle, by simp, rfl, rfl, rfl, fun b hb _ => hhp b hb, fun f v l e1 hl => ?_⟩
    rcases aq.of_put e1 with ⟨rfl, rfl, rfl⟩ | e1
    ·simp at hl
    ·exact ⟨f, v, l, e1, rfl, id⟩
   ·exact ez { w with drawn := n } obj
   ·rcases aq.of_put hl with ⟨_, rfl, rfl⟩ | hl
    ·show ¬ (lim < 0); omega
    ·rw [hfree v] at hl; cases hl
 ·exact absurd hk' hk
theorem tY.effect (hD : ke ops) (h : tY E t0 s0 ρ0 w0 (X1 ++ e :: X2) F R ρ w tm) (hR : ei E rec ops t0 s0 (X1 ++ e :: (X2 ++ F))) (hk : kf E e.o) (hn : ¬ R e.i) (hX2 : ∀ q ∈ X2, R q.i) {ρ1 : aq} {w' : World} {y : Value}
 (h1 : HR ρ1 e.b w') (h2 : FR (ρ.to e.a.next) w ρ1 w') (hv : den ρ1 e.v = some y) (hdst : ∀ d, e.o.dst = some d → d < tm.size) :
 ∃ ρ', tY E t0 s0 ρ0 w0 X1 (e :: (X2 ++ F)) (with1 R e.i) ρ' w' (ni tm e.o.dst y) := by
 obtain ⟨hev, hRY⟩ := ei.at hR
 have hNF : (cD s0 F).next ≤ e.a.next := by rw [hev.st]; exact ei.next_le hRY
 have hab := hev.next_le
 have uniq : ∀ q, q ∈ X1 ++ e :: (X2 ++ F) → q.i = e.i → q = e := fun q hq hi => ei.uniq hR hq (by simp) hi
 have notX1 : ∀ q ∈ X1, q.i ≠ e.i := by
  intro q hq hi
  have := uniq q (by simp [hq]) hi
  subst this
  obtain ⟨Xa, Xb, rfl⟩ := List.append_of_mem hq
  have h2 : ei E rec ops t0 s0 (Xa ++ q :: (Xb ++ q :: (X2 ++ F))) := by simpa using hR
  exact (ei.at h2).1.new q (by simp) rfl
 have early : ∀ f v, ρ f v ≠ none → f < e.a.next ∨ (e.b.next ≤ f ∧ ∃ q ∈ X1, R q.i ∧ f = q.a.next ∧ f < q.b.next) := by
  intro f v hf
  rcases h.fresh f v hf with hf | ⟨q, q1, q2, q3, q4⟩
  ·exact .inl (by omega)
  ·rcases List.mem_append.1 q1 with hq1 | hq1
   ·have := after hR hq1
    exact .inr ⟨by omega, q, hq1, q2, q3, q4⟩
   ·rcases List.mem_cons.1 hq1 with rfl | hq1
    ·exact absurd q2 hn
    ·have := ei.before hev hRY (List.mem_append_left F hq1)
     exact .inl (by omega)
 let ρ' : aq := fun f v => if f < e.b.next then ρ1 f v else ρ f v
 have ρlt : ∀ {f v}, f < e.b.next → ρ' f v = ρ1 f v := fun {f v} hf => by show (if _ then _ else _) = _; rw [if_pos hf]
 have ρge : ∀ {f v}, e.b.next ≤ f → ρ' f v = ρ f v := fun {f v} hf => by show (if _ then _ else _) = _; rw [if_neg (by omega)]
 have hto : ρ'.to e.b.next = ρ1 := by
  funext f v
  by_cases hf : f < e.b.next
  ·rw [aq.to_of hf, ρlt hf]
  ·rw [aq.to_ge (by omega), h1.fresh f v (by omega)]
 have hle : ρ.le ρ' := fun f v l hl => by
  rcases early f v (by rw [hl]; exact fun h => by cases h) with hf | ⟨hf, _⟩
  ·rw [ρlt (by omega)]
   exact h2.ext f v l (by rw [aq.to_of hf]; exact hl)
  ·rw [ρge hf]; exact hl
 have hfr : FR ρ w ρ' w' := by
  refine ⟨hle, h2.size, h2.os, h2.tape, h2.output, fun b hb hno => h2.same b hb fun f v l hl hro => hno f v l (aq.to_lt hl).2 hro, fun f v l hl hb => ?_⟩
  by_cases hf : f < e.b.next
  ·rw [ρlt hf] at hl
   obtain ⟨f', v', l', k1, k2⟩ := h2.new f v l hl hb
   exact ⟨f', v', l', (aq.to_lt k1).2, k2⟩
  ·rw [ρge (by omega)] at hl
   exact ⟨f, v, l, hl, rfl, id⟩
 have apart : ∀ f v l f' v' l', f < e.b.next → e.b.next ≤ f' → ρ' f v = some l → ρ' f' v' = some l' → l.b ≠ l'.b := by
  intro f v l f' v' l' hf hf' e1 e2 hb
  rw [ρlt hf] at e1
  rw [ρge hf'] at e2
  have hl := h.low _ _ _ e2
  obtain ⟨f2, v2, l2, k1, k2, _⟩ := h2.new f v l e1 (by omega)
  obtain ⟨k3, k4⟩ := aq.to_lt k1
  have := (h.inj _ _ _ _ _ _ k4 e2 (by omega)).1
  omega
 refine ⟨ρ', hk, fun q hq => ?_, fun q hq hr => ?_, fun q hq hr => ?_, fun d x hx hno => ?_, fun q hq hr => ?_, ?_, ?_, ?_, fun f v hf => ?_, h.fr.trans hfr⟩
 ·rcases List.mem_cons.1 hq with rfl | hq
  ·exact .inr rfl
  ·rcases List.mem_append.1 hq with hq | hq
   ·exact .inl (hX2 q hq)
   ·exact .inl (h.inF q hq)
 ·exact h.noE q (by simp [hq]) (hr.resolve_right (notX1 q hq))
 ·by_cases hi : q.i = e.i
  ·have := uniq q hq hi
   subst this
   exact ⟨y, by rw [hto]; exact hv, fun d hd => xV hd (hdst d hd)⟩
  ·have hr : R q.i := hr.resolve_right hi
   obtain ⟨z, z1, z2⟩ := h.vals q (oc.2 hq) hr
   exact ⟨z, bA (aq.to_mono hle _) _ _ z1, fun d hd => by rw [lW (yF hD hR hq hi hd)]; exact z2 d hd⟩
 ·obtain ⟨z, z1, z2⟩ := h.olds d x hx fun q hq hr => hno q (oc.1 hq) (.inl hr)
  refine ⟨z, bA (aq.to_mono hle _) _ _ z1, ?_⟩
  rw [lW (hno e (by simp) (.inr rfl))]; exact z2
 ·have hr : R q.i := hr.resolve_right (notX1 q hq)
  have haf := after hR hq
  rcases h.blks q (by simp [hq]) hr with hqb | ⟨B, hqb, hB, hro⟩
  ·exact .inl hqb
  ·have hqn : q.b.next = q.a.next + 1 := by rw [hqb, S.next_alloc]
   refine .inr ⟨B, hqb, hB.keep (aq.to_mono hle _) (fun v hv => ?_) (fun v l hl => ?_), fun v l hl => hro v l (by rw [ρge haf] at hl; exact hl)⟩
   ·rw [aq.to_of (by omega)] at hv ⊢
    rw [ρge haf]; exact hv
   ·have hl' := (aq.to_lt hl).2
    refine h2.same _ (h.low _ _ _ hl') fun f v' l' hf _ hb => ?_
    obtain ⟨k1, k2⟩ := aq.to_lt hf
    have := (h.inj _ _ _ _ _ _ k2 hl' hb).1
    omega
 ·show HR (ρ'.to e.b.next) e.b w'
  rw [hto]; exact h1
 ·intro f v l f' v' l' e1 e2 hb
  by_cases hf : f < e.b.next
  ·by_cases hf' : f' < e.b.next
   ·rw [ρlt hf] at e1; rw [ρlt hf'] at e2
    exact h1.inj _ _ _ _ _ _ e1 e2 hb
   ·exact absurd hb (apart _ _ _ _ _ _ hf (by omega) e1 e2)
  ·by_cases hf' : f' < e.b.next
   ·exact absurd hb.symm (apart _ _ _ _ _ _ hf' (by omega) e2 e1)
   ·rw [ρge (by omega)] at e1 e2
    exact h.inj _ _ _ _ _ _ e1 e2 hb
 ·intro f v l e1
  by_cases hf : f < e.b.next
  ·rw [ρlt hf] at e1; exact h1.low _ _ _ e1
  ·rw [ρge (by omega)] at e1
   exact Nat.lt_of_lt_of_le (h.low _ _ _ e1) h2.size
 ·show f < e.b.next ∨ _
  by_cases hfe : f < e.b.next
  ·exact .inl hfe
  ·rw [ρge (by omega)] at hf
   rcases early f v hf with hf | ⟨_, q, q1, q2, q3⟩
   ·exact absurd (Nat.lt_of_lt_of_le hf hab) hfe
   ·exact .inr ⟨q, q1, .inl q2, q3⟩
end
end
end Go.AI
