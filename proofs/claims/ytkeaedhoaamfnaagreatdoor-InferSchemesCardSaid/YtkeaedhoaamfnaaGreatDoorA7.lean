/- The evaluator by which runs of the program are reckoned, and that it is sound: part 7. No conditions beyond those of the row. -/
import Derived.Test.YtkeaedhoaamfnaaGreatDoorA6
set_option linter.unusedVariables false
set_option linter.unusedSimpArgs false
noncomputable section
namespace Go.AI
theorem Ah (acc : List Nat) (k : Nat) : ∀ (l : List Edge) (s : Nat), (l.foldl (fun s e => bif Region.binds .any e then Nat.lor s (Nat.lor (Nat.pow 2 e.on) (acc.getD e.on 0)) else s) s).testBit k = true ↔
 s.testBit k = true ∨ ∃ e ∈ l, Region.binds .any e = true ∧ (k = e.on ∨ (acc.getD e.on 0).testBit k = true)
 | [], s => by simp
 | e :: l, s => by
  rw [List.foldl_cons, Ah acc k l]
  cases hb : Region.binds .any e with
  | false =>
   simp only [cond_false, List.mem_cons, exists_eq_or_imp, hb, Bool.false_eq_true, false_and, false_or]
  | true =>
   simp only [cond_true, List.mem_cons, exists_eq_or_imp, hb, true_and]
   have : (Nat.lor s (Nat.lor (Nat.pow 2 e.on) (acc.getD e.on 0))).testBit k = (s.testBit k || (decide (e.on = k) || (acc.getD e.on 0).testBit k)) := by
    show (s ||| (2 ^ e.on ||| acc.getD e.on 0)).testBit k = _
    rw [Nat.testBit_or, Nat.testBit_or, Nat.testBit_two_pow]
   rw [this]
   simp only [Bool.or_eq_true, decide_eq_true_eq]
   constructor
   ·rintro ((h | h | h) | h)
    ·exact .inl h
    ·exact .inr (.inl (.inl h.symm))
    ·exact .inr (.inl (.inr h))
    ·exact .inr (.inr h)
   ·rintro (h | (h | h) | h)
    ·exact .inl (.inl h)
    ·exact .inl (.inr (.inl h.symm))
    ·exact .inl (.inr (.inr h))
    ·exact .inr h
theorem IK (o : Oper) (acc : List Nat) (k : Nat) : (qt o acc).testBit k = true ↔ ∃ e ∈ o.after, Region.binds .any e = true ∧ (k = e.on ∨ (acc.getD e.on 0).testBit k = true) := by
 unfold qt
 rw [Ah]
 simp
theorem sR : ∀ (l : List Oper) (acc : List Nat), ∃ r, kP l acc = acc ++ r ∧ r.length = l.length ∧ ∀ j o, l[j]? = some o → r[j]? = some (qt o (acc ++ r.take j))
 | [], acc => ⟨[], by simp [kP], rfl, fun j o h => by simp at h⟩
 | o :: l, acc => by
  obtain ⟨r, h1, h2, h3⟩ := sR l (acc ++ [qt o acc])
  refine ⟨qt o acc :: r, by simp [kP, h1], by simp [h2], fun j o' hj => ?_⟩
  cases j with
  | zero => simp at hj; subst hj; simp
  | succ j =>
   simp at hj
   have := h3 j o' hj
   simpa using this
def lX (ops : Array Oper) (i k : Nat) : Prop := ((kP ops.toList []).getD i 0).testBit k = true
theorem Pp {ops : Array Oper} {i : Nat} {o : Oper} (ho : ops[i]? = some o) : (kP ops.toList []).getD i 0 = qt o ((kP ops.toList []).take i) := by
 obtain ⟨r, h1, h2, h3⟩ := sR ops.toList []
 rw [List.nil_append] at h1
 rw [h1]
 have := h3 i o (by simpa using ho)
 rw [List.nil_append] at this
 rw [List.getD_eq_getElem?_getD, this]
 rfl
def gZ (ops : Array Oper) : Prop := ∀ i o, ops[i]? = some o → ∀ e ∈ o.after, Region.binds .any e = true → e.on < i
theorem zD {l : List Nat} {i j : Nat} (h : j < i) : (l.take i).getD j 0 = l.getD j 0 := by
 rw [List.getD_eq_getElem?_getD, List.getD_eq_getElem?_getD, List.getElem?_take_of_lt h]
theorem vj {ops : Array Oper} (hE : gZ ops) {i k : Nat} {o : Oper} (ho : ops[i]? = some o) : lX ops i k ↔ ∃ e ∈ o.after, Region.binds .any e = true ∧ (k = e.on ∨ lX ops e.on k) := by
 unfold lX
 rw [Pp ho, IK]
 constructor
 ·rintro ⟨e, h1, h2, h3⟩
  rw [zD (hE i o ho e h1 h2)] at h3
  exact ⟨e, h1, h2, h3⟩
 ·rintro ⟨e, h1, h2, h3⟩
  refine ⟨e, h1, h2, ?_⟩
  rw [zD (hE i o ho e h1 h2)]
  exact h3
theorem KU {ops : Array Oper} {i k : Nat} (h : lX ops i k) : ∃ o, ops[i]? = some o := by
 cases ho : ops[i]? with
 | some o => exact ⟨o, rfl⟩
 | none =>
  exfalso
  unfold lX at h
  obtain ⟨r, h1, h2, h3⟩ := sR ops.toList []
  rw [List.nil_append] at h1
  have hi : ops.size ≤ i := by
   rcases Nat.lt_or_ge i ops.size with h' | h'
   ·rw [Array.getElem?_eq_getElem h'] at ho; cases ho
   ·exact h'
  rw [h1, List.getD_eq_getElem?_getD, List.getElem?_eq_none (by rw [h2]; simpa using hi)] at h
  simp at h
theorem sO {ops : Array Oper} (hE : gZ ops) : ∀ (i k : Nat), lX ops i k → k < i := by
 intro i
 induction i using Nat.strongRecOn with
 | ind i ih =>
  intro k h
  obtain ⟨o, ho⟩ := KU h
  obtain ⟨e, h1, h2, h3⟩ := (vj hE ho).1 h
  have hb := hE i o ho e h1 h2
  rcases h3 with rfl | h3
  ·exact hb
  ·exact Nat.lt_trans (ih e.on hb k h3) hb
theorem sN {ops : Array Oper} (hE : gZ ops) : ∀ (i k m : Nat), lX ops i k → lX ops k m → lX ops i m := by
 intro i
 induction i using Nat.strongRecOn with
 | ind i ih =>
  intro k m h hm
  obtain ⟨o, ho⟩ := KU h
  obtain ⟨e, h1, h2, h3⟩ := (vj hE ho).1 h
  refine (vj hE ho).2 ⟨e, h1, h2, .inr ?_⟩
  rcases h3 with rfl | h3
  ·exact hm
  ·exact ih e.on (hE i o ho e h1 h2) k m h3 hm
theorem wA : ∀ {l : List Oper} {i k : Nat} {o : Oper}, (k, o) ∈ dN l i ↔ i ≤ k ∧ l[k - i]? = some o
 | [], i, k, o => by simp [dN]
 | x :: l, i, k, o => by
  simp only [dN, List.mem_cons, Prod.mk.injEq]
  rw [wA (l := l) (i := i + 1)]
  constructor
  ·rintro (⟨rfl, rfl⟩ | ⟨h1, h2⟩)
   ·simp
   ·exact ⟨by omega, by rw [show k - i = (k - (i + 1)) + 1 by omega]; simpa using h2⟩
  ·rintro ⟨h1, h2⟩
   by_cases hk : k = i
   ·left; subst hk; simp at h2; exact ⟨rfl, h2.symm⟩
   ·right; refine ⟨by omega, ?_⟩
    rw [show k - i = (k - (i + 1)) + 1 by omega] at h2; simpa using h2
theorem eF {ops : Array Oper} {k : Nat} {o : Oper} : (k, o) ∈ dN ops.toList 0 ↔ ops[k]? = some o := by
 rw [wA]; simp
structure kB (ops : Array Oper) : Prop where
 back : gZ ops
 guard : ∀ (i : Nat) (o : Oper) (g : Nat) (b : Bool), ops[i]? = some o → o.guard = some (g, b) → lX ops i g
 dst : ∀ (i j : Nat) (o q : Oper) (d : Tmp), ops[i]? = some o → ops[j]? = some q → i ≠ j → q.dst = some d → o.dst ≠ some d
 sees : ∀ (i j : Nat) (o q : Oper) (d : Tmp), ops[i]? = some o → ops[j]? = some q → i ≠ j → q.dst = some d → d ∈ sees o → lX ops i j ∨ lX ops j i
theorem Gj {ops : Array Oper} (h : Je (kP ops.toList []) (dN ops.toList 0) = true) : kB ops := by
 have key : ∀ i o, ops[i]? = some o → _ := fun i o ho => List.all_eq_true.1 h (i, o) (eF.2 ho)
 refine ⟨fun i o ho e he hb => ?_, fun i o g b ho hg => ?_, fun i j o q d ho hq hij hd => ?_, fun i j o q d ho hq hij hd hs => ?_⟩
 ·have := key i o ho
  simp only [Bool.and_eq_true] at this
  have h2 := List.all_eq_true.1 this.1.1 e (by simpa using he)
  rw [hb] at h2
  exact lD (by simpa using h2)
 ·have := key i o ho
  simp only [Bool.and_eq_true] at this
  have h2 := this.1.2
  rw [hg] at h2
  exact h2
 ·have := key i o ho
  simp only [Bool.and_eq_true] at this
  have h2 := List.all_eq_true.1 this.2 (j, q) (eF.2 hq)
  have hb : Nat.beq i j = false := by
   cases hb : Nat.beq i j with
   | false => rfl
   | true => exact absurd (Nat.eq_of_beq_eq_true hb) hij
  simp only [hb, hd, Bool.false_or, Bool.and_eq_true] at h2
  intro hc
  rw [hc] at h2
  simp at h2
 ·have := key i o ho
  simp only [Bool.and_eq_true] at this
  have h2 := List.all_eq_true.1 this.2 (j, q) (eF.2 hq)
  have hb : Nat.beq i j = false := by
   cases hb : Nat.beq i j with
   | false => rfl
   | true => exact absurd (Nat.eq_of_beq_eq_true hb) hij
  simp only [hb, hd, Bool.false_or, Bool.and_eq_true] at h2
  have h3 := h2.2
  have hc : (sees o).contains d = true := by simpa using hs
  rw [hc] at h3
  simp only [Bool.not_true, Bool.false_or, Bool.or_eq_true] at h3
  exact h3
def WS (ops : Array Oper) (t0 : T V) (val : Nat → V) (R : Nat → Prop) (d : Tmp) (x : Option V) : Prop :=
 (∃ q o, ops[q]? = some o ∧ o.dst = some d ∧ R q ∧ x = some (val q)) ∨ ((∀ q o, ops[q]? = some o → o.dst = some d → ¬ R q) ∧ x = t0.get (eV d))
def WJ (ops : Array Oper) (t0 : T V) (val : Nat → V) (R : Nat → Prop) (t : T V) : Prop := ∀ d, WS ops t0 val R d (t.get (eV d))
def jx (ops : Array Oper) (R : Nat → Prop) : Prop := ∀ i k, R i → lX ops i k → R k
def with1 (R : Nat → Prop) (i : Nat) : Nat → Prop := fun k => R k ∨ k = i
theorem jx.with1 {ops : Array Oper} {R : Nat → Prop} (h : jx ops R) {i : Nat} (hi : ∀ k, lX ops i k → R k) : jx ops (with1 R i) := by
 intro a k ha hk
 rcases ha with ha | rfl
 ·exact .inl (h a k ha hk)
 ·exact .inl (hi k hk)
theorem WJ.none {ops : Array Oper} {t0 : T V} {val : Nat → V} {R : Nat → Prop} (h : ∀ q, ¬ R q) : WJ ops t0 val R t0 := fun d => .inr ⟨fun q _ _ _ => h q, rfl⟩
theorem xd (t : T V) (d : Option Tmp) (v : V) (i : Nat) : (putD t d v).get (eV i) = if d = some i then some v else t.get (eV i) := PI t d (some v) i
theorem WJ.put {ops : Array Oper} (hD : kB ops) {t0 : T V} {val : Nat → V} {R : Nat → Prop} {t : T V} (h : WJ ops t0 val R t) {i : Nat} {o : Oper} (ho : ops[i]? = some o) : WJ ops t0 val (with1 R i) (putD t o.dst (val i)) := by
 intro d
 rw [xd]
 by_cases hd : o.dst = some d
 ·rw [if_pos hd]
  exact .inl ⟨i, o, ho, hd, .inr rfl, rfl⟩
 ·rw [if_neg hd]
  rcases h d with ⟨q, oq, h1, h2, h3, h4⟩ | ⟨h1, h2⟩
  ·exact .inl ⟨q, oq, h1, h2, .inl h3, h4⟩
  ·refine .inr ⟨fun q oq hq hdq hr => ?_, h2⟩
   rcases hr with hr | rfl
   ·exact h1 q oq hq hdq hr
   ·rw [ho] at hq; cases hq; exact hd hdq
mutual
theorem wj : ∀ {x y : V}, bn.sameV x y = true → x = y
 | .bool a, y, h => by cases y <;> simp [bn.sameV] at h; rw [h]
 | .int j a, y, h => by cases y <;> simp [bn.sameV] at h; rw [h.1, h.2]
 | .str a, y, h => by cases y <;> simp [bn.sameV] at h; rw [h]
 | .ptr a, y, h => by
  cases y <;> simp [bn.sameV] at h
  rename_i b
  obtain ⟨⟨h1, h2⟩, h3⟩ := h
  cases a; cases b; simp_all
 | .nilptr, y, h => by cases y <;> simp [bn.sameV] at h; rfl
 | .slice a z n c sz, y, h => by
  cases y <;> simp [bn.sameV] at h
  rename_i b y m d sy
  cases a; cases b; simp_all
 | .nilslice, y, h => by cases y <;> simp [bn.sameV] at h; rfl
 | .map a, y, h => by cases y <;> simp [bn.sameV] at h; rw [h]
 | .nilmap, y, h => by cases y <;> simp [bn.sameV] at h; rfl
 | .nilFunc, y, h => by cases y <;> simp [bn.sameV] at h; rfl
 | .nilIface, y, h => by cases y <;> simp [bn.sameV] at h; rfl
 | .func f a b, y, h => by
  cases y <;> simp [bn.sameV] at h
  rename_i g c d
  obtain ⟨⟨h1, h2⟩, h3⟩ := h
  rw [h1, cM h2, cM h3]
 | .iface t v, y, h => by
  cases y <;> simp [bn.sameV] at h
  rw [h.1, wj h.2]
 | .agg a, y, h => by
  cases y <;> simp [bn.sameV] at h
  rw [cM h]
 | .atom a, y, h => by cases y <;> simp [bn.sameV] at h; rw [h]
 | .tuple a, y, h => by
  cases y <;> simp [bn.sameV] at h
  rw [cM h]
theorem cM : ∀ {x y : List V}, bn x y = true → x = y
 | [], y, h => by cases y <;> simp [bn] at h; rfl
 | v :: x, y, h => by
  cases y with
  | nil => simp [bn] at h
  | cons u y =>
   simp only [bn, Bool.and_eq_true] at h
   rw [wj h.1, cM h.2]
end
theorem mJ {E : cx} {t : T V} {o : Oper} : ∀ {l : List S} {v : V}, dK E t o l = some v → ∀ s ∈ l, ∃ s1, em E t s o = some (.val v s1)
 | [], v, h => by cases h
 | [s], v, h => fun s' hs => by
  simp at hs; subst hs
  simp only [dK] at h
  split at h
  ·rename_i u s1 hu; cases h; exact ⟨s1, hu⟩
  ·cases h
 | s :: s2 :: r, v, h => fun s' hs => by
  simp only [dK] at h
  split at h
  ·rename_i u s1 hu
   split at h
   ·rename_i y hy
    cases hb : bn [u] [y] with
    | false => rw [hb] at h; cases h
    | true =>
     rw [hb] at h
     cases h
     have := cM hb
     simp at this
     subst this
     rcases List.mem_cons.1 hs with rfl | hs
     ·exact ⟨s1, hu⟩
     ·exact mJ hy s' hs
   ·cases h
  ·cases h
theorem xl {E : cx} {rec : fO} {t : T V} {s : S} {o : Oper} {b : Option Bool} {v : V} {s' : S} : lB E rec t s o b = some (.val v s') ↔ dY E rec t s o b = some (v, s') := by
 cases b with
 | none => simp [lB, dY]
 | some b => cases b with
  | false => simp [lB, dY]
  | true =>
   simp only [lB, dY]
   cases em E t s o with
   | none => simp [qC, kT]
   | some x => cases x with
    | enter f args s1 =>
     simp only [qC, kT]
     cases rec f args none s1 with
     | none => simp [rK, oA]
     | some out => obtain ⟨e, u, s2⟩ := out; cases e <;> simp [rK, oA]
    | _ => simp [qC, kT]
structure Ev where
 i : Nat
 o : Oper
 v : V
 t : T V
 a : S
 b : S
section
variable (E : cx) (rec : fO) (ops : Array Oper) (t0 : T V) (s0 : S)
def kC (o : Oper) : Prop := aC E.P o.op = 3
def cV : List Ev → S
 | [] => s0
 | e :: _ => e.b
def LN : List Ev → Prop
 | [] => True
 | e :: _ => kC E e.o
def oL (Y : List Ev) (t : T V) : Prop := ∀ d, (∃ q ∈ Y, q.o.dst = some d ∧ t.get (eV d) = some q.v) ∨ ((∀ q ∈ Y, q.o.dst ≠ some d) ∧ t.get (eV d) = t0.get (eV d))
def Vr (Y : List Ev) (e : Ev) : Prop :=
 (aC E.P e.o.op = 0 ∧ e.b = e.a ∧ ∃ s1, em E e.t e.a e.o = some (.val e.v s1)) ∨
 (aC E.P e.o.op = 1 ∧ e.b = e.a ∧ ∀ Z F, Y = Z ++ F → LN E F → (∀ q ∈ Z, kC E q.o → ¬ lX ops e.i q.i) → ∃ s1, em E e.t (cV s0 F) e.o = some (.val e.v s1)) ∨
 (aC E.P e.o.op = 2 ∧ em E e.t e.a e.o = some (.val e.v e.b))
def QC (Y : List Ev) (e : Ev) : Prop :=
 (¬ kC E e.o ∧ ((ba ops e.t e.o = some false ∧ e.v = V.undef ∧ e.b = e.a) ∨ (ba ops e.t e.o = some true ∧ Vr E ops s0 Y e))) ∨
 (kC E e.o ∧ dY E rec e.t e.a e.o (ba ops e.t e.o) = some (e.v, e.b) ∧ e.a.next ≤ e.b.next ∧ ∀ q ∈ Y, lX ops e.i q.i)
structure Ea (Y : List Ev) (e : Ev) : Prop where
 op : ops[e.i]? = some e.o
 pre : ∀ k, lX ops e.i k → ∃ q ∈ Y, q.i = k
 new : ∀ q ∈ Y, q.i ≠ e.i
 slots : oL t0 Y e.t
 st : e.a = cV s0 Y
 step : QC E rec ops s0 Y e
def eD : List Ev → Prop
 | [] => True
 | e :: Y => Ea E rec ops t0 s0 Y e ∧ eD Y
def eh (n : Nat) : List Ev → List (Nat × S)
 | [] => [(n, s0)]
 | e :: Y => if aC E.P e.o.op = 3 then (e.i, e.b) :: eh n Y else eh n Y
end
section
variable {E : cx} {rec : fO} {ops : Array Oper} {t0 : T V} {s0 : S}
theorem oL.put {Y : List Ev} {t : T V} (h : oL t0 Y t) (e : Ev) : oL t0 (e :: Y) (putD t e.o.dst e.v) := by
 intro d
 rw [xd]
 by_cases hd : e.o.dst = some d
 ·rw [if_pos hd]
  exact .inl ⟨e, by simp, hd, rfl⟩
 ·rw [if_neg hd]
  rcases h d with ⟨q, h1, h2, h3⟩ | ⟨h1, h2⟩
  ·exact .inl ⟨q, List.mem_cons_of_mem _ h1, h2, h3⟩
  ·refine .inr ⟨fun q hq => ?_, h2⟩
   rcases List.mem_cons.1 hq with rfl | hq
   ·exact hd
   ·exact h1 q hq
theorem wX {m n : Nat} : ∀ {Z F : List Ev}, LN E F → (∀ q ∈ Z, kC E q.o → ¬ m.testBit q.i = true) → cV s0 F ∈ oj m (eh E s0 n (Z ++ F))
 | [], [], _, _ => by simp [eh, oj, cV]
 | [], e :: F, h, _ => by
  have h : aC E.P e.o.op = 3 := h
  simp [eh, h, oj, cV]
 | z :: Z, F, h, hz => by
  have ih := wX (n := n) (Z := Z) h (fun q hq => hz q (List.mem_cons_of_mem _ hq))
  simp only [List.cons_append, eh]
  split
  ·rename_i hk
   have := hz z (by simp) hk
   have hb : m.testBit z.i = false := by simpa using this
   simp only [oj, hb, cond_false]
   exact List.mem_cons_of_mem _ ih
  ·exact ih
theorem CT {ms : List Nat} (hms : ms = kP ops.toList []) {Y : List Ev} {t : T V} {s : S} {i n : Nat} {o : Oper} {v : V} {s' : S} (hk : ¬ kC E o)
 (hs : s = cV s0 Y) (e : jS E (eh E s0 n Y) (ms.getD i 0) t s o (ba ops t o) = some (v, s')) : QC E rec ops s0 Y ⟨i, o, v, t, s, s'⟩ := by
 left
 refine ⟨hk, ?_⟩
 unfold jS at e
 split at e
 ·rename_i hw
  right
  refine ⟨hw, ?_⟩
  unfold CU at e
  split at e
  ·rename_i hk0
   left
   unfold qR at e
   split at e
   ·rename_i u s1 hu; cases e; exact ⟨hk0, rfl, s1, hu⟩
   ·cases e
  ·rename_i hk1
   right; left
   unfold kf at e
   split at e
   ·rename_i u hu
    cases e
    refine ⟨hk1, rfl, fun Z F hY hF hZ => ?_⟩
    subst hY
    refine mJ hu _ (wX hF fun q hq ha hb => hZ q hq ha ?_)
    subst hms
    exact hb
   ·cases e
  ·rename_i hk2
   right; right
   unfold qS at e
   split at e
   ·rename_i u s1 hu; cases e; exact ⟨hk2, hu⟩
   ·cases e
  ·cases e
 ·rename_i hw
  cases e
  exact .inl ⟨hw, rfl, rfl⟩
 ·cases e
theorem jX (d i k : Nat) : (Nat.lor d (Nat.pow 2 i)).testBit k = (d.testBit k || decide (i = k)) := by
 show (d ||| 2 ^ i).testBit k = _
 rw [Nat.testBit_or, Nat.testBit_two_pow]
def tB (done : Nat) (Y : List Ev) : Prop := ∀ k, done.testBit k = true ↔ ∃ q ∈ Y, q.i = k
theorem tB.cons {done : Nat} {Y : List Ev} (h : tB done Y) (e : Ev) : tB (Nat.lor done (Nat.pow 2 e.i)) (e :: Y) := by
 intro k
 rw [jX, Bool.or_eq_true, h k]
 simp only [decide_eq_true_eq]
 constructor
 ·rintro (⟨q, h1, h2⟩ | h)
  ·exact ⟨q, List.mem_cons_of_mem _ h1, h2⟩
  ·exact ⟨e, by simp, h⟩
 ·rintro ⟨q, hq, h2⟩
  rcases List.mem_cons.1 hq with rfl | hq
  ·exact .inr h2
  ·exact .inl ⟨q, hq, h2⟩
structure St (E : cx) (rec : fO) (ops : Array Oper) (t0 : T V) (s0 : S) (Y : List Ev) (done : Nat) (t : T V) (s : S) : Prop where
 run : eD E rec ops t0 s0 Y
 done : tB done Y
 slots : oL t0 Y t
 st : s = cV s0 Y
theorem lw {n : Nat} : ∀ {Z Y : List Ev}, (∀ q ∈ Z, ¬ kC E q.o) → eh E s0 n (Z ++ Y) = eh E s0 n Y
 | [], _, _ => rfl
 | z :: Z, Y, h => by
  have hz : ¬ aC E.P z.o.op = 3 := h z (by simp)
  simp only [List.cons_append, eh, if_neg hz]
  exact lw fun q hq => h q (List.mem_cons_of_mem _ hq)
theorem oa (hE : gZ ops) {ms : List Nat} (hms : ms = kP ops.toList []) {effs : Nat} (heffs : ∀ i o, ops[i]? = some o → kC E o → effs.testBit i = true) {m n : Nat} (hm : ∀ i k, m.testBit i = true → lX ops i k → m.testBit k = true) {Y0 : List Ev} :
 ∀ (l : List Oper) (i : Nat), ops.toList.drop i = l → ∀ (Y : List Ev) (done : Nat) (t : T V) (s : S), St E rec ops t0 s0 Y done t s → eh E s0 n Y = eh E s0 n Y0 → (∀ k, k < i → m.testBit k = true → done.testBit k = true) →
  ∀ done' t' s', dH E ops ms effs (eh E s0 n Y0) m (dN l i) done t s = some (done', t', s') →
   ∃ Z, St E rec ops t0 s0 (Z ++ Y) done' t' s' ∧ (∀ q ∈ Z, ¬ kC E q.o ∧ m.testBit q.i = true) ∧ ∀ k, k < ops.size → m.testBit k = true → done'.testBit k = true
 | [], i, hl, Y, done, t, s, hS, hh, hd, done', t', s', e => by
  simp only [dN, dH, Option.some.injEq, Prod.mk.injEq] at e
  obtain ⟨rfl, rfl, rfl⟩ := e
  refine ⟨[], hS, by simp, fun k hk hb => hd k ?_ hb⟩
  have := List.drop_eq_nil_iff.1 hl
  simp at this
  omega
 | o :: l, i, hl, Y, done, t, s, hS, hh, hd, done', t', s', e => by
  have ho : ops[i]? = some o := by
   have : (ops.toList.drop i)[0]? = some o := by rw [hl]; rfl
   simpa using this
  have hl' : ops.toList.drop (i + 1) = l := by
   rw [← List.tail_drop, hl]; rfl
  simp only [dN, dH] at e
  cases hb : (!(m.testBit i) || done.testBit i) with
  | true =>
   rw [hb] at e
   simp only [cond_true] at e
   refine oa hE hms heffs hm l (i + 1) hl' Y done t s hS hh (fun k hk hkb => ?_) done' t' s' e
   by_cases hki : k = i
   ·subst hki; rw [hkb] at hb; simpa using hb
   ·exact hd k (by omega) hkb
  | false =>
   rw [hb] at e
   simp only [cond_false] at e
   simp only [Bool.or_eq_false_iff, Bool.not_eq_false'] at hb
   cases hf : effs.testBit i with
   | true => rw [hf] at e; cases e
   | false =>
    rw [hf] at e
    simp only [cond_false] at e
    have hk : ¬ kC E o := fun h => by have := heffs i o ho h; rw [hf] at this; cases this
    split at e
    ·rename_i v s1 hfl
     rw [dA] at e
     have hev : Ea E rec ops t0 s0 Y ⟨i, o, v, t, s, s1⟩ := by
      refine ⟨ho, fun k hk => (hS.done k).1 (hd k (sO hE i k hk) (hm i k hb.1 hk)), fun q hq hqi => ?_, hS.slots, hS.st, ?_⟩
      ·have := (hS.done i).2 ⟨q, hq, hqi⟩
       rw [hb.2] at this; cases this
      ·rw [← hh] at hfl
       exact CT hms hk hS.st hfl
     have hS' : St E rec ops t0 s0 (⟨i, o, v, t, s, s1⟩ :: Y) (Nat.lor done (Nat.pow 2 i)) (putD t o.dst v) s1 := ⟨⟨hev, hS.run⟩, hS.done.cons ⟨i, o, v, t, s, s1⟩, hS.slots.put ⟨i, o, v, t, s, s1⟩, rfl⟩
     have hhist : eh E s0 n (⟨i, o, v, t, s, s1⟩ :: Y) = eh E s0 n Y0 := by
      have hk' : ¬ aC E.P o.op = 3 := hk
      simp only [eh, if_neg hk']; exact hh
     obtain ⟨Z, h1, h2, h3⟩ := oa hE hms heffs hm l (i + 1) hl' _ _ _ _ hS' hhist (fun k hk' hkb => by
      rw [jX]
      by_cases hki : i = k
      ·simp [hki]
      ·rw [hd k (by omega) hkb]; rfl) done' t' s' e
     refine ⟨Z ++ [⟨i, o, v, t, s, s1⟩], by simpa using h1, fun q hq => ?_, h3⟩
     rcases List.mem_append.1 hq with hq | hq
     ·exact h2 q hq
     ·simp at hq; subst hq; exact ⟨hk, hb.1⟩
    ·cases e
def Vs (ops : Array Oper) : List Ev → Prop
 | [] => True
 | e :: Y => ∀ q ∈ Y, lX ops e.i q.i
theorem eD.at : ∀ {X : List Ev} {e : Ev} {Y : List Ev}, eD E rec ops t0 s0 (X ++ e :: Y) → Ea E rec ops t0 s0 Y e ∧ eD E rec ops t0 s0 Y
 | [], _, _, h => h
 | _ :: _, _, _, h => eD.at h.2
def QF (E : cx) (rec : fO) (ops : Array Oper) (t0 : T V) (s0 : S) (ds : List ei) (up : Option Md) (r : fQ) : Prop :=
 ∃ (i : Nat) (o : Oper) (Z Y : List Ev) (done : Nat) (t1 : T V) (c : List vJ) (s2 : S),
  r = .panicked c (gt done (dN ops.toList 0) t1) ds up s2 ∧ ops[i]? = some o ∧ kC E o ∧ eD E rec ops t0 s0 (Z ++ Y) ∧ tB done Y ∧ oL t0 Y t1 ∧
  lB E rec t1 (cV s0 Y) o (ba ops t1 o) = some (.pan c s2) ∧ (∀ q ∈ Y, lX ops i q.i) ∧ (∀ k, lX ops i k → ∃ q ∈ Y, q.i = k) ∧ (∀ q ∈ Z, ¬ kC E q.o) ∧ (∀ q ∈ Z ++ Y, q.i ≠ i) ∧
  ∀ k, k < ops.size → k ≠ i → ¬ lX ops k i → ∃ q ∈ Z ++ Y, q.i = k
theorem rD {ms : List Nat} {i k : Nat} : ∀ {l : List (Nat × Oper)}, (eP ms i l).testBit k = true ↔ (∃ x ∈ l, x.1 = k) ∧ (ms.getD k 0).testBit i = false ∧ k ≠ i
 | [] => by simp [eP]
 | (a, o) :: r => by
  simp only [eP]
  have ih := rD (ms := ms) (i := i) (k := k) (l := r)
  cases hb : ((ms.getD a 0).testBit i || Nat.beq a i) with
  | true =>
   simp only [cond_true]
   rw [ih]
   constructor
   ·rintro ⟨⟨x, h1, h2⟩, h3⟩
    exact ⟨⟨x, List.mem_cons_of_mem _ h1, h2⟩, h3⟩
   ·rintro ⟨⟨x, h1, h2⟩, h3, h4⟩
    rcases List.mem_cons.1 h1 with rfl | h1
    ·exfalso
     simp only at h2
     subst h2
     simp only [Bool.or_eq_true] at hb
     rcases hb with hb | hb
     ·rw [h3] at hb; cases hb
     ·exact h4 (Nat.eq_of_beq_eq_true hb)
    ·exact ⟨⟨x, h1, h2⟩, h3, h4⟩
  | false =>
   simp only [cond_false]
   have hor : (Nat.lor (Nat.pow 2 a) (eP ms i r)).testBit k = (decide (a = k) || (eP ms i r).testBit k) := by
    show (2 ^ a ||| eP ms i r).testBit k = _
    rw [Nat.testBit_or, Nat.testBit_two_pow]
   rw [hor, Bool.or_eq_true, ih]
   simp only [Bool.or_eq_false_iff] at hb
   constructor
   ·rintro (h | ⟨⟨x, h1, h2⟩, h3⟩)
    ·have h : a = k := by simpa using h
     subst h
     refine ⟨⟨(a, o), by simp, rfl⟩, hb.1, fun h => ?_⟩
     have h2 := hb.2
     rw [h, Nat.beq_refl] at h2; cases h2
    ·exact ⟨⟨x, List.mem_cons_of_mem _ h1, h2⟩, h3⟩
   ·rintro ⟨⟨x, h1, h2⟩, h3⟩
    rcases List.mem_cons.1 h1 with rfl | h1
    ·exact .inl (by simpa using h2)
    ·exact .inr ⟨⟨x, h1, h2⟩, h3⟩
theorem Lv (hE : gZ ops) {ms : List Nat} (hms : ms = kP ops.toList []) {effs n : Nat} (heffs : ∀ i o, ops[i]? = some o → kC E o → effs.testBit i = true) {ds : List ei} {up : Option Md} :
 ∀ (es : List (Nat × Oper)), (∀ x ∈ es, ops[x.1]? = some x.2 ∧ kC E x.2) → Aq ms (es.map (·.1)) = true → ∀ (Y : List Ev) (done : Nat) (t : T V) (s : S), St E rec ops t0 s0 Y done t s → LN E Y → Vs ops Y →
  (∀ e Y' x r, Y = e :: Y' → es = x :: r → lX ops x.1 e.i) → ∀ r, ik E ops ms effs (dN ops.toList 0) rec ds up es (eh E s0 n Y) done t s = some r →
   (∃ L t' s', r = .on t' ds up s' ∧ eD E rec ops t0 s0 L ∧ oL t0 L t' ∧ s' = cV s0 L ∧ ∀ k, k < ops.size → ∃ q ∈ L, q.i = k) ∨ QF E rec ops t0 s0 ds up r
 | [], hes, hef, Y, done, t, s, hS, hF, hB, hP, r, e => by
  simp only [ik] at e
  split at e
  ·rename_i d1 t1 s1 hp
   cases e
   have hbits : ∀ k, (Nat.pow 2 ops.size - 1).testBit k = decide (k < ops.size) := fun k => by
    show (2 ^ ops.size - 1).testBit k = _
    rw [Nat.testBit_two_pow_sub_one]
   obtain ⟨Z, h1, h2, h3⟩ := oa hE hms heffs (m := Nat.pow 2 ops.size - 1) (n := n) (fun i k hi hk => by
    rw [hbits] at hi ⊢
    have := sO hE i k hk
    simp at hi ⊢; omega) ops.toList 0 rfl Y done t s hS rfl (fun k hk => absurd hk (Nat.not_lt_zero _)) _ _ _ hp
   refine .inl ⟨_, t1, s1, rfl, h1.run, h1.slots, h1.st, fun k hk => (h1.done k).1 (h3 k hk ?_)⟩
   rw [hbits]; simpa using hk
  ·cases e
 | (i, o) :: r', hes, hef, Y, done, t, s, hS, hF, hB, hP, r, e => by
  simp only [ik] at e
  obtain ⟨ho, hk⟩ := hes (i, o) (by simp)
  simp only at ho hk
  have hpre : ∀ k, (ms.getD i 0).testBit k = true ↔ lX ops i k := fun k => by subst hms; rfl
  split at e
  ·rename_i d1 t1 s1 hp
   obtain ⟨Z, h1, h2, h3⟩ := oa hE hms heffs (m := ms.getD i 0) (n := n) (fun a k ha hk => by
    rw [hpre] at ha ⊢
    exact sN hE i a k ha hk) ops.toList 0 rfl Y done t s hS rfl (fun k hk => absurd hk (Nat.not_lt_zero _)) _ _ _ hp
   have hall : ∀ q ∈ Z ++ Y, lX ops i q.i := by
    intro q hq
    rcases List.mem_append.1 hq with hq | hq
    ·exact (hpre _).1 (h2 q hq).2
    ·cases Y with
     | nil => cases hq
     | cons e0 Y' =>
      have h0 := hP e0 Y' (i, o) r' rfl rfl
      rcases List.mem_cons.1 hq with rfl | hq
      ·exact h0
      ·exact sN hE i e0.i q.i h0 (hB q hq)
   have hisz : i < ops.size := by
    rcases Nat.lt_or_ge i ops.size with h | h
    ·exact h
    ·rw [Array.getElem?_eq_none h] at ho; cases ho
   split at e
   ·rename_i v s2 hst0
    have hst := xl.1 hst0
    cases hc : (Nat.ble s1.next s2.next && !(d1.testBit i) && effs.testBit i) with
    | false => rw [hc] at e; cases e
    | true =>
     rw [hc] at e
     simp only [cond_true] at e
     rw [dA] at e
     simp only [Bool.and_eq_true, Bool.not_eq_true'] at hc
     have hev : Ea E rec ops t0 s0 (Z ++ Y) ⟨i, o, v, t1, s1, s2⟩ := by
      refine ⟨ho, fun k hk => (h1.done k).1 (h3 k ?_ ((hpre k).2 hk)), fun q hq hqi => ?_, h1.slots, h1.st, .inr ⟨hk, hst, Nat.le_of_ble_eq_true hc.1.1, hall⟩⟩
      ·have := sO hE i k hk
       have : i < ops.size := by
        rcases Nat.lt_or_ge i ops.size with h | h
        ·exact h
        ·rw [Array.getElem?_eq_none h] at ho; cases ho
       omega
      ·have := (h1.done i).2 ⟨q, hq, hqi⟩
       rw [hc.1.2] at this; cases this
     have hhist : eh E s0 n (⟨i, o, v, t1, s1, s2⟩ :: (Z ++ Y)) = (i, s2) :: eh E s0 n Y := by
      have hk' : aC E.P o.op = 3 := hk
      simp only [eh, if_pos hk']
      rw [lw fun q hq => (h2 q hq).1]
     rw [← hhist] at e
     refine Lv hE hms heffs r' (fun x hx => hes x (List.mem_cons_of_mem _ hx)) ?_ (⟨i, o, v, t1, s1, s2⟩ :: (Z ++ Y)) _ _ _ ⟨⟨hev, h1.run⟩, h1.done.cons ⟨i, o, v, t1, s1, s2⟩, h1.slots.put ⟨i, o, v, t1, s1, s2⟩, rfl⟩ hk hall ?_ r e
     ·cases r' with
      | nil => rfl
      | cons x r'' =>
       simp only [List.map_cons, Aq, Bool.and_eq_true] at hef
       exact hef.2
     ·intro e1 Y1 x r1 hY hr
      cases hY; subst hr
      simp only [List.map_cons, Aq, Bool.and_eq_true] at hef
      have := hef.1
      subst hms
      exact this
   ·rename_i c s2 hst
    cases hdi : d1.testBit i with
    | true => rw [hdi] at e; cases e
    | false =>
     rw [hdi] at e
     simp only [cond_false] at e
     cases hph : dH E ops ms effs (eh E s0 n Y) (eP ms i (dN ops.toList 0)) (dN ops.toList 0) d1 t1 s1 with
     | none => rw [hph] at e; cases e
     | some x =>
      rw [hph] at e
      obtain ⟨d2, t2, s3⟩ := x
      simp only [Pf, Option.some.injEq] at e
      have hfm : ∀ k, (eP ms i (dN ops.toList 0)).testBit k = true ↔ (∃ x ∈ dN ops.toList 0, x.1 = k) ∧ ¬ lX ops k i ∧ k ≠ i := fun k => by
       rw [rD]
       have : (ms.getD k 0).testBit i = false ↔ ¬ lX ops k i := by
        rw [← Bool.not_eq_true]; subst hms; exact Iff.rfl
       rw [this]
      have hh1 : eh E s0 n (Z ++ Y) = eh E s0 n Y := lw fun q hq => (h2 q hq).1
      obtain ⟨Z2, g1, g2, g3⟩ := oa hE hms heffs (m := eP ms i (dN ops.toList 0)) (n := n) (Y0 := Y) (fun a k ha hk => by
       rw [hfm] at ha ⊢
       obtain ⟨⟨x, x1, x2⟩, p1, p2⟩ := ha
       have hka := sO hE a k hk
       refine ⟨?_, fun hki => p1 (sN hE a k i hk hki), fun hki => p1 (by rw [← hki]; exact hk)⟩
       have hxa : ops[a]? = some x.2 := by rw [← x2]; exact eF.1 x1
       have : a < ops.size := by
        rcases Nat.lt_or_ge a ops.size with h | h
        ·exact h
        ·rw [Array.getElem?_eq_none h] at hxa; cases hxa
       exact ⟨(k, ops[k]'(by omega)), eF.2 (by simp), rfl⟩) ops.toList 0 rfl (Z ++ Y) d1 t1 s1 h1 hh1 (fun k hk => absurd hk (Nat.not_lt_zero _)) _ _ _ hph
      refine .inr ⟨i, o, Z2, Z ++ Y, d1, t1, c, s2, e.symm, ho, hk, g1.run, h1.done, h1.slots, by rw [← h1.st]; exact hst, hall, fun k hk => (h1.done k).1 (h3 k ?_ ((hpre k).2 hk)), fun q hq => (g2 q hq).1, fun q hq => ?_, fun k hks hki hp => ?_⟩
      ·have := sO hE i k hk
       omega
      ·rcases List.mem_append.1 hq with hq | hq
       ·exact ((hfm _).1 (g2 q hq).2).2.2
       ·have := sO hE i q.i (hall q hq)
        omega
      ·refine (g1.done k).1 (g3 k hks ((hfm k).2 ⟨⟨(k, ops[k]'hks), eF.2 (by simp [hks]), rfl⟩, hp, hki⟩))
   ·cases e
  ·cases e
theorem xf (k : Nat) : ∀ (es : List (Nat × Oper)) (s : Nat), (es.foldl (fun s x => Nat.lor s (Nat.pow 2 x.1)) s).testBit k = true ↔ s.testBit k = true ∨ ∃ x ∈ es, x.1 = k
 | [], s => by simp
 | x :: es, s => by
  rw [List.foldl_cons, xf k es, jX]
  simp only [Bool.or_eq_true, decide_eq_true_eq, List.mem_cons, exists_eq_or_imp]
  constructor
  ·rintro ((h | h) | h)
   ·exact .inl h
   ·exact .inr (.inl h)
   ·exact .inr (.inr h)
  ·rintro (h | h | h)
   ·exact .inl (.inl h)
   ·exact .inl (.inr h)
   ·exact .inr h
theorem Dc {t : T V} {ds : List ei} {up : Option Md} {s : S} {recR : qK} {r : fQ} (e : il E ops rec recR t ds up s = some r) :
 kB ops ∧ ((∃ L t' s', r = .on t' ds up s' ∧ eD E rec ops t s L ∧ oL t L t' ∧ s' = cV s L ∧ ∀ k, k < ops.size → ∃ q ∈ L, q.i = k) ∨ QF E rec ops t s ds up r) := by
 unfold il at e
 split at e
 ·rename_i ms l es mask hp
  simp only [Pe] at hp
  cases hc : (Je (kP ops.toList []) (dN ops.toList 0) && Aq (kP ops.toList []) ((rJ E.P (dN ops.toList 0)).map (·.1))) with
  | false => rw [hc] at hp; cases hp
  | true =>
   rw [hc] at hp
   simp only [cond_true, Option.some.injEq, Vq.mk.injEq] at hp
   obtain ⟨rfl, rfl, rfl, rfl⟩ := hp
   simp only [Bool.and_eq_true] at hc
   have hD := Gj hc.1
   refine ⟨hD, ?_⟩
   refine Lv (n := ops.size) hD.back rfl (fun i o ho hk => ?_) _ (fun x hx => ?_) hc.2 [] 0 t s ⟨trivial, fun k => by simp, fun d => .inr ⟨by simp, rfl⟩, rfl⟩ trivial trivial (fun e Y' x r h => by cases h) r e
   ·rw [xf]
    refine .inr ⟨(i, o), ?_, rfl⟩
    unfold rJ
    rw [List.mem_filter]
    have hk : aC E.P o.op = 3 := hk
    exact ⟨eF.2 ho, by simp [hk]⟩
   ·unfold rJ at hx
    rw [List.mem_filter] at hx
    obtain ⟨x1, x2⟩ := x
    exact ⟨eF.1 hx.1, by have h := hx.2; simp at h; exact h⟩
 ·cases e
end
def aE.to (ρ : aE) (n : Nat) : aE := fun f v => if f < n then ρ f v else none
theorem aE.to_le (ρ : aE) {n m : Nat} (h : n ≤ m) : (ρ.to n).le (ρ.to m) := fun f v l e => by
 unfold aE.to at e ⊢
 split at e
 ·rw [if_pos (by omega)]; exact e
 ·cases e
theorem aE.to_le_self (ρ : aE) (n : Nat) : (ρ.to n).le ρ := fun f v l e => by
 unfold aE.to at e
 split at e
 ·exact e
 ·cases e
theorem aE.to_mono {ρ ρ' : aE} (h : ρ.le ρ') (n : Nat) : (ρ.to n).le (ρ'.to n) := fun f v l e => by
 unfold aE.to at e ⊢
 split at e
 ·rename_i hf; rw [if_pos hf]; exact h _ _ _ e
 ·cases e
theorem aE.to_lt {ρ : aE} {n f v : Nat} {l : yu} (e : ρ.to n f v = some l) : f < n ∧ ρ f v = some l := by
 unfold aE.to at e
 split at e
 ·rename_i h; exact ⟨h, e⟩
 ·cases e
theorem aE.to_of {ρ : aE} {n f v : Nat} (h : f < n) : ρ.to n f v = ρ f v := by unfold aE.to; rw [if_pos h]
theorem aE.to_ge {ρ : aE} {n f v : Nat} (h : n ≤ f) : ρ.to n f v = none := by unfold aE.to; rw [if_neg (by omega)]
theorem aE.to_all {ρ : aE} {n : Nat} (h : ∀ f v, n ≤ f → ρ f v = none) : ρ.to n = ρ := by
 funext f v
 by_cases hf : f < n
 ·exact aE.to_of hf
 ·rw [aE.to_ge (by omega), h f v (by omega)]
theorem HR.frame {ρ : aE} {s : S} {w w' : World} (h : HR ρ s w) (hs : w.heap.size ≤ w'.heap.size) (hh : ∀ b, b < w.heap.size → w'.heap[b]? = w.heap[b]?) : HR ρ s w' :=
 ⟨h.fresh, h.inj, fun f v l e => Nat.lt_of_lt_of_le (h.low f v l e) hs, fun f B hB => (h.blk f B hB).keep ρ.le_refl (fun _ hv => hv) (fun v l e => hh _ (h.low _ _ _ e)), h.dom, h.rw⟩
def WX (ρ : aE) : Prop := ∀ f v l f' v' l', ρ f v = some l → ρ f' v' = some l' → l.b = l'.b → f = f' ∧ l.base = l'.base
def WW (ρ : aE) (w : World) : Prop := ∀ f v l, ρ f v = some l → l.b < w.heap.size
theorem HR.widen {ρ : aE} {s : S} {w : World} {n : Nat} (h : HR (ρ.to s.next) s w) (hi : WX ρ) (hl : WW ρ w) (hn : s.next ≤ n) : HR (ρ.to n) ⟨s.h, n⟩ w := by
 refine ⟨fun f v hf => aE.to_ge hf, fun f v l f' v' l' e e' => hi _ _ _ _ _ _ (aE.to_lt e).2 (aE.to_lt e').2, fun f v l e => hl _ _ _ (aE.to_lt e).2, fun f B hB => ?_, fun f B hB => Nat.lt_of_lt_of_le (h.dom f B (by rw [S.get_eq] at hB ⊢; exact hB)) hn, fun f B hB hnr v l hl => ?_⟩
 rotate_left
 ·have hB' : s.get f = some B := by rw [S.get_eq] at hB ⊢; exact hB
  exact h.rw f B hB' hnr v l (by rw [aE.to_of (h.dom f B hB')]; exact (aE.to_lt hl).2)
 have hB' : s.get f = some B := by rw [S.get_eq] at hB ⊢; exact hB
 have hf := h.dom f B hB'
 refine (h.blk f B hB').keep (aE.to_le ρ hn) (fun v hv => ?_) (fun _ _ _ => rfl)
 rw [aE.to_of hf] at hv
 rw [aE.to_of (by omega)]; exact hv
theorem HR.bare {ρ : aE} {w : World} {n : Nat} (hi : WX ρ) (hl : WW ρ w) : HR (ρ.to n) ⟨.leaf, n⟩ w :=
 ⟨fun f v hf => aE.to_ge hf, fun f v l f' v' l' e e' => hi _ _ _ _ _ _ (aE.to_lt e).2 (aE.to_lt e').2, fun f v l e => hl _ _ _ (aE.to_lt e).2, fun f B hB => by (rw [S.get_eq, T.get_leaf] at hB; cases hB), fun f B hB => by (rw [S.get_eq, T.get_leaf] at hB; cases hB), fun f B hB => by (rw [S.get_eq, T.get_leaf] at hB; cases hB)⟩
theorem dn {s s' : S} {x : Option V} {v : V} {s1 : S} (e : bp s x = some (.val v s1)) : bp s' x = some (.val v s') := by
 cases x with
 | none => cases e
 | some u => cases e; rfl
theorem Nk {E : cx} {t : T V} {s : S} (s' : S) (o : Oper) (hk : aC E.P o.op = 0) {v : V} {s1 : S} (e : em E t s o = some (.val v s1)) : em E t s' o = some (.val v s') := by
 obtain ⟨dst, op, type, pos, after, guard⟩ := o
 unfold em at e ⊢
 simp only at e hk ⊢
 cases op <;> simp only [aG] at e ⊢ <;> try (cases e; done)
 case move x => exact dn e
 case assign x => exact dn e
 case pick c a b =>
  unfold gK at e ⊢
  split at e
  ·exact dn e
  ·cases e
 case build ty parts => exact dn e
 case nilCheck x => exact dn e
 case binOp op ty x y z =>
  have hq : eg op = false := by
   simp only [aC] at hk
   cases hb : eg op with
   | false => rfl
   | true => rw [hb] at hk; cases hk
  unfold cw at e ⊢
  cases hx : eval t x with
  | none => rw [hx] at e; cases e
  | some a =>
   cases hy : eval t y with
   | none => rw [hx, hy] at e; cases e
   | some b =>
    rw [hx, hy] at e
    simp only at e ⊢
    cases hg : bd E.P op ty x y a b with
    | false => rw [hg] at e; cases e
    | true =>
     rw [hg] at e
     simp only [cond_true] at e ⊢
     have : ∀ ok ok', bt E.P ok op ty a b = bt E.P ok' op ty a b := by
      intro ok ok'
      unfold bt
      split
      ·rfl
      ·rfl
      ·cases op <;> simp [eg] at hq <;> rfl
     rw [this (plainAt s') (plainAt s)]
     exact dn e
 case unOp op ty x => exact dn e
 case convert src dst x =>
  unfold fN at e ⊢
  split at e
  ·rename_i x' hx'
   unfold fF at e ⊢
   unfold jm at e ⊢
   cases hs : E.P.underlying src with
   | none => simp [hs] at e
   | some ds =>
    cases hd : E.P.underlying dst with
    | none => simp [hs, hd] at e
    | some dd =>
     simp only [hs, hd] at e ⊢
     cases dd <;> simp only at e ⊢ <;> try (cases e; done)
     case int k => cases x' <;> simp only at e ⊢ <;> first | (cases e; done) | (cases e; rfl)
     case string => simp [aC, hd] at hk
     case slice el => simp [aC, hd] at hk
  ·cases e
 case makeInterface ty x => exact dn e
 case makeFunc fn first cap => exact dn e
 case slice ty x lo hi mx => exact dn e
 case fieldAddr ty x f => exact dn e
 case field ty x f => exact dn e
 case indexAddr ty x i => exact dn e
 case index ty x i => exact dn e
 case typeAssert x xt ty ok => exact dn e
 case extract x i => exact dn e
 case call c =>
  simp only [aC] at hk
  split at hk <;> cases hk
 all_goals (first | (simp [aC] at hk; done) | (exfalso; revert hk; simp [aC]))
def only (t : T V) : List Tmp → T V
 | [] => .leaf
 | d :: r => (only t r).set (t.get (eV d)) (eV d)
theorem ob (t : T V) : ∀ (l : List Tmp) (d : Tmp), (only t l).get (eV d) = if d ∈ l then t.get (eV d) else none
 | [], d => by simp [only, T.get_leaf]
 | x :: r, d => by
  simp only [only]
  rw [T.get_setN, ob t r d]
  by_cases h : x = d
  ·subst h; simp
  ·rw [if_neg h]
   have : d ≠ x := fun e => h e.symm
   simp [this]
def pa (ops : Array Oper) (o : Oper) : List Tmp := match o.guard with
 | some (j, _) => ((ops[j]?).bind (·.dst)).toList
 | none => []
def looks (ops : Array Oper) (o : Oper) : List Tmp := sees o ++ pa ops o
theorem MM {t : T V} {ops : Array Oper} {o : Oper} {x : Operand} (hx : x ∈ o.op.operands) : eval t x = eval (only t (looks ops o)) x := by
 cases x with
 | tmp d =>
  simp only [eval]
  rw [ob, if_pos]
  unfold looks sees
  refine List.mem_append.2 (.inl ?_)
  rw [List.mem_filterMap]
  exact ⟨.tmp d, by simpa using hx, rfl⟩
 | const v => rfl
 | global g => rfl
 | func f => rfl
theorem jQ {E : cx} {ops : Array Oper} {t : T V} {s : S} {o : Oper} : em E (only t (looks ops o)) s o = em E t s o :=
 (Ja o fun _ hx => MM hx).symm
theorem kM {ops : Array Oper} {t : T V} {o : Oper} : ba ops (only t (looks ops o)) o = ba ops t o := by
 unfold ba
 split
 ·rfl
 ·rename_i j want hg
  split
  ·rename_i d hd
   rw [ob, if_pos]
   unfold looks pa
   refine List.mem_append.2 (.inr ?_)
   rw [hg]; simp [hd]
  ·rfl
theorem sh {α : Type} {c : Bool} {x : Option α} {y : α} (h : (bif c then x else none) = some y) : x = some y := by cases c <;> first | (cases h; done) | exact h
theorem Jb {E : cx} {t : T V} {s : S} (o : Oper) (hk : aC E.P o.op = 2) {v : V} {s1 : S} (e : em E t s o = some (.val v s1)) : ∃ B, s1 = s.alloc B := by
 obtain ⟨dst, op, type, pos, after, guard⟩ := o
 unfold em at e
 simp only at e hk
 cases op <;> simp only [aG] at e <;> try (cases e; done)
 case alloc elem =>
  unfold fe tZ ci cl at e
  split at e
  ·cases e; exact ⟨_, rfl⟩
  ·cases e
 case box elem x =>
  unfold oF tZ ci cl at e
  split at e
  ·cases e; exact ⟨_, rfl⟩
  ·cases e
 case buildSlice ty len parts =>
  unfold bz at e
  split at e
  ·split at e
   ·split at e
    ·split at e
     ·have e := sh e
      unfold lH ci cl at e
      split at e
      ·cases e; exact ⟨_, rfl⟩
      ·cases e
     ·cases e
    ·cases e
   ·cases e
  ·cases e
 case makeMap ty r =>
  cases r with
  | none => cases e; exact ⟨_, rfl⟩
  | some _ => cases e
 case makeSlice ty l c =>
  unfold fq ci cl at e
  split at e
  ·split at e
   ·split at e
    ·split at e
     ·split at e
      ·have e := sh e
       cases e; exact ⟨_, rfl⟩
      ·cases e
     ·cases e
    ·cases e
   ·cases e
  ·cases e
 case convert src dst x =>
  unfold fN fF jm at e
  split at e
  ·rename_i x' hx'
   cases hd : E.P.underlying dst with
   | none => simp [aC, hd] at hk
   | some d =>
    cases d <;> simp [aC, hd] at hk
    cases hs : E.P.underlying src with
    | none => simp [hs] at e
    | some ds =>
     simp only [hs, hd] at e
     cases x' <;> simp only [oO] at e <;> try (cases e; done)
     cases ds <;> simp only [cl] at e <;> try (cases e; done)
     split at e
     ·rename_i hh
      have hh := sh hh
      cases hh; cases e; exact ⟨_, rfl⟩
     ·cases e
  ·cases e
 case binOp op ty x y z => simp only [aC] at hk; cases hb : eg op <;> simp [hb] at hk
 case call c => simp only [aC] at hk; split at hk <;> simp at hk
 all_goals simp [aC] at hk
section
variable {E : cx} {rec : fO} {ops : Array Oper} {t0 : T V} {s0 : S}
theorem Ea.next_le {Y : List Ev} {e : Ev} (h : Ea E rec ops t0 s0 Y e) : e.a.next ≤ e.b.next := by
 rcases h.step with ⟨_, ⟨_, _, hb⟩ | ⟨_, ⟨_, hb, _⟩ | ⟨_, hb, _⟩ | ⟨hk, hb⟩⟩⟩ | ⟨_, _, hb, _⟩
 ·rw [hb]; exact Nat.le_refl _
 ·rw [hb]; exact Nat.le_refl _
 ·rw [hb]; exact Nat.le_refl _
 ·obtain ⟨B, hB⟩ := Jb e.o hk hb
  rw [hB, S.next_alloc]; omega
 ·exact hb
theorem eD.next_le : ∀ {X Y : List Ev}, eD E rec ops t0 s0 (X ++ Y) → (cV s0 Y).next ≤ (cV s0 (X ++ Y)).next
 | [], _, _ => Nat.le_refl _
 | e :: X, Y, h => by
  refine Nat.le_trans (eD.next_le h.2) ?_
  have := h.1.next_le
  rw [h.1.st] at this
  exact this
theorem eD.suf : ∀ {X Y : List Ev}, eD E rec ops t0 s0 (X ++ Y) → eD E rec ops t0 s0 Y
 | [], _, h => h
 | _ :: X, _, h => eD.suf (X := X) h.2
theorem eD.before {Y : List Ev} {e : Ev} (h : Ea E rec ops t0 s0 Y e) (hR : eD E rec ops t0 s0 Y) {q : Ev} (hq : q ∈ Y) : q.b.next ≤ e.a.next := by
 obtain ⟨Y1, Y2, rfl⟩ := List.append_of_mem hq
 rw [h.st]
 exact eD.next_le (Y := q :: Y2) hR
theorem eD.start {Y : List Ev} {e : Ev} (h : Ea E rec ops t0 s0 Y e) (hR : eD E rec ops t0 s0 Y) : s0.next ≤ e.a.next := by
 rw [h.st]
 have h1 : eD E rec ops t0 s0 (Y ++ []) := by simpa using hR
 have h2 := eD.next_le h1
 rw [List.append_nil] at h2
 exact h2
theorem eD.ok {L : List Ev} (h : eD E rec ops t0 s0 L) {e : Ev} (he : e ∈ L) : ∃ X Y, L = X ++ e :: Y ∧ Ea E rec ops t0 s0 Y e ∧ eD E rec ops t0 s0 Y := by
 obtain ⟨X, Y, rfl⟩ := List.append_of_mem he
 obtain ⟨h1, h2⟩ := eD.at h
 exact ⟨X, Y, rfl, h1, h2⟩
theorem eD.uniq {L : List Ev} (h : eD E rec ops t0 s0 L) {a b : Ev} (ha : a ∈ L) (hb : b ∈ L) (hi : a.i = b.i) : a = b := by
 induction L with
 | nil => cases ha
 | cons e Y ih =>
  rcases List.mem_cons.1 ha with rfl | ha'
  ·rcases List.mem_cons.1 hb with rfl | hb'
   ·rfl
   ·exact absurd hi.symm (h.1.new b hb')
  ·rcases List.mem_cons.1 hb with rfl | hb'
   ·exact absurd hi (h.1.new a ha')
   ·exact ih h.2 ha' hb'
structure vK (E : cx) (t0 : T V) (s0 : S) (ρ0 : aE) (w0 : World) (X F : List Ev) (R : Nat → Prop) (ρ : aE) (w : World) (tm : Array Value) : Prop where
 front : LN E F
 inF : ∀ e ∈ F, R e.i
 noE : ∀ e ∈ X, R e.i → ¬ kC E e.o
 vals : ∀ e ∈ X ++ F, R e.i → ∃ y, den (ρ.to e.b.next) e.v = some y ∧ ∀ d, e.o.dst = some d → tm[d]? = some y
 olds : ∀ d x, t0.get (eV d) = some x → (∀ e ∈ X ++ F, R e.i → e.o.dst ≠ some d) → ∃ y, den (ρ.to s0.next) x = some y ∧ tm[d]? = some y
 blks : ∀ e ∈ X, R e.i → e.b = e.a ∨ ∃ B, e.b = e.a.alloc B ∧ yo (ρ.to e.b.next) w e.a.next B ∧ ∀ v l, ρ e.a.next v = some l → ¬ l.ro
 hr : HR (ρ.to (cV s0 F).next) (cV s0 F) w
 inj : WX ρ
 low : WW ρ w
 fresh : ∀ f v, ρ f v ≠ none → f < (cV s0 F).next ∨ ∃ e ∈ X, R e.i ∧ f = e.a.next ∧ f < e.b.next
 fr : FR ρ0 w0 ρ w
theorem vK.reg {ρ0 : aE} {w0 : World} {X F : List Ev} {R : Nat → Prop} {ρ : aE} {w : World} {tm : Array Value} (h : vK E t0 s0 ρ0 w0 X F R ρ w tm) :
 ∀ {X1 Z : List Ev}, X = X1 ++ Z → eD E rec ops t0 s0 (Z ++ F) → (∀ e ∈ Z, R e.i) → HR (ρ.to (cV s0 (Z ++ F)).next) (cV s0 (Z ++ F)) w
 | _, [], _, _, _ => h.hr
 | X1, e :: Z, hX, hR, hin => by
  have ih := vK.reg h (X1 := X1 ++ [e]) (Z := Z) (by simpa using hX) hR.2 fun q hq => hin q (List.mem_cons_of_mem _ hq)
  have hst : e.a = cV s0 (Z ++ F) := hR.1.st
  rw [← hst] at ih
  show HR (ρ.to e.b.next) e.b w
  rcases h.blks e (by rw [hX]; simp) (hin e (by simp)) with hb | ⟨B, hb, hB, hro⟩
  ·rw [hb]; exact ih
  ·rw [hb] at hB ⊢
   rw [S.next_alloc] at hB ⊢
   refine ⟨fun f v hf => aE.to_ge (by rw [S.next_alloc] at hf; exact hf), fun f v l f' v' l' e1 e2 => h.inj _ _ _ _ _ _ (aE.to_lt e1).2 (aE.to_lt e2).2, fun f v l e1 => h.low _ _ _ (aE.to_lt e1).2, fun f B' hg => ?_, fun f B' hg => ?_, fun f B' hg hnr v l hl => ?_⟩
   ·rw [S.get_alloc] at hg
    split at hg
    ·rename_i he; cases hg; subst he; exact hB
    ·rename_i he
     have hf := ih.dom f B' hg
     refine (ih.blk f B' hg).keep (aE.to_le ρ (Nat.le_succ _)) (fun v hv => ?_) (fun _ _ _ => rfl)
     rw [aE.to_of hf] at hv
     rw [aE.to_of (by omega)]; exact hv
   ·rw [S.get_alloc] at hg
    rw [S.next_alloc]
    split at hg
    ·omega
    ·have := ih.dom f B' hg; omega
   ·rw [S.get_alloc] at hg
    split at hg
    ·rename_i he; subst he; exact hro v l (aE.to_lt hl).2
    ·exact ih.rw f B' hg hnr v l (by rw [aE.to_of (ih.dom f B' hg)]; exact (aE.to_lt hl).2)
theorem vK.env {ρ0 : aE} {w0 : World} {X1 X2 F : List Ev} {e : Ev} {R : Nat → Prop} {ρ : aE} {w : World} {tm : Array Value} (hD : kB ops) (h : vK E t0 s0 ρ0 w0 (X1 ++ e :: X2) F R ρ w tm)
 (hR : eD E rec ops t0 s0 (X1 ++ e :: (X2 ++ F))) (hn : ¬ R e.i) (hcl : jx ops R) (hpre : ∀ k, lX ops e.i k → R k) : TR (ρ.to e.a.next) (only e.t (looks ops e.o)) tm := by
 obtain ⟨hev, hRY⟩ := eD.at hR
 have hL : X1 ++ e :: X2 ++ F = X1 ++ e :: (X2 ++ F) := by simp
 intro d x hx
 rw [ob] at hx
 split at hx
 ·rename_i hd
  have hord : ∀ q oq, ops[q]? = some oq → oq.dst = some d → q ≠ e.i → lX ops e.i q ∨ lX ops q e.i := by
   intro q oq hq hdq hqi
   rcases List.mem_append.1 hd with hd | hd
   ·exact hD.sees e.i q e.o oq d hev.op hq (fun h => hqi h.symm) hdq hd
   ·unfold pa at hd
    split at hd
    ·rename_i g b hg
     have hgd : ((ops[g]?).bind (·.dst)) = some d := by simpa using hd
     cases hog : ops[g]? with
     | none => rw [hog] at hgd; cases hgd
     | some og =>
      rw [hog] at hgd
      by_cases hgq : g = q
      ·subst hgq; exact .inl (hD.guard e.i e.o g b hev.op hg)
      ·exact absurd hgd (hD.dst g q og oq d hog hq hgq hdq)
    ·simp at hd
  rcases hev.slots d with ⟨q, q1, q2, q3⟩ | ⟨q1, q2⟩
  ·rw [q3] at hx; cases hx
   obtain ⟨Ya, Yb, hY, hqev, _⟩ := eD.ok hRY q1
   have hqi : q.i ≠ e.i := hev.new q q1
   rcases hord q.i q.o hqev.op q2 hqi with p | p
   ·obtain ⟨y, y1, y2⟩ := h.vals q (by rw [hL]; simp; right; right; simpa using q1) (hpre _ p)
    exact ⟨y, bO (aE.to_le ρ (eD.before hev hRY q1)) _ _ y1, y2 d q2⟩
   ·obtain ⟨z, z1, z2⟩ := hqev.pre e.i p
    exact absurd z2 (hev.new z (by rw [hY]; simp; right; right; exact z1))
  ·rw [q2] at hx
   obtain ⟨y, y1, y2⟩ := h.olds d x hx (fun q hq hr hdq => by
    rw [hL] at hq
    obtain ⟨_, Y', _, k1, _⟩ := eD.ok hR hq
    by_cases hqi : q.i = e.i
    ·rw [hqi] at hr; exact hn hr
    ·rcases hord q.i q.o k1.op hdq hqi with p | p
     ·obtain ⟨z, z1, z2⟩ := hev.pre _ p
      have hz : z = q := eD.uniq hR (by simp; right; right; simpa using z1) hq z2
      subst hz
      exact q1 z z1 hdq
     ·exact hn (hcl q.i e.i hr p))
   exact ⟨y, bO (aE.to_le ρ (eD.start hev hRY)) _ _ y1, y2⟩
 ·cases hx
end
section
variable {E : cx} {rec : fO} {ops : Array Oper} {t0 : T V} {s0 : S} {ρ0 : aE} {w0 : World}
theorem zK {tm : Array Value} {o : Option Tmp} {y : Value} {d : Tmp} (h : o = some d) (hd : d < tm.size) : (nZ tm o y)[d]? = some y := by
 subst h; simp [nZ, hd]
theorem mL {tm : Array Value} {o : Option Tmp} {y : Value} {d : Tmp} (h : o ≠ some d) : (nZ tm o y)[d]? = tm[d]? := by
 cases o with
 | none => rfl
 | some i =>
  unfold nZ
  exact Array.getElem?_setIfInBounds_ne (fun e => h (by rw [e]))
section
variable {X1 X2 F : List Ev} {e : Ev} {R : Nat → Prop} {ρ : aE} {w : World} {tm : Array Value}
theorem oX {q : Ev} : q ∈ X1 ++ e :: X2 ++ F ↔ q ∈ X1 ++ e :: (X2 ++ F) := by simp
theorem As (hD : kB ops) (hR : eD E rec ops t0 s0 (X1 ++ e :: (X2 ++ F))) {q : Ev} (hq : q ∈ X1 ++ e :: (X2 ++ F)) (hi : q.i ≠ e.i) {d : Tmp} (hd : q.o.dst = some d) : e.o.dst ≠ some d := by
 obtain ⟨_, _, _, k1, _⟩ := eD.ok hR hq
 have k2 := (eD.at hR).1
 exact hD.dst e.i q.i e.o q.o d k2.op k1.op (fun h => hi h.symm) hd
theorem after (hR : eD E rec ops t0 s0 (X1 ++ e :: (X2 ++ F))) {q : Ev} (hq : q ∈ X1) : e.b.next ≤ q.a.next := by
 obtain ⟨Xa, Xb, rfl⟩ := List.append_of_mem hq
 have h2 : eD E rec ops t0 s0 (Xa ++ q :: (Xb ++ e :: (X2 ++ F))) := by simpa using hR
 obtain ⟨k1, k2⟩ := eD.at h2
 exact eD.before k1 k2 (by simp)
theorem vK.step (hD : kB ops) (h : vK E t0 s0 ρ0 w0 (X1 ++ e :: X2) F R ρ w tm) (hR : eD E rec ops t0 s0 (X1 ++ e :: (X2 ++ F))) (hk : ¬ kC E e.o) (hn : ¬ R e.i) {ρ' : aE} {w' : World} {y : Value}
 (hle : ρ.le ρ') (hkeep : ∀ f v, ρ' f v ≠ none → ρ f v ≠ none ∨ (f = e.a.next ∧ f < e.b.next)) (hsame : ∀ f v, f ≠ e.a.next → ρ' f v = ρ f v)
 (hwh : ∀ b, b < w.heap.size → w'.heap[b]? = w.heap[b]?) (hinj : WX ρ') (hlow : WW ρ' w') (hfr : FR ρ w ρ' w')
 (hv : den (ρ'.to e.b.next) e.v = some y) (hb : e.b = e.a ∨ ∃ B, e.b = e.a.alloc B ∧ yo (ρ'.to e.b.next) w' e.a.next B ∧ ∀ v l, ρ' e.a.next v = some l → ¬ l.ro) (hdst : ∀ d, e.o.dst = some d → d < tm.size) :
 vK E t0 s0 ρ0 w0 (X1 ++ e :: X2) F (with1 R e.i) ρ' w' (nZ tm e.o.dst y) := by
 obtain ⟨hev, hRY⟩ := eD.at hR
 have hNF : (cV s0 F).next ≤ e.a.next := by rw [hev.st]; exact eD.next_le hRY
 have uniq : ∀ q, q ∈ X1 ++ e :: (X2 ++ F) → q.i = e.i → q = e := fun q hq hi => eD.uniq hR hq (by simp) hi
 refine ⟨h.front, fun q hq => .inl (h.inF q hq), fun q hq hr => ?_, fun q hq hr => ?_, fun d x hx hno => ?_, fun q hq hr => ?_, ?_, hinj, hlow, fun f v hf => ?_, h.fr.trans hfr⟩
 ·rcases hr with hr | hr
  ·exact h.noE q hq hr
  ·have := uniq q (by rw [← oX]; exact List.mem_append_left _ hq) hr
   subst this; exact hk
 ·by_cases hi : q.i = e.i
  ·have := uniq q (oX.1 hq) hi
   subst this
   exact ⟨y, hv, fun d hd => zK hd (hdst d hd)⟩
  ·have hr : R q.i := hr.resolve_right hi
   obtain ⟨z, z1, z2⟩ := h.vals q hq hr
   exact ⟨z, bO (aE.to_mono hle _) _ _ z1, fun d hd => by rw [mL (As hD hR (oX.1 hq) hi hd)]; exact z2 d hd⟩
 ·obtain ⟨z, z1, z2⟩ := h.olds d x hx fun q hq hr => hno q hq (.inl hr)
  refine ⟨z, bO (aE.to_mono hle _) _ _ z1, ?_⟩
  rw [mL (hno e (by simp) (.inr rfl))]; exact z2
 ·by_cases hi : q.i = e.i
  ·have := uniq q (oX.1 (List.mem_append_left _ hq)) hi
   subst this; exact hb
  ·have hr : R q.i := hr.resolve_right hi
   rcases h.blks q hq hr with hqb | ⟨B, hqb, hB, hro⟩
   ·exact .inl hqb
   ·have hne0 : q.a.next = e.a.next → ∀ v l, ρ' q.a.next v = some l → ρ q.a.next v ≠ none := by
     intro hne v l hl hv
     have hqn : q.b.next = q.a.next + 1 := by rw [hqb, S.next_alloc]
     rcases hkeep q.a.next v (by rw [hl]; exact fun h => by cases h) with hc | ⟨_, hc⟩
     ·exact hc hv
     ·rcases List.mem_append.1 hq with hq1 | hq1
      ·have := after hR hq1; omega
      ·rcases List.mem_cons.1 hq1 with rfl | hq1
       ·exact hi rfl
       ·have := eD.before hev hRY (List.mem_append_left F hq1); omega
    refine .inr ⟨B, hqb, hB.keep (aE.to_mono hle _) (fun v hv => ?_) (fun v l hl => hwh _ (h.low _ _ _ (aE.to_lt hl).2)), fun v l hl => ?_⟩
    rotate_left
    ·cases hq0 : ρ q.a.next v with
     | none =>
      exfalso
      by_cases hne : q.a.next = e.a.next
      ·exact hne0 hne v l hl hq0
      ·rw [hsame _ _ hne, hq0] at hl; cases hl
     | some l0 =>
      have := hle _ _ _ hq0
      rw [hl] at this; cases this
      exact hro v l hq0
    have hqn : q.b.next = q.a.next + 1 := by rw [hqb, S.next_alloc]
    rw [aE.to_of (by omega)] at hv ⊢
    by_cases hne : q.a.next = e.a.next
    ·cases hq' : ρ' q.a.next v with
     | none => rfl
     | some l =>
      exfalso
      rcases hkeep q.a.next v (by rw [hq']; exact fun h => by cases h) with hc | ⟨_, hc⟩
      ·exact hc hv
      ·rcases List.mem_append.1 hq with hq1 | hq1
       ·have := after hR hq1; omega
       ·rcases List.mem_cons.1 hq1 with rfl | hq1
        ·exact hi rfl
        ·have := eD.before hev hRY (List.mem_append_left F hq1); omega
    ·rw [hsame _ _ hne]; exact hv
 ·have : ρ'.to (cV s0 F).next = ρ.to (cV s0 F).next := by
   funext f v
   by_cases hf : f < (cV s0 F).next
   ·rw [aE.to_of hf, aE.to_of hf, hsame f v (by omega)]
   ·rw [aE.to_ge (by omega), aE.to_ge (by omega)]
  rw [this]
  exact h.hr.frame hfr.size hwh
 ·rcases hkeep f v hf with hf | ⟨h1, h2⟩
  ·rcases h.fresh f v hf with hf | ⟨q, q1, q2, q3⟩
   ·exact .inl hf
   ·exact .inr ⟨q, q1, .inl q2, q3⟩
  ·exact .inr ⟨e, by simp, .inr rfl, h1, h2⟩
theorem vK.float (hD : kB ops) (h : vK E t0 s0 ρ0 w0 (X1 ++ e :: X2) F R ρ w tm) (hR : eD E rec ops t0 s0 (X1 ++ e :: (X2 ++ F))) (hk : ¬ kC E e.o) (hn : ¬ R e.i) (hcl : jx ops R) (hpre : ∀ k, lX ops e.i k → R k)
 (hdst : ∀ d, e.o.dst = some d → d < tm.size) :
 (Region.wanted e.o (yielded ops tm) = false ∧ vK E t0 s0 ρ0 w0 (X1 ++ e :: X2) F (with1 R e.i) ρ w (nZ tm e.o.dst undef)) ∨
 (Region.wanted e.o (yielded ops tm) = true ∧ ∃ y w' ρ', (execOp (rv tm) e.o).run E.P w = .ok (.value y) w' ∧ vK E t0 s0 ρ0 w0 (X1 ++ e :: X2) F (with1 R e.i) ρ' w' (nZ tm e.o.dst y)) := by
 obtain ⟨hev, hRY⟩ := eD.at hR
 have hT := h.env hD hR hn hcl hpre
 have hNF : (cV s0 F).next ≤ e.a.next := by rw [hev.st]; exact eD.next_le hRY
 have wsp : ∀ b, ba ops e.t e.o = some b → Region.wanted e.o (yielded ops tm) = b := fun b hb => by
  rw [← kM] at hb
  exact fh (fr := { (default : Frame) with tmps := tm }) hT hb
 have plain : ∀ y, den (ρ.to e.b.next) e.v = some y → e.b = e.a → vK E t0 s0 ρ0 w0 (X1 ++ e :: X2) F (with1 R e.i) ρ w (nZ tm e.o.dst y) := fun y hv hb =>
  vK.step hD h hR hk hn ρ.le_refl (fun f v hf => .inl hf) (fun _ _ _ => rfl) (fun _ _ => rfl) h.inj h.low (FR.refl ρ w) hv (.inl hb) hdst
 rcases hev.step with ⟨_, ⟨hw, hv, hb⟩ | ⟨hw, hf⟩⟩ | ⟨hk', _⟩
 ·left
  refine ⟨wsp _ hw, plain undef ?_ hb⟩
  rw [hv]; rfl
 ·right
  refine ⟨wsp _ hw, ?_⟩
  rcases hf with ⟨hk0, hb, s1, hd⟩ | ⟨hk1, hb, hd⟩ | ⟨hk2, hd⟩
  ·rw [← jQ (ops := ops)] at hd
   have hd' := Nk ⟨.leaf, e.a.next⟩ e.o hk0 hd
   obtain ⟨v, y, h1, h2, h3⟩ := zO (HR.bare h.inj h.low) hT e.o (by omega) hd'
   cases h1
   exact ⟨y, w, ρ, h2, plain y (by rw [hb]; exact h3) hb⟩
  ·obtain ⟨s1, hd⟩ := hd X2 F rfl h.front fun q hq hqe hp => h.noE q (by simp [hq]) (hpre _ hp) hqe
   rw [← jQ (ops := ops)] at hd
   have hd' := At (n' := e.a.next) (h := (cV s0 F).h) (n := (cV s0 F).next) e.o (by omega) hd
   obtain ⟨v, y, h1, h2, h3⟩ := zO (h.hr.widen h.inj h.low hNF) hT e.o (by omega) hd'
   cases h1
   exact ⟨y, w, ρ, h2, plain y (by rw [hb]; exact h3) hb⟩
  ·rw [← jQ (ops := ops)] at hd
   obtain ⟨mk, B, hm, y, obj, lim, n, hrun, hmk⟩ := ML (w := w) hT e.o hk2 hd
   have hm' := hm e.a
   simp only at hm'
   rw [hm'] at hd
   injection hd with hd; injection hd with hd1 hd2
   have hbn : e.b.next = e.a.next + 1 := by rw [← hd2, S.next_alloc]
   have hfree : ∀ v, ρ e.a.next v = none := by
    intro v
    cases hr : ρ e.a.next v with
    | none => rfl
    | some l =>
     exfalso
     rcases h.fresh e.a.next v (by rw [hr]; exact fun h => by cases h) with hf | ⟨q, q1, q2, q3, q4⟩
     ·omega
     ·rcases List.mem_append.1 q1 with hq1 | hq1
      ·have := after hR hq1; omega
      ·rcases List.mem_cons.1 hq1 with rfl | hq1
       ·exact hn q2
       ·have := eD.before hev hRY (List.mem_append_left F hq1); omega
   let ρ' := ρ.put e.a.next 0 ⟨w.heap.size, 0, lim⟩
   have hle : ρ.le ρ' := aE.le_put _ (hfree 0)
   have hto : (ρ.to e.a.next).le (ρ'.to e.b.next) := aE.le_trans (aE.to_mono hle _) (aE.to_le ρ' (by omega))
   obtain ⟨hv, hblk⟩ := hmk (ρ'.to e.b.next) e.a.next hto (by rw [aE.to_of (by omega)]; exact aE.put_same _ _ _ _) (fun v hv => by
    rw [aE.to_of (by omega)]
    show ρ.put _ _ _ _ _ = none
    unfold aE.put; rw [if_neg (by omega)]; exact hfree v)
   have hhp : ∀ b, b < w.heap.size → (({ w with drawn := n } : World).alloc obj).heap[b]? = w.heap[b]? := fun b hb => iX { w with drawn := n } obj hb
   refine ⟨y, _, ρ', hrun, vK.step hD h hR hk hn hle (fun f v hf => ?_) (fun f v hf => ?_) hhp ?_ ?_ ?_ (by rw [← hd1]; exact hv) (.inr ⟨B, hd2.symm, hblk _ ?_, fun v l hl => ?_⟩) hdst⟩
   ·cases hr : ρ' f v with
    | none => exact absurd hr hf
    | some l =>
     rcases aE.of_put hr with ⟨h1, _, _⟩ | h1
     ·exact .inr ⟨h1, by omega⟩
     ·exact .inl (by rw [h1]; exact fun h => by cases h)
   ·show ρ.put _ _ _ _ _ = _
    unfold aE.put; rw [if_neg (fun h => hf h.1)]
   ·intro f v l f' v' l' e1 e2 hb
    rcases aE.of_put e1 with ⟨rfl, rfl, rfl⟩ | e1
    ·rcases aE.of_put e2 with ⟨rfl, rfl, rfl⟩ | e2
     ·exact ⟨rfl, rfl⟩
     ·have := h.low _ _ _ e2; simp at hb; omega
    ·rcases aE.of_put e2 with ⟨rfl, rfl, rfl⟩ | e2
     ·have := h.low _ _ _ e1; simp at hb; omega
     ·exact h.inj _ _ _ _ _ _ e1 e2 hb
   ·intro f v l e1
    rcases aE.of_put e1 with ⟨rfl, rfl, rfl⟩ | e1
    ·simp
    ·have := h.low _ _ _ e1; simp; omega
   ·refine ⟨hle, by simp, rfl, rfl, rfl, fun b hb _ => hhp b hb, fun f v l e1 hl => ?_⟩
    rcases aE.of_put e1 with ⟨rfl, rfl, rfl⟩ | e1
    ·simp at hl
    ·exact ⟨f, v, l, e1, rfl, id⟩
   ·exact eO { w with drawn := n } obj
   ·rcases aE.of_put hl with ⟨_, rfl, rfl⟩ | hl
    ·show ¬ (lim < 0); omega
    ·rw [hfree v] at hl; cases hl
 ·exact absurd hk' hk
theorem vK.effect (hD : kB ops) (h : vK E t0 s0 ρ0 w0 (X1 ++ e :: X2) F R ρ w tm) (hR : eD E rec ops t0 s0 (X1 ++ e :: (X2 ++ F))) (hk : kC E e.o) (hn : ¬ R e.i) (hX2 : ∀ q ∈ X2, R q.i) {ρ1 : aE} {w' : World} {y : Value}
 (h1 : HR ρ1 e.b w') (h2 : FR (ρ.to e.a.next) w ρ1 w') (hv : den ρ1 e.v = some y) (hdst : ∀ d, e.o.dst = some d → d < tm.size) :
 ∃ ρ', vK E t0 s0 ρ0 w0 X1 (e :: (X2 ++ F)) (with1 R e.i) ρ' w' (nZ tm e.o.dst y) := by
 obtain ⟨hev, hRY⟩ := eD.at hR
 have hNF : (cV s0 F).next ≤ e.a.next := by rw [hev.st]; exact eD.next_le hRY
 have hab := hev.next_le
 have uniq : ∀ q, q ∈ X1 ++ e :: (X2 ++ F) → q.i = e.i → q = e := fun q hq hi => eD.uniq hR hq (by simp) hi
 have notX1 : ∀ q ∈ X1, q.i ≠ e.i := by
  intro q hq hi
  have := uniq q (by simp [hq]) hi
  subst this
  obtain ⟨Xa, Xb, rfl⟩ := List.append_of_mem hq
  have h2 : eD E rec ops t0 s0 (Xa ++ q :: (Xb ++ q :: (X2 ++ F))) := by simpa using hR
  exact (eD.at h2).1.new q (by simp) rfl
 have early : ∀ f v, ρ f v ≠ none → f < e.a.next ∨ (e.b.next ≤ f ∧ ∃ q ∈ X1, R q.i ∧ f = q.a.next ∧ f < q.b.next) := by
  intro f v hf
  rcases h.fresh f v hf with hf | ⟨q, q1, q2, q3, q4⟩
  ·exact .inl (by omega)
  ·rcases List.mem_append.1 q1 with hq1 | hq1
   ·have := after hR hq1
    exact .inr ⟨by omega, q, hq1, q2, q3, q4⟩
   ·rcases List.mem_cons.1 hq1 with rfl | hq1
    ·exact absurd q2 hn
    ·have := eD.before hev hRY (List.mem_append_left F hq1)
     exact .inl (by omega)
 let ρ' : aE := fun f v => if f < e.b.next then ρ1 f v else ρ f v
 have ρlt : ∀ {f v}, f < e.b.next → ρ' f v = ρ1 f v := fun {f v} hf => by show (if _ then _ else _) = _; rw [if_pos hf]
 have ρge : ∀ {f v}, e.b.next ≤ f → ρ' f v = ρ f v := fun {f v} hf => by show (if _ then _ else _) = _; rw [if_neg (by omega)]
 have hto : ρ'.to e.b.next = ρ1 := by
  funext f v
  by_cases hf : f < e.b.next
  ·rw [aE.to_of hf, ρlt hf]
  ·rw [aE.to_ge (by omega), h1.fresh f v (by omega)]
 have hle : ρ.le ρ' := fun f v l hl => by
  rcases early f v (by rw [hl]; exact fun h => by cases h) with hf | ⟨hf, _⟩
  ·rw [ρlt (by omega)]
   exact h2.ext f v l (by rw [aE.to_of hf]; exact hl)
  ·rw [ρge hf]; exact hl
 have hfr : FR ρ w ρ' w' := by
  refine ⟨hle, h2.size, h2.os, h2.tape, h2.output, fun b hb hno => h2.same b hb fun f v l hl hro => hno f v l (aE.to_lt hl).2 hro, fun f v l hl hb => ?_⟩
  by_cases hf : f < e.b.next
  ·rw [ρlt hf] at hl
   obtain ⟨f', v', l', k1, k2⟩ := h2.new f v l hl hb
   exact ⟨f', v', l', (aE.to_lt k1).2, k2⟩
  ·rw [ρge (by omega)] at hl
   exact ⟨f, v, l, hl, rfl, id⟩
 have apart : ∀ f v l f' v' l', f < e.b.next → e.b.next ≤ f' → ρ' f v = some l → ρ' f' v' = some l' → l.b ≠ l'.b := by
  intro f v l f' v' l' hf hf' e1 e2 hb
  rw [ρlt hf] at e1
  rw [ρge hf'] at e2
  have hl := h.low _ _ _ e2
  obtain ⟨f2, v2, l2, k1, k2, _⟩ := h2.new f v l e1 (by omega)
  obtain ⟨k3, k4⟩ := aE.to_lt k1
  have := (h.inj _ _ _ _ _ _ k4 e2 (by omega)).1
  omega
 refine ⟨ρ', hk, fun q hq => ?_, fun q hq hr => ?_, fun q hq hr => ?_, fun d x hx hno => ?_, fun q hq hr => ?_, ?_, ?_, ?_, fun f v hf => ?_, h.fr.trans hfr⟩
 ·rcases List.mem_cons.1 hq with rfl | hq
  ·exact .inr rfl
  ·rcases List.mem_append.1 hq with hq | hq
   ·exact .inl (hX2 q hq)
   ·exact .inl (h.inF q hq)
 ·exact h.noE q (by simp [hq]) (hr.resolve_right (notX1 q hq))
 ·by_cases hi : q.i = e.i
  ·have := uniq q hq hi
   subst this
   exact ⟨y, by rw [hto]; exact hv, fun d hd => zK hd (hdst d hd)⟩
  ·have hr : R q.i := hr.resolve_right hi
   obtain ⟨z, z1, z2⟩ := h.vals q (oX.2 hq) hr
   exact ⟨z, bO (aE.to_mono hle _) _ _ z1, fun d hd => by rw [mL (As hD hR hq hi hd)]; exact z2 d hd⟩
 ·obtain ⟨z, z1, z2⟩ := h.olds d x hx fun q hq hr => hno q (oX.1 hq) (.inl hr)
  refine ⟨z, bO (aE.to_mono hle _) _ _ z1, ?_⟩
  rw [mL (hno e (by simp) (.inr rfl))]; exact z2
 ·have hr : R q.i := hr.resolve_right (notX1 q hq)
  have haf := after hR hq
  rcases h.blks q (by simp [hq]) hr with hqb | ⟨B, hqb, hB, hro⟩
  ·exact .inl hqb
  ·have hqn : q.b.next = q.a.next + 1 := by rw [hqb, S.next_alloc]
   refine .inr ⟨B, hqb, hB.keep (aE.to_mono hle _) (fun v hv => ?_) (fun v l hl => ?_), fun v l hl => hro v l (by rw [ρge haf] at hl; exact hl)⟩
   ·rw [aE.to_of (by omega)] at hv ⊢
    rw [ρge haf]; exact hv
   ·have hl' := (aE.to_lt hl).2
    refine h2.same _ (h.low _ _ _ hl') fun f v' l' hf _ hb => ?_
    obtain ⟨k1, k2⟩ := aE.to_lt hf
    have := (h.inj _ _ _ _ _ _ k2 hl' hb).1
    omega
 ·show HR (ρ'.to e.b.next) e.b w'
  rw [hto]; exact h1
 ·intro f v l f' v' l' e1 e2 hb
  by_cases hf : f < e.b.next
  ·by_cases hf' : f' < e.b.next
   ·rw [ρlt hf] at e1; rw [ρlt hf'] at e2
    exact h1.inj _ _ _ _ _ _ e1 e2 hb
   ·exact absurd hb (apart _ _ _ _ _ _ hf (by omega) e1 e2)
  ·by_cases hf' : f' < e.b.next
   ·exact absurd hb.symm (apart _ _ _ _ _ _ hf' (by omega) e2 e1)
   ·rw [ρge (by omega)] at e1 e2
    exact h.inj _ _ _ _ _ _ e1 e2 hb
 ·intro f v l e1
  by_cases hf : f < e.b.next
  ·rw [ρlt hf] at e1; exact h1.low _ _ _ e1
  ·rw [ρge (by omega)] at e1
   exact Nat.lt_of_lt_of_le (h.low _ _ _ e1) h2.size
 ·show f < e.b.next ∨ _
  by_cases hfe : f < e.b.next
  ·exact .inl hfe
  ·rw [ρge (by omega)] at hf
   rcases early f v hf with hf | ⟨_, q, q1, q2, q3⟩
   ·exact absurd (Nat.lt_of_lt_of_le hf hab) hfe
   ·exact .inr ⟨q, q1, .inl q2, q3⟩
end
end
end Go.AI
