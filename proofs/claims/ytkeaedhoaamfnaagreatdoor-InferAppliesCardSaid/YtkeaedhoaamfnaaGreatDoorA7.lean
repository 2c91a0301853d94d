/- The evaluator by which runs of the program are reckoned, and that it is sound: part 7. No conditions beyond those of the row. -/
import Derived.Test.YtkeaedhoaamfnaaGreatDoorA6
set_option linter.unusedVariables false
set_option linter.unusedSimpArgs false
noncomputable section
/- What must come before an operation of a region. -/
namespace Go.AI
theorem fold_mask (acc : List Nat) (k : Nat) : ∀ (l : List Edge) (s : Nat), (l.foldl (fun s e => bif Region.binds .any e then Nat.lor s (Nat.lor (Nat.pow 2 e.on) (acc.getD e.on 0)) else s) s).testBit k = true ↔
    s.testBit k = true ∨ ∃ e ∈ l, Region.binds .any e = true ∧ (k = e.on ∨ (acc.getD e.on 0).testBit k = true)
  | [], s => by simp
  | e :: l, s => by
    rw [List.foldl_cons, fold_mask acc k l]
    cases hb : Region.binds .any e with
    | false =>
      simp only [cond_false, List.mem_cons, exists_eq_or_imp, hb, Bool.false_eq_true, false_and, false_or]
    | true =>
      simp only [cond_true, List.mem_cons, exists_eq_or_imp, hb, true_and]
      have : (Nat.lor s (Nat.lor (Nat.pow 2 e.on) (acc.getD e.on 0))).testBit k = (s.testBit k || (decide (e.on = k) || (acc.getD e.on 0).testBit k)) := by
        show (s ||| (2 ^ e.on ||| acc.getD e.on 0)).testBit k = _
        rw [Nat.testBit_or, Nat.testBit_or, Nat.testBit_two_pow]
      rw [this]
      simp only [Bool.or_eq_true, decide_eq_true_eq]
      constructor
      · rintro ((h | h | h) | h)
        · exact .inl h
        · exact .inr (.inl (.inl h.symm))
        · exact .inr (.inl (.inr h))
        · exact .inr (.inr h)
      · rintro (h | (h | h) | h)
        · exact .inl (.inl h)
        · exact .inl (.inr (.inl h.symm))
        · exact .inl (.inr (.inr h))
        · exact .inr h
theorem maskOf_bit (o : Oper) (acc : List Nat) (k : Nat) : (maskOf o acc).testBit k = true ↔ ∃ e ∈ o.after, Region.binds .any e = true ∧ (k = e.on ∨ (acc.getD e.on 0).testBit k = true) := by
  unfold maskOf
  rw [fold_mask]
  simp
theorem masks_pre : ∀ (l : List Oper) (acc : List Nat), ∃ r, masks l acc = acc ++ r ∧ r.length = l.length ∧ ∀ j o, l[j]? = some o → r[j]? = some (maskOf o (acc ++ r.take j))
  | [], acc => ⟨[], by simp [masks], rfl, fun j o h => by simp at h⟩
  | o :: l, acc => by
    obtain ⟨r, h1, h2, h3⟩ := masks_pre l (acc ++ [maskOf o acc])
    refine ⟨maskOf o acc :: r, by simp [masks, h1], by simp [h2], fun j o' hj => ?_⟩
    cases j with
    | zero => simp at hj; subst hj; simp
    | succ j =>
      simp at hj
      have := h3 j o' hj
      simpa using this
def Pre (ops : Array Oper) (i k : Nat) : Prop := ((masks ops.toList []).getD i 0).testBit k = true
theorem masks_at {ops : Array Oper} {i : Nat} {o : Oper} (ho : ops[i]? = some o) : (masks ops.toList []).getD i 0 = maskOf o ((masks ops.toList []).take i) := by
  obtain ⟨r, h1, h2, h3⟩ := masks_pre ops.toList []
  rw [List.nil_append] at h1
  rw [h1]
  have := h3 i o (by simpa using ho)
  rw [List.nil_append] at this
  rw [List.getD_eq_getElem?_getD, this]
  rfl
def EdgesBack (ops : Array Oper) : Prop := ∀ i o, ops[i]? = some o → ∀ e ∈ o.after, Region.binds .any e = true → e.on < i
theorem take_getD {l : List Nat} {i j : Nat} (h : j < i) : (l.take i).getD j 0 = l.getD j 0 := by
  rw [List.getD_eq_getElem?_getD, List.getD_eq_getElem?_getD, List.getElem?_take_of_lt h]
theorem pre_iff {ops : Array Oper} (hE : EdgesBack ops) {i k : Nat} {o : Oper} (ho : ops[i]? = some o) : Pre ops i k ↔ ∃ e ∈ o.after, Region.binds .any e = true ∧ (k = e.on ∨ Pre ops e.on k) := by
  unfold Pre
  rw [masks_at ho, maskOf_bit]
  constructor
  · rintro ⟨e, h1, h2, h3⟩
    rw [take_getD (hE i o ho e h1 h2)] at h3
    exact ⟨e, h1, h2, h3⟩
  · rintro ⟨e, h1, h2, h3⟩
    refine ⟨e, h1, h2, ?_⟩
    rw [take_getD (hE i o ho e h1 h2)]
    exact h3
theorem pre_out {ops : Array Oper} {i k : Nat} (h : Pre ops i k) : ∃ o, ops[i]? = some o := by
  cases ho : ops[i]? with
  | some o => exact ⟨o, rfl⟩
  | none =>
    exfalso
    unfold Pre at h
    obtain ⟨r, h1, h2, h3⟩ := masks_pre ops.toList []
    rw [List.nil_append] at h1
    have hi : ops.size ≤ i := by
      rcases Nat.lt_or_ge i ops.size with h' | h'
      · rw [Array.getElem?_eq_getElem h'] at ho; cases ho
      · exact h'
    rw [h1, List.getD_eq_getElem?_getD, List.getElem?_eq_none (by rw [h2]; simpa using hi)] at h
    simp at h
theorem pre_lt {ops : Array Oper} (hE : EdgesBack ops) : ∀ (i k : Nat), Pre ops i k → k < i := by
  intro i
  induction i using Nat.strongRecOn with
  | ind i ih =>
    intro k h
    obtain ⟨o, ho⟩ := pre_out h
    obtain ⟨e, h1, h2, h3⟩ := (pre_iff hE ho).1 h
    have hb := hE i o ho e h1 h2
    rcases h3 with rfl | h3
    · exact hb
    · exact Nat.lt_trans (ih e.on hb k h3) hb
theorem pre_trans {ops : Array Oper} (hE : EdgesBack ops) : ∀ (i k m : Nat), Pre ops i k → Pre ops k m → Pre ops i m := by
  intro i
  induction i using Nat.strongRecOn with
  | ind i ih =>
    intro k m h hm
    obtain ⟨o, ho⟩ := pre_out h
    obtain ⟨e, h1, h2, h3⟩ := (pre_iff hE ho).1 h
    refine (pre_iff hE ho).2 ⟨e, h1, h2, .inr ?_⟩
    rcases h3 with rfl | h3
    · exact hm
    · exact ih e.on (hE i o ho e h1 h2) k m h3 hm
end Go.AI
/- What a region's text gives. -/
namespace Go.AI
theorem number_mem : ∀ {l : List Oper} {i k : Nat} {o : Oper}, (k, o) ∈ number l i ↔ i ≤ k ∧ l[k - i]? = some o
  | [], i, k, o => by simp [number]
  | x :: l, i, k, o => by
    simp only [number, List.mem_cons, Prod.mk.injEq]
    rw [number_mem (l := l) (i := i + 1)]
    constructor
    · rintro (⟨rfl, rfl⟩ | ⟨h1, h2⟩)
      · simp
      · exact ⟨by omega, by rw [show k - i = (k - (i + 1)) + 1 by omega]; simpa using h2⟩
    · rintro ⟨h1, h2⟩
      by_cases hk : k = i
      · left; subst hk; simp at h2; exact ⟨rfl, h2.symm⟩
      · right; refine ⟨by omega, ?_⟩
        rw [show k - i = (k - (i + 1)) + 1 by omega] at h2; simpa using h2
theorem number_ops {ops : Array Oper} {k : Nat} {o : Oper} : (k, o) ∈ number ops.toList 0 ↔ ops[k]? = some o := by
  rw [number_mem]; simp
structure DataOk (ops : Array Oper) : Prop where
  back : EdgesBack ops
  guard : ∀ (i : Nat) (o : Oper) (g : Nat) (b : Bool), ops[i]? = some o → o.guard = some (g, b) → Pre ops i g
  dst : ∀ (i j : Nat) (o q : Oper) (d : Tmp), ops[i]? = some o → ops[j]? = some q → i ≠ j → q.dst = some d → o.dst ≠ some d
  sees : ∀ (i j : Nat) (o q : Oper) (d : Tmp), ops[i]? = some o → ops[j]? = some q → i ≠ j → q.dst = some d → d ∈ sees o → Pre ops i j ∨ Pre ops j i
theorem dataOk_spec {ops : Array Oper} (h : dataOk (masks ops.toList []) (number ops.toList 0) = true) : DataOk ops := by
  have key : ∀ i o, ops[i]? = some o → _ := fun i o ho => List.all_eq_true.1 h (i, o) (number_ops.2 ho)
  refine ⟨fun i o ho e he hb => ?_, fun i o g b ho hg => ?_, fun i j o q d ho hq hij hd => ?_, fun i j o q d ho hq hij hd hs => ?_⟩
  · have := key i o ho
    simp only [Bool.and_eq_true] at this
    have h2 := List.all_eq_true.1 this.1.1 e (by simpa using he)
    rw [hb] at h2
    exact blt_lt (by simpa using h2)
  · have := key i o ho
    simp only [Bool.and_eq_true] at this
    have h2 := this.1.2
    rw [hg] at h2
    exact h2
  · have := key i o ho
    simp only [Bool.and_eq_true] at this
    have h2 := List.all_eq_true.1 this.2 (j, q) (number_ops.2 hq)
    have hb : Nat.beq i j = false := by
      cases hb : Nat.beq i j with
      | false => rfl
      | true => exact absurd (Nat.eq_of_beq_eq_true hb) hij
    simp only [hb, hd, Bool.false_or, Bool.and_eq_true] at h2
    intro hc
    rw [hc] at h2
    simp at h2
  · have := key i o ho
    simp only [Bool.and_eq_true] at this
    have h2 := List.all_eq_true.1 this.2 (j, q) (number_ops.2 hq)
    have hb : Nat.beq i j = false := by
      cases hb : Nat.beq i j with
      | false => rfl
      | true => exact absurd (Nat.eq_of_beq_eq_true hb) hij
    simp only [hb, hd, Bool.false_or, Bool.and_eq_true] at h2
    have h3 := h2.2
    have hc : (sees o).contains d = true := by simpa using hs
    rw [hc] at h3
    simp only [Bool.not_true, Bool.false_or, Bool.or_eq_true] at h3
    exact h3
end Go.AI
/- Environments in a region. -/
namespace Go.AI
def Looks (ops : Array Oper) (t0 : T V) (val : Nat → V) (R : Nat → Prop) (d : Tmp) (x : Option V) : Prop :=
  (∃ q o, ops[q]? = some o ∧ o.dst = some d ∧ R q ∧ x = some (val q)) ∨ ((∀ q o, ops[q]? = some o → o.dst = some d → ¬ R q) ∧ x = t0.get (pth d))
def Tof (ops : Array Oper) (t0 : T V) (val : Nat → V) (R : Nat → Prop) (t : T V) : Prop := ∀ d, Looks ops t0 val R d (t.get (pth d))
def Closed (ops : Array Oper) (R : Nat → Prop) : Prop := ∀ i k, R i → Pre ops i k → R k
def with1 (R : Nat → Prop) (i : Nat) : Nat → Prop := fun k => R k ∨ k = i
theorem Closed.with1 {ops : Array Oper} {R : Nat → Prop} (h : Closed ops R) {i : Nat} (hi : ∀ k, Pre ops i k → R k) : Closed ops (with1 R i) := by
  intro a k ha hk
  rcases ha with ha | rfl
  · exact .inl (h a k ha hk)
  · exact .inl (hi k hk)
theorem Tof.none {ops : Array Oper} {t0 : T V} {val : Nat → V} {R : Nat → Prop} (h : ∀ q, ¬ R q) : Tof ops t0 val R t0 := fun d => .inr ⟨fun q _ _ _ => h q, rfl⟩
theorem get_putD (t : T V) (d : Option Tmp) (v : V) (i : Nat) : (putD t d v).get (pth i) = if d = some i then some v else t.get (pth i) := get_putT t d (some v) i
theorem Tof.put {ops : Array Oper} (hD : DataOk ops) {t0 : T V} {val : Nat → V} {R : Nat → Prop} {t : T V} (h : Tof ops t0 val R t) {i : Nat} {o : Oper} (ho : ops[i]? = some o) : Tof ops t0 val (with1 R i) (putD t o.dst (val i)) := by
  intro d
  rw [get_putD]
  by_cases hd : o.dst = some d
  · rw [if_pos hd]
    exact .inl ⟨i, o, ho, hd, .inr rfl, rfl⟩
  · rw [if_neg hd]
    rcases h d with ⟨q, oq, h1, h2, h3, h4⟩ | ⟨h1, h2⟩
    · exact .inl ⟨q, oq, h1, h2, .inl h3, h4⟩
    · refine .inr ⟨fun q oq hq hdq hr => ?_, h2⟩
      rcases hr with hr | rfl
      · exact h1 q oq hq hdq hr
      · rw [ho] at hq; cases hq; exact hd hdq
end Go.AI
/- The canonical run of a region that draws its order, as a list of events (the last one first). -/
namespace Go.AI
mutual
theorem sameV_spec : ∀ {x y : V}, sameVs.sameV x y = true → x = y
  | .bool a, y, h => by cases y <;> simp [sameVs.sameV] at h; rw [h]
  | .int j a, y, h => by cases y <;> simp [sameVs.sameV] at h; rw [h.1, h.2]
  | .str a, y, h => by cases y <;> simp [sameVs.sameV] at h; rw [h]
  | .ptr a, y, h => by
    cases y <;> simp [sameVs.sameV] at h
    rename_i b
    obtain ⟨⟨h1, h2⟩, h3⟩ := h
    cases a; cases b; simp_all
  | .nilptr, y, h => by cases y <;> simp [sameVs.sameV] at h; rfl
  | .slice a z n c sz, y, h => by
    cases y <;> simp [sameVs.sameV] at h
    rename_i b y m d sy
    cases a; cases b; simp_all
  | .nilslice, y, h => by cases y <;> simp [sameVs.sameV] at h; rfl
  | .map a, y, h => by cases y <;> simp [sameVs.sameV] at h; rw [h]
  | .nilmap, y, h => by cases y <;> simp [sameVs.sameV] at h; rfl
  | .nilFunc, y, h => by cases y <;> simp [sameVs.sameV] at h; rfl
  | .nilIface, y, h => by cases y <;> simp [sameVs.sameV] at h; rfl
  | .func f a b, y, h => by
    cases y <;> simp [sameVs.sameV] at h
    rename_i g c d
    obtain ⟨⟨h1, h2⟩, h3⟩ := h
    rw [h1, sameVs_spec h2, sameVs_spec h3]
  | .iface t v, y, h => by
    cases y <;> simp [sameVs.sameV] at h
    rw [h.1, sameV_spec h.2]
  | .agg a, y, h => by
    cases y <;> simp [sameVs.sameV] at h
    rw [sameVs_spec h]
  | .atom a, y, h => by cases y <;> simp [sameVs.sameV] at h; rw [h]
  | .tuple a, y, h => by
    cases y <;> simp [sameVs.sameV] at h
    rw [sameVs_spec h]
theorem sameVs_spec : ∀ {x y : List V}, sameVs x y = true → x = y
  | [], y, h => by cases y <;> simp [sameVs] at h; rfl
  | v :: x, y, h => by
    cases y with
    | nil => simp [sameVs] at h
    | cons u y =>
      simp only [sameVs, Bool.and_eq_true] at h
      rw [sameV_spec h.1, sameVs_spec h.2]
end
theorem readAll_spec {E : Env} {t : T V} {o : Oper} : ∀ {l : List S} {v : V}, readAll E t o l = some v → ∀ s ∈ l, ∃ s1, doOp E t s o = some (.val v s1)
  | [], v, h => by cases h
  | [s], v, h => fun s' hs => by
    simp at hs; subst hs
    simp only [readAll] at h
    split at h
    · rename_i u s1 hu; cases h; exact ⟨s1, hu⟩
    · cases h
  | s :: s2 :: r, v, h => fun s' hs => by
    simp only [readAll] at h
    split at h
    · rename_i u s1 hu
      split at h
      · rename_i y hy
        cases hb : sameVs [u] [y] with
        | false => rw [hb] at h; cases h
        | true =>
          rw [hb] at h
          cases h
          have := sameVs_spec hb
          simp at this
          subst this
          rcases List.mem_cons.1 hs with rfl | hs
          · exact ⟨s1, hu⟩
          · exact readAll_spec hy s' hs
      · cases h
    · cases h
theorem effAll_val {E : Env} {rec : RecF} {t : T V} {s : S} {o : Oper} {b : Option Bool} {v : V} {s' : S} : effAll E rec t s o b = some (.val v s') ↔ effStep E rec t s o b = some (v, s') := by
  cases b with
  | none => simp [effAll, effStep]
  | some b => cases b with
    | false => simp [effAll, effStep]
    | true =>
      simp only [effAll, effStep]
      cases doOp E t s o with
      | none => simp [effDoA, effDo]
      | some x => cases x with
        | enter f args s1 =>
          simp only [effDoA, effDo]
          cases rec f args none s1 with
          | none => simp [effEndA, effEnd]
          | some out => obtain ⟨e, u, s2⟩ := out; cases e <;> simp [effEndA, effEnd]
        | _ => simp [effDoA, effDo]
structure Ev where
  i : Nat
  o : Oper
  v : V
  t : T V
  a : S
  b : S
section
variable (E : Env) (rec : RecF) (ops : Array Oper) (t0 : T V) (s0 : S)
def Act3 (o : Oper) : Prop := opKind E.P o.op = 3
def stOf : List Ev → S
  | [] => s0
  | e :: _ => e.b
def Front : List Ev → Prop
  | [] => True
  | e :: _ => Act3 E e.o
def Slots (Y : List Ev) (t : T V) : Prop := ∀ d, (∃ q ∈ Y, q.o.dst = some d ∧ t.get (pth d) = some q.v) ∨ ((∀ q ∈ Y, q.o.dst ≠ some d) ∧ t.get (pth d) = t0.get (pth d))
def Float1 (Y : List Ev) (e : Ev) : Prop :=
  (opKind E.P e.o.op = 0 ∧ e.b = e.a ∧ ∃ s1, doOp E e.t e.a e.o = some (.val e.v s1)) ∨
  (opKind E.P e.o.op = 1 ∧ e.b = e.a ∧ ∀ Z F, Y = Z ++ F → Front E F → (∀ q ∈ Z, Act3 E q.o → ¬ Pre ops e.i q.i) → ∃ s1, doOp E e.t (stOf s0 F) e.o = some (.val e.v s1)) ∨
  (opKind E.P e.o.op = 2 ∧ doOp E e.t e.a e.o = some (.val e.v e.b))
def StepOk (Y : List Ev) (e : Ev) : Prop :=
  (¬ Act3 E e.o ∧ ((wantedV ops e.t e.o = some false ∧ e.v = V.undef ∧ e.b = e.a) ∨ (wantedV ops e.t e.o = some true ∧ Float1 E ops s0 Y e))) ∨
  (Act3 E e.o ∧ effStep E rec e.t e.a e.o (wantedV ops e.t e.o) = some (e.v, e.b) ∧ e.a.next ≤ e.b.next ∧ ∀ q ∈ Y, Pre ops e.i q.i)
structure EvOk (Y : List Ev) (e : Ev) : Prop where
  op : ops[e.i]? = some e.o
  pre : ∀ k, Pre ops e.i k → ∃ q ∈ Y, q.i = k
  new : ∀ q ∈ Y, q.i ≠ e.i
  slots : Slots t0 Y e.t
  st : e.a = stOf s0 Y
  step : StepOk E rec ops s0 Y e
def Run : List Ev → Prop
  | [] => True
  | e :: Y => EvOk E rec ops t0 s0 Y e ∧ Run Y
def histOf (n : Nat) : List Ev → List (Nat × S)
  | [] => [(n, s0)]
  | e :: Y => if opKind E.P e.o.op = 3 then (e.i, e.b) :: histOf n Y else histOf n Y
end
section
variable {E : Env} {rec : RecF} {ops : Array Oper} {t0 : T V} {s0 : S}
theorem Slots.put {Y : List Ev} {t : T V} (h : Slots t0 Y t) (e : Ev) : Slots t0 (e :: Y) (putD t e.o.dst e.v) := by
  intro d
  rw [get_putD]
  by_cases hd : e.o.dst = some d
  · rw [if_pos hd]
    exact .inl ⟨e, by simp, hd, rfl⟩
  · rw [if_neg hd]
    rcases h d with ⟨q, h1, h2, h3⟩ | ⟨h1, h2⟩
    · exact .inl ⟨q, List.mem_cons_of_mem _ h1, h2, h3⟩
    · refine .inr ⟨fun q hq => ?_, h2⟩
      rcases List.mem_cons.1 hq with rfl | hq
      · exact hd
      · exact h1 q hq
theorem histTo_mem {m n : Nat} : ∀ {Z F : List Ev}, Front E F → (∀ q ∈ Z, Act3 E q.o → ¬ m.testBit q.i = true) → stOf s0 F ∈ histTo m (histOf E s0 n (Z ++ F))
  | [], [], _, _ => by simp [histOf, histTo, stOf]
  | [], e :: F, h, _ => by
    have h : opKind E.P e.o.op = 3 := h
    simp [histOf, h, histTo, stOf]
  | z :: Z, F, h, hz => by
    have ih := histTo_mem (n := n) (Z := Z) h (fun q hq => hz q (List.mem_cons_of_mem _ hq))
    simp only [List.cons_append, histOf]
    split
    · rename_i hk
      have := hz z (by simp) hk
      have hb : m.testBit z.i = false := by simpa using this
      simp only [histTo, hb, cond_false]
      exact List.mem_cons_of_mem _ ih
    · exact ih
theorem floatStep_ok {ms : List Nat} (hms : ms = masks ops.toList []) {Y : List Ev} {t : T V} {s : S} {i n : Nat} {o : Oper} {v : V} {s' : S} (hk : ¬ Act3 E o)
    (hs : s = stOf s0 Y) (e : floatStep E (histOf E s0 n Y) (ms.getD i 0) t s o (wantedV ops t o) = some (v, s')) : StepOk E rec ops s0 Y ⟨i, o, v, t, s, s'⟩ := by
  left
  refine ⟨hk, ?_⟩
  unfold floatStep at e
  split at e
  · rename_i hw
    right
    refine ⟨hw, ?_⟩
    unfold floatDo at e
    split at e
    · rename_i hk0
      left
      unfold valOnly at e
      split at e
      · rename_i u s1 hu; cases e; exact ⟨hk0, rfl, s1, hu⟩
      · cases e
    · rename_i hk1
      right; left
      unfold readBoth at e
      split at e
      · rename_i u hu
        cases e
        refine ⟨hk1, rfl, fun Z F hY hF hZ => ?_⟩
        subst hY
        refine readAll_spec hu _ (histTo_mem hF fun q hq ha hb => hZ q hq ha ?_)
        subst hms
        exact hb
      · cases e
    · rename_i hk2
      right; right
      unfold valBoth at e
      split at e
      · rename_i u s1 hu; cases e; exact ⟨hk2, hu⟩
      · cases e
    · cases e
  · rename_i hw
    cases e
    exact .inl ⟨hw, rfl, rfl⟩
  · cases e
theorem testBit_or_pow (d i k : Nat) : (Nat.lor d (Nat.pow 2 i)).testBit k = (d.testBit k || decide (i = k)) := by
  show (d ||| 2 ^ i).testBit k = _
  rw [Nat.testBit_or, Nat.testBit_two_pow]
def DoneOk (done : Nat) (Y : List Ev) : Prop := ∀ k, done.testBit k = true ↔ ∃ q ∈ Y, q.i = k
theorem DoneOk.cons {done : Nat} {Y : List Ev} (h : DoneOk done Y) (e : Ev) : DoneOk (Nat.lor done (Nat.pow 2 e.i)) (e :: Y) := by
  intro k
  rw [testBit_or_pow, Bool.or_eq_true, h k]
  simp only [decide_eq_true_eq]
  constructor
  · rintro (⟨q, h1, h2⟩ | h)
    · exact ⟨q, List.mem_cons_of_mem _ h1, h2⟩
    · exact ⟨e, by simp, h⟩
  · rintro ⟨q, hq, h2⟩
    rcases List.mem_cons.1 hq with rfl | hq
    · exact .inr h2
    · exact .inl ⟨q, hq, h2⟩
structure St (E : Env) (rec : RecF) (ops : Array Oper) (t0 : T V) (s0 : S) (Y : List Ev) (done : Nat) (t : T V) (s : S) : Prop where
  run : Run E rec ops t0 s0 Y
  done : DoneOk done Y
  slots : Slots t0 Y t
  st : s = stOf s0 Y
theorem histOf_floats {n : Nat} : ∀ {Z Y : List Ev}, (∀ q ∈ Z, ¬ Act3 E q.o) → histOf E s0 n (Z ++ Y) = histOf E s0 n Y
  | [], _, _ => rfl
  | z :: Z, Y, h => by
    have hz : ¬ opKind E.P z.o.op = 3 := h z (by simp)
    simp only [List.cons_append, histOf, if_neg hz]
    exact histOf_floats fun q hq => h q (List.mem_cons_of_mem _ hq)
theorem phase_ok (hE : EdgesBack ops) {ms : List Nat} (hms : ms = masks ops.toList []) {effs : Nat} (heffs : ∀ i o, ops[i]? = some o → Act3 E o → effs.testBit i = true) {m n : Nat} (hm : ∀ i k, m.testBit i = true → Pre ops i k → m.testBit k = true) {Y0 : List Ev} :
    ∀ (l : List Oper) (i : Nat), ops.toList.drop i = l → ∀ (Y : List Ev) (done : Nat) (t : T V) (s : S), St E rec ops t0 s0 Y done t s → histOf E s0 n Y = histOf E s0 n Y0 → (∀ k, k < i → m.testBit k = true → done.testBit k = true) →
      ∀ done' t' s', runPhase E ops ms effs (histOf E s0 n Y0) m (number l i) done t s = some (done', t', s') →
        ∃ Z, St E rec ops t0 s0 (Z ++ Y) done' t' s' ∧ (∀ q ∈ Z, ¬ Act3 E q.o ∧ m.testBit q.i = true) ∧ ∀ k, k < ops.size → m.testBit k = true → done'.testBit k = true
  | [], i, hl, Y, done, t, s, hS, hh, hd, done', t', s', e => by
    simp only [number, runPhase, Option.some.injEq, Prod.mk.injEq] at e
    obtain ⟨rfl, rfl, rfl⟩ := e
    refine ⟨[], hS, by simp, fun k hk hb => hd k ?_ hb⟩
    have := List.drop_eq_nil_iff.1 hl
    simp at this
    omega
  | o :: l, i, hl, Y, done, t, s, hS, hh, hd, done', t', s', e => by
    have ho : ops[i]? = some o := by
      have : (ops.toList.drop i)[0]? = some o := by rw [hl]; rfl
      simpa using this
    have hl' : ops.toList.drop (i + 1) = l := by
      rw [← List.tail_drop, hl]; rfl
    simp only [number, runPhase] at e
    cases hb : (!(m.testBit i) || done.testBit i) with
    | true =>
      rw [hb] at e
      simp only [cond_true] at e
      refine phase_ok hE hms heffs hm l (i + 1) hl' Y done t s hS hh (fun k hk hkb => ?_) done' t' s' e
      by_cases hki : k = i
      · subst hki; rw [hkb] at hb; simpa using hb
      · exact hd k (by omega) hkb
    | false =>
      rw [hb] at e
      simp only [cond_false] at e
      simp only [Bool.or_eq_false_iff, Bool.not_eq_false'] at hb
      cases hf : effs.testBit i with
      | true => rw [hf] at e; cases e
      | false =>
        rw [hf] at e
        simp only [cond_false] at e
        have hk : ¬ Act3 E o := fun h => by have := heffs i o ho h; rw [hf] at this; cases this
        split at e
        · rename_i v s1 hfl
          rw [putT_D] at e
          have hev : EvOk E rec ops t0 s0 Y ⟨i, o, v, t, s, s1⟩ := by
            refine ⟨ho, fun k hk => (hS.done k).1 (hd k (pre_lt hE i k hk) (hm i k hb.1 hk)), fun q hq hqi => ?_, hS.slots, hS.st, ?_⟩
            · have := (hS.done i).2 ⟨q, hq, hqi⟩
              rw [hb.2] at this; cases this
            · rw [← hh] at hfl
              exact floatStep_ok hms hk hS.st hfl
          have hS' : St E rec ops t0 s0 (⟨i, o, v, t, s, s1⟩ :: Y) (Nat.lor done (Nat.pow 2 i)) (putD t o.dst v) s1 := ⟨⟨hev, hS.run⟩, hS.done.cons ⟨i, o, v, t, s, s1⟩, hS.slots.put ⟨i, o, v, t, s, s1⟩, rfl⟩
          have hhist : histOf E s0 n (⟨i, o, v, t, s, s1⟩ :: Y) = histOf E s0 n Y0 := by
            have hk' : ¬ opKind E.P o.op = 3 := hk
            simp only [histOf, if_neg hk']; exact hh
          obtain ⟨Z, h1, h2, h3⟩ := phase_ok hE hms heffs hm l (i + 1) hl' _ _ _ _ hS' hhist (fun k hk' hkb => by
            rw [testBit_or_pow]
            by_cases hki : i = k
            · simp [hki]
            · rw [hd k (by omega) hkb]; rfl) done' t' s' e
          refine ⟨Z ++ [⟨i, o, v, t, s, s1⟩], by simpa using h1, fun q hq => ?_, h3⟩
          rcases List.mem_append.1 hq with hq | hq
          · exact h2 q hq
          · simp at hq; subst hq; exact ⟨hk, hb.1⟩
        · cases e
def Behind (ops : Array Oper) : List Ev → Prop
  | [] => True
  | e :: Y => ∀ q ∈ Y, Pre ops e.i q.i
theorem Run.at : ∀ {X : List Ev} {e : Ev} {Y : List Ev}, Run E rec ops t0 s0 (X ++ e :: Y) → EvOk E rec ops t0 s0 Y e ∧ Run E rec ops t0 s0 Y
  | [], _, _, h => h
  | _ :: _, _, _, h => Run.at h.2
def Panned (E : Env) (rec : RecF) (ops : Array Oper) (t0 : T V) (s0 : S) (ds : List Dfr) (up : Option Md) (r : ROut) : Prop :=
  ∃ (i : Nat) (o : Oper) (Z Y : List Ev) (done : Nat) (t1 : T V) (c : List Pan) (s2 : S),
    r = .panicked c (dropDsts done (number ops.toList 0) t1) ds up s2 ∧ ops[i]? = some o ∧ Act3 E o ∧ Run E rec ops t0 s0 (Z ++ Y) ∧ DoneOk done Y ∧ Slots t0 Y t1 ∧
    effAll E rec t1 (stOf s0 Y) o (wantedV ops t1 o) = some (.pan c s2) ∧ (∀ q ∈ Y, Pre ops i q.i) ∧ (∀ k, Pre ops i k → ∃ q ∈ Y, q.i = k) ∧ (∀ q ∈ Z, ¬ Act3 E q.o) ∧ (∀ q ∈ Z ++ Y, q.i ≠ i) ∧
    ∀ k, k < ops.size → k ≠ i → ¬ Pre ops k i → ∃ q ∈ Z ++ Y, q.i = k
theorem freeMask_bit {ms : List Nat} {i k : Nat} : ∀ {l : List (Nat × Oper)}, (freeMask ms i l).testBit k = true ↔ (∃ x ∈ l, x.1 = k) ∧ (ms.getD k 0).testBit i = false ∧ k ≠ i
  | [] => by simp [freeMask]
  | (a, o) :: r => by
    simp only [freeMask]
    have ih := freeMask_bit (ms := ms) (i := i) (k := k) (l := r)
    cases hb : ((ms.getD a 0).testBit i || Nat.beq a i) with
    | true =>
      simp only [cond_true]
      rw [ih]
      constructor
      · rintro ⟨⟨x, h1, h2⟩, h3⟩
        exact ⟨⟨x, List.mem_cons_of_mem _ h1, h2⟩, h3⟩
      · rintro ⟨⟨x, h1, h2⟩, h3, h4⟩
        rcases List.mem_cons.1 h1 with rfl | h1
        · exfalso
          simp only at h2
          subst h2
          simp only [Bool.or_eq_true] at hb
          rcases hb with hb | hb
          · rw [h3] at hb; cases hb
          · exact h4 (Nat.eq_of_beq_eq_true hb)
        · exact ⟨⟨x, h1, h2⟩, h3, h4⟩
    | false =>
      simp only [cond_false]
      have hor : (Nat.lor (Nat.pow 2 a) (freeMask ms i r)).testBit k = (decide (a = k) || (freeMask ms i r).testBit k) := by
        show (2 ^ a ||| freeMask ms i r).testBit k = _
        rw [Nat.testBit_or, Nat.testBit_two_pow]
      rw [hor, Bool.or_eq_true, ih]
      simp only [Bool.or_eq_false_iff] at hb
      constructor
      · rintro (h | ⟨⟨x, h1, h2⟩, h3⟩)
        · have h : a = k := by simpa using h
          subst h
          refine ⟨⟨(a, o), by simp, rfl⟩, hb.1, fun h => ?_⟩
          have h2 := hb.2
          rw [h, Nat.beq_refl] at h2; cases h2
        · exact ⟨⟨x, List.mem_cons_of_mem _ h1, h2⟩, h3⟩
      · rintro ⟨⟨x, h1, h2⟩, h3⟩
        rcases List.mem_cons.1 h1 with rfl | h1
        · exact .inl (by simpa using h2)
        · exact .inr ⟨⟨x, h1, h2⟩, h3⟩
theorem effs_ok (hE : EdgesBack ops) {ms : List Nat} (hms : ms = masks ops.toList []) {effs n : Nat} (heffs : ∀ i o, ops[i]? = some o → Act3 E o → effs.testBit i = true) {ds : List Dfr} {up : Option Md} :
    ∀ (es : List (Nat × Oper)), (∀ x ∈ es, ops[x.1]? = some x.2 ∧ Act3 E x.2) → effOk ms (es.map (·.1)) = true → ∀ (Y : List Ev) (done : Nat) (t : T V) (s : S), St E rec ops t0 s0 Y done t s → Front E Y → Behind ops Y →
      (∀ e Y' x r, Y = e :: Y' → es = x :: r → Pre ops x.1 e.i) → ∀ r, runEffs E ops ms effs (number ops.toList 0) rec ds up es (histOf E s0 n Y) done t s = some r →
        (∃ L t' s', r = .on t' ds up s' ∧ Run E rec ops t0 s0 L ∧ Slots t0 L t' ∧ s' = stOf s0 L ∧ ∀ k, k < ops.size → ∃ q ∈ L, q.i = k) ∨ Panned E rec ops t0 s0 ds up r
  | [], hes, hef, Y, done, t, s, hS, hF, hB, hP, r, e => by
    simp only [runEffs] at e
    split at e
    · rename_i d1 t1 s1 hp
      cases e
      have hbits : ∀ k, (Nat.pow 2 ops.size - 1).testBit k = decide (k < ops.size) := fun k => by
        show (2 ^ ops.size - 1).testBit k = _
        rw [Nat.testBit_two_pow_sub_one]
      obtain ⟨Z, h1, h2, h3⟩ := phase_ok hE hms heffs (m := Nat.pow 2 ops.size - 1) (n := n) (fun i k hi hk => by
          rw [hbits] at hi ⊢
          have := pre_lt hE i k hk
          simp at hi ⊢; omega) ops.toList 0 rfl Y done t s hS rfl (fun k hk => absurd hk (Nat.not_lt_zero _)) _ _ _ hp
      refine .inl ⟨_, t1, s1, rfl, h1.run, h1.slots, h1.st, fun k hk => (h1.done k).1 (h3 k hk ?_)⟩
      rw [hbits]; simpa using hk
    · cases e
  | (i, o) :: r', hes, hef, Y, done, t, s, hS, hF, hB, hP, r, e => by
    simp only [runEffs] at e
    obtain ⟨ho, hk⟩ := hes (i, o) (by simp)
    simp only at ho hk
    have hpre : ∀ k, (ms.getD i 0).testBit k = true ↔ Pre ops i k := fun k => by subst hms; rfl
    split at e
    · rename_i d1 t1 s1 hp
      obtain ⟨Z, h1, h2, h3⟩ := phase_ok hE hms heffs (m := ms.getD i 0) (n := n) (fun a k ha hk => by
          rw [hpre] at ha ⊢
          exact pre_trans hE i a k ha hk) ops.toList 0 rfl Y done t s hS rfl (fun k hk => absurd hk (Nat.not_lt_zero _)) _ _ _ hp
      have hall : ∀ q ∈ Z ++ Y, Pre ops i q.i := by
        intro q hq
        rcases List.mem_append.1 hq with hq | hq
        · exact (hpre _).1 (h2 q hq).2
        · cases Y with
          | nil => cases hq
          | cons e0 Y' =>
            have h0 := hP e0 Y' (i, o) r' rfl rfl
            rcases List.mem_cons.1 hq with rfl | hq
            · exact h0
            · exact pre_trans hE i e0.i q.i h0 (hB q hq)
      have hisz : i < ops.size := by
        rcases Nat.lt_or_ge i ops.size with h | h
        · exact h
        · rw [Array.getElem?_eq_none h] at ho; cases ho
      split at e
      · rename_i v s2 hst0
        have hst := effAll_val.1 hst0
        cases hc : (Nat.ble s1.next s2.next && !(d1.testBit i) && effs.testBit i) with
        | false => rw [hc] at e; cases e
        | true =>
          rw [hc] at e
          simp only [cond_true] at e
          rw [putT_D] at e
          simp only [Bool.and_eq_true, Bool.not_eq_true'] at hc
          have hev : EvOk E rec ops t0 s0 (Z ++ Y) ⟨i, o, v, t1, s1, s2⟩ := by
            refine ⟨ho, fun k hk => (h1.done k).1 (h3 k ?_ ((hpre k).2 hk)), fun q hq hqi => ?_, h1.slots, h1.st, .inr ⟨hk, hst, Nat.le_of_ble_eq_true hc.1.1, hall⟩⟩
            · have := pre_lt hE i k hk
              have : i < ops.size := by
                rcases Nat.lt_or_ge i ops.size with h | h
                · exact h
                · rw [Array.getElem?_eq_none h] at ho; cases ho
              omega
            · have := (h1.done i).2 ⟨q, hq, hqi⟩
              rw [hc.1.2] at this; cases this
          have hhist : histOf E s0 n (⟨i, o, v, t1, s1, s2⟩ :: (Z ++ Y)) = (i, s2) :: histOf E s0 n Y := by
            have hk' : opKind E.P o.op = 3 := hk
            simp only [histOf, if_pos hk']
            rw [histOf_floats fun q hq => (h2 q hq).1]
          rw [← hhist] at e
          refine effs_ok hE hms heffs r' (fun x hx => hes x (List.mem_cons_of_mem _ hx)) ?_ (⟨i, o, v, t1, s1, s2⟩ :: (Z ++ Y)) _ _ _ ⟨⟨hev, h1.run⟩, h1.done.cons ⟨i, o, v, t1, s1, s2⟩, h1.slots.put ⟨i, o, v, t1, s1, s2⟩, rfl⟩ hk hall ?_ r e
          · cases r' with
            | nil => rfl
            | cons x r'' =>
              simp only [List.map_cons, effOk, Bool.and_eq_true] at hef
              exact hef.2
          · intro e1 Y1 x r1 hY hr
            cases hY; subst hr
            simp only [List.map_cons, effOk, Bool.and_eq_true] at hef
            have := hef.1
            subst hms
            exact this
      · rename_i c s2 hst
        cases hdi : d1.testBit i with
        | true => rw [hdi] at e; cases e
        | false =>
          rw [hdi] at e
          simp only [cond_false] at e
          cases hph : runPhase E ops ms effs (histOf E s0 n Y) (freeMask ms i (number ops.toList 0)) (number ops.toList 0) d1 t1 s1 with
          | none => rw [hph] at e; cases e
          | some x =>
            rw [hph] at e
            obtain ⟨d2, t2, s3⟩ := x
            simp only [panTo, Option.some.injEq] at e
            have hfm : ∀ k, (freeMask ms i (number ops.toList 0)).testBit k = true ↔ (∃ x ∈ number ops.toList 0, x.1 = k) ∧ ¬ Pre ops k i ∧ k ≠ i := fun k => by
              rw [freeMask_bit]
              have : (ms.getD k 0).testBit i = false ↔ ¬ Pre ops k i := by
                rw [← Bool.not_eq_true]; subst hms; exact Iff.rfl
              rw [this]
            have hh1 : histOf E s0 n (Z ++ Y) = histOf E s0 n Y := histOf_floats fun q hq => (h2 q hq).1
            obtain ⟨Z2, g1, g2, g3⟩ := phase_ok hE hms heffs (m := freeMask ms i (number ops.toList 0)) (n := n) (Y0 := Y) (fun a k ha hk => by
                rw [hfm] at ha ⊢
                obtain ⟨⟨x, x1, x2⟩, p1, p2⟩ := ha
                have hka := pre_lt hE a k hk
                refine ⟨?_, fun hki => p1 (pre_trans hE a k i hk hki), fun hki => p1 (by rw [← hki]; exact hk)⟩
                have hxa : ops[a]? = some x.2 := by rw [← x2]; exact number_ops.1 x1
                have : a < ops.size := by
                  rcases Nat.lt_or_ge a ops.size with h | h
                  · exact h
                  · rw [Array.getElem?_eq_none h] at hxa; cases hxa
                exact ⟨(k, ops[k]'(by omega)), number_ops.2 (by simp), rfl⟩) ops.toList 0 rfl (Z ++ Y) d1 t1 s1 h1 hh1 (fun k hk => absurd hk (Nat.not_lt_zero _)) _ _ _ hph
            refine .inr ⟨i, o, Z2, Z ++ Y, d1, t1, c, s2, e.symm, ho, hk, g1.run, h1.done, h1.slots, by rw [← h1.st]; exact hst, hall, fun k hk => (h1.done k).1 (h3 k ?_ ((hpre k).2 hk)), fun q hq => (g2 q hq).1, fun q hq => ?_, fun k hks hki hp => ?_⟩
            · have := pre_lt hE i k hk
              omega
            · rcases List.mem_append.1 hq with hq | hq
              · exact ((hfm _).1 (g2 q hq).2).2.2
              · have := pre_lt hE i q.i (hall q hq)
                omega
            · refine (g1.done k).1 (g3 k hks ((hfm k).2 ⟨⟨(k, ops[k]'hks), number_ops.2 (by simp [hks]), rfl⟩, hp, hki⟩))
      · cases e
    · cases e
theorem foldl_mask (k : Nat) : ∀ (es : List (Nat × Oper)) (s : Nat), (es.foldl (fun s x => Nat.lor s (Nat.pow 2 x.1)) s).testBit k = true ↔ s.testBit k = true ∨ ∃ x ∈ es, x.1 = k
  | [], s => by simp
  | x :: es, s => by
    rw [List.foldl_cons, foldl_mask k es, testBit_or_pow]
    simp only [Bool.or_eq_true, decide_eq_true_eq, List.mem_cons, exists_eq_or_imp]
    constructor
    · rintro ((h | h) | h)
      · exact .inl h
      · exact .inr (.inl h)
      · exact .inr (.inr h)
    · rintro (h | h | h)
      · exact .inl (.inl h)
      · exact .inl (.inr h)
      · exact .inr h
theorem drawn_events {t : T V} {ds : List Dfr} {up : Option Md} {s : S} {recR : RecR} {r : ROut} (e : runDrawn E ops rec recR t ds up s = some r) :
    DataOk ops ∧ ((∃ L t' s', r = .on t' ds up s' ∧ Run E rec ops t s L ∧ Slots t L t' ∧ s' = stOf s L ∧ ∀ k, k < ops.size → ∃ q ∈ L, q.i = k) ∨ Panned E rec ops t s ds up r) := by
  unfold runDrawn at e
  split at e
  · rename_i ms l es mask hp
    simp only [plan] at hp
    cases hc : (dataOk (masks ops.toList []) (number ops.toList 0) && effOk (masks ops.toList []) ((effects E.P (number ops.toList 0)).map (·.1))) with
    | false => rw [hc] at hp; cases hp
    | true =>
      rw [hc] at hp
      simp only [cond_true, Option.some.injEq, Plan.mk.injEq] at hp
      obtain ⟨rfl, rfl, rfl, rfl⟩ := hp
      simp only [Bool.and_eq_true] at hc
      have hD := dataOk_spec hc.1
      refine ⟨hD, ?_⟩
      refine effs_ok (n := ops.size) hD.back rfl (fun i o ho hk => ?_) _ (fun x hx => ?_) hc.2 [] 0 t s ⟨trivial, fun k => by simp, fun d => .inr ⟨by simp, rfl⟩, rfl⟩ trivial trivial (fun e Y' x r h => by cases h) r e
      · rw [foldl_mask]
        refine .inr ⟨(i, o), ?_, rfl⟩
        unfold effects
        rw [List.mem_filter]
        have hk : opKind E.P o.op = 3 := hk
        exact ⟨number_ops.2 ho, by simp [hk]⟩
      · unfold effects at hx
        rw [List.mem_filter] at hx
        obtain ⟨x1, x2⟩ := x
        exact ⟨number_ops.1 hx.1, by have h := hx.2; simp at h; exact h⟩
  · cases e
end
end Go.AI
/- Regions that draw their order: whatever order is drawn, the canonical run tells what it comes to. -/
namespace Go.AI
def Rho.to (ρ : Rho) (n : Nat) : Rho := fun f v => if f < n then ρ f v else none
theorem Rho.to_le (ρ : Rho) {n m : Nat} (h : n ≤ m) : (ρ.to n).le (ρ.to m) := fun f v l e => by
  unfold Rho.to at e ⊢
  split at e
  · rw [if_pos (by omega)]; exact e
  · cases e
theorem Rho.to_le_self (ρ : Rho) (n : Nat) : (ρ.to n).le ρ := fun f v l e => by
  unfold Rho.to at e
  split at e
  · exact e
  · cases e
theorem Rho.to_mono {ρ ρ' : Rho} (h : ρ.le ρ') (n : Nat) : (ρ.to n).le (ρ'.to n) := fun f v l e => by
  unfold Rho.to at e ⊢
  split at e
  · rename_i hf; rw [if_pos hf]; exact h _ _ _ e
  · cases e
theorem Rho.to_lt {ρ : Rho} {n f v : Nat} {l : Loc} (e : ρ.to n f v = some l) : f < n ∧ ρ f v = some l := by
  unfold Rho.to at e
  split at e
  · rename_i h; exact ⟨h, e⟩
  · cases e
theorem Rho.to_of {ρ : Rho} {n f v : Nat} (h : f < n) : ρ.to n f v = ρ f v := by unfold Rho.to; rw [if_pos h]
theorem Rho.to_ge {ρ : Rho} {n f v : Nat} (h : n ≤ f) : ρ.to n f v = none := by unfold Rho.to; rw [if_neg (by omega)]
theorem Rho.to_all {ρ : Rho} {n : Nat} (h : ∀ f v, n ≤ f → ρ f v = none) : ρ.to n = ρ := by
  funext f v
  by_cases hf : f < n
  · exact Rho.to_of hf
  · rw [Rho.to_ge (by omega), h f v (by omega)]
theorem HR.frame {ρ : Rho} {s : S} {w w' : World} (h : HR ρ s w) (hs : w.heap.size ≤ w'.heap.size) (hh : ∀ b, b < w.heap.size → w'.heap[b]? = w.heap[b]?) : HR ρ s w' :=
  ⟨h.fresh, h.inj, fun f v l e => Nat.lt_of_lt_of_le (h.low f v l e) hs, fun f B hB => (h.blk f B hB).keep ρ.le_refl (fun _ hv => hv) (fun v l e => hh _ (h.low _ _ _ e)), h.dom, h.rw⟩
def Inj (ρ : Rho) : Prop := ∀ f v l f' v' l', ρ f v = some l → ρ f' v' = some l' → l.b = l'.b → f = f' ∧ l.base = l'.base
def Low (ρ : Rho) (w : World) : Prop := ∀ f v l, ρ f v = some l → l.b < w.heap.size
theorem HR.widen {ρ : Rho} {s : S} {w : World} {n : Nat} (h : HR (ρ.to s.next) s w) (hi : Inj ρ) (hl : Low ρ w) (hn : s.next ≤ n) : HR (ρ.to n) ⟨s.h, n⟩ w := by
  refine ⟨fun f v hf => Rho.to_ge hf, fun f v l f' v' l' e e' => hi _ _ _ _ _ _ (Rho.to_lt e).2 (Rho.to_lt e').2, fun f v l e => hl _ _ _ (Rho.to_lt e).2, fun f B hB => ?_, fun f B hB => Nat.lt_of_lt_of_le (h.dom f B (by rw [S.get_eq] at hB ⊢; exact hB)) hn, fun f B hB hnr v l hl => ?_⟩
  rotate_left
  · have hB' : s.get f = some B := by rw [S.get_eq] at hB ⊢; exact hB
    exact h.rw f B hB' hnr v l (by rw [Rho.to_of (h.dom f B hB')]; exact (Rho.to_lt hl).2)
  have hB' : s.get f = some B := by rw [S.get_eq] at hB ⊢; exact hB
  have hf := h.dom f B hB'
  refine (h.blk f B hB').keep (Rho.to_le ρ hn) (fun v hv => ?_) (fun _ _ _ => rfl)
  rw [Rho.to_of hf] at hv
  rw [Rho.to_of (by omega)]; exact hv
theorem HR.bare {ρ : Rho} {w : World} {n : Nat} (hi : Inj ρ) (hl : Low ρ w) : HR (ρ.to n) ⟨.leaf, n⟩ w :=
  ⟨fun f v hf => Rho.to_ge hf, fun f v l f' v' l' e e' => hi _ _ _ _ _ _ (Rho.to_lt e).2 (Rho.to_lt e').2, fun f v l e => hl _ _ _ (Rho.to_lt e).2, fun f B hB => by (rw [S.get_eq, T.get_leaf] at hB; cases hB), fun f B hB => by (rw [S.get_eq, T.get_leaf] at hB; cases hB), fun f B hB => by (rw [S.get_eq, T.get_leaf] at hB; cases hB)⟩
/- ---- an operation that looks at no memory ---- -/
theorem nxVal_any {s s' : S} {x : Option V} {v : V} {s1 : S} (e : nxVal s x = some (.val v s1)) : nxVal s' x = some (.val v s') := by
  cases x with
  | none => cases e
  | some u => cases e; rfl
theorem doOp_bare {E : Env} {t : T V} {s : S} (s' : S) (o : Oper) (hk : opKind E.P o.op = 0) {v : V} {s1 : S} (e : doOp E t s o = some (.val v s1)) : doOp E t s' o = some (.val v s') := by
  obtain ⟨dst, op, type, pos, after, guard⟩ := o
  unfold doOp at e ⊢
  simp only at e hk ⊢
  cases op <;> simp only [opDo] at e ⊢ <;> try (cases e; done)
  case move x => exact nxVal_any e
  case assign x => exact nxVal_any e
  case pick c a b =>
    unfold doPick at e ⊢
    split at e
    · exact nxVal_any e
    · cases e
  case build ty parts => exact nxVal_any e
  case nilCheck x => exact nxVal_any e
  case binOp op ty x y z =>
    have hq : isEq op = false := by
      simp only [opKind] at hk
      cases hb : isEq op with
      | false => rfl
      | true => rw [hb] at hk; cases hk
    unfold doBin at e ⊢
    cases hx : eval t x with
    | none => rw [hx] at e; cases e
    | some a =>
      cases hy : eval t y with
      | none => rw [hx, hy] at e; cases e
      | some b =>
        rw [hx, hy] at e
        simp only at e ⊢
        cases hg : guardOk E.P op ty x y a b with
        | false => rw [hg] at e; cases e
        | true =>
          rw [hg] at e
          simp only [cond_true] at e ⊢
          have : ∀ ok ok', binOpV E.P ok op ty a b = binOpV E.P ok' op ty a b := by
            intro ok ok'
            unfold binOpV
            split
            · rfl
            · rfl
            · cases op <;> simp [isEq] at hq <;> rfl
          rw [this (plainAt s') (plainAt s)]
          exact nxVal_any e
  case unOp op ty x => exact nxVal_any e
  case convert src dst x =>
    unfold doConv at e ⊢
    split at e
    · rename_i x' hx'
      unfold nxPair at e ⊢
      unfold convV at e ⊢
      cases hs : E.P.underlying src with
      | none => simp [hs] at e
      | some ds =>
        cases hd : E.P.underlying dst with
        | none => simp [hs, hd] at e
        | some dd =>
          simp only [hs, hd] at e ⊢
          cases dd <;> simp only at e ⊢ <;> try (cases e; done)
          case int k => cases x' <;> simp only at e ⊢ <;> first | (cases e; done) | (cases e; rfl)
          case string => simp [opKind, hd] at hk
          case slice el => simp [opKind, hd] at hk
    · cases e
  case makeInterface ty x => exact nxVal_any e
  case makeFunc fn first cap => exact nxVal_any e
  case slice ty x lo hi mx => exact nxVal_any e
  case fieldAddr ty x f => exact nxVal_any e
  case field ty x f => exact nxVal_any e
  case indexAddr ty x i => exact nxVal_any e
  case index ty x i => exact nxVal_any e
  case typeAssert x xt ty ok => exact nxVal_any e
  case extract x i => exact nxVal_any e
  case call c =>
    simp only [opKind] at hk
    split at hk <;> cases hk
  all_goals (first | (simp [opKind] at hk; done) | (exfalso; revert hk; simp [opKind]))
/- ---- the slots that an operation sees ---- -/
def only (t : T V) : List Tmp → T V
  | [] => .leaf
  | d :: r => (only t r).set (t.get (pth d)) (pth d)
theorem only_get (t : T V) : ∀ (l : List Tmp) (d : Tmp), (only t l).get (pth d) = if d ∈ l then t.get (pth d) else none
  | [], d => by simp [only, T.get_leaf]
  | x :: r, d => by
    simp only [only]
    rw [T.get_setN, only_get t r d]
    by_cases h : x = d
    · subst h; simp
    · rw [if_neg h]
      have : d ≠ x := fun e => h e.symm
      simp [this]
def guardSlot (ops : Array Oper) (o : Oper) : List Tmp := match o.guard with
  | some (j, _) => ((ops[j]?).bind (·.dst)).toList
  | none => []
def looks (ops : Array Oper) (o : Oper) : List Tmp := sees o ++ guardSlot ops o
theorem only_eval {t : T V} {ops : Array Oper} {o : Oper} {x : Operand} (hx : x ∈ o.op.operands) : eval t x = eval (only t (looks ops o)) x := by
  cases x with
  | tmp d =>
    simp only [eval]
    rw [only_get, if_pos]
    unfold looks sees
    refine List.mem_append.2 (.inl ?_)
    rw [List.mem_filterMap]
    exact ⟨.tmp d, by simpa using hx, rfl⟩
  | const v => rfl
  | global g => rfl
  | func f => rfl
theorem only_doOp {E : Env} {ops : Array Oper} {t : T V} {s : S} {o : Oper} : doOp E (only t (looks ops o)) s o = doOp E t s o :=
  (doOp_congr o fun _ hx => only_eval hx).symm
theorem only_wanted {ops : Array Oper} {t : T V} {o : Oper} : wantedV ops (only t (looks ops o)) o = wantedV ops t o := by
  unfold wantedV
  split
  · rfl
  · rename_i j want hg
    split
    · rename_i d hd
      rw [only_get, if_pos]
      unfold looks guardSlot
      refine List.mem_append.2 (.inr ?_)
      rw [hg]; simp [hd]
    · rfl
theorem bif_some {α : Type} {c : Bool} {x : Option α} {y : α} (h : (bif c then x else none) = some y) : x = some y := by cases c <;> first | (cases h; done) | exact h
theorem doOp_alloc {E : Env} {t : T V} {s : S} (o : Oper) (hk : opKind E.P o.op = 2) {v : V} {s1 : S} (e : doOp E t s o = some (.val v s1)) : ∃ B, s1 = s.alloc B := by
  obtain ⟨dst, op, type, pos, after, guard⟩ := o
  unfold doOp at e
  simp only at e hk
  cases op <;> simp only [opDo] at e <;> try (cases e; done)
  case alloc elem =>
    unfold doAlloc nxNew newCells newCellsB at e
    split at e
    · cases e; exact ⟨_, rfl⟩
    · cases e
  case box elem x =>
    unfold doBox nxNew newCells newCellsB at e
    split at e
    · cases e; exact ⟨_, rfl⟩
    · cases e
  case buildSlice ty len parts =>
    unfold doBuildSlice at e
    split at e
    · split at e
      · split at e
        · split at e
          · have e := bif_some e
            unfold sliceNew newCells newCellsB at e
            split at e
            · cases e; exact ⟨_, rfl⟩
            · cases e
          · cases e
        · cases e
      · cases e
    · cases e
  case makeMap ty r =>
    cases r with
    | none => cases e; exact ⟨_, rfl⟩
    | some _ => cases e
  case makeSlice ty l c =>
    unfold doMkSlice newCells newCellsB at e
    split at e
    · split at e
      · split at e
        · split at e
          · split at e
            · have e := bif_some e
              cases e; exact ⟨_, rfl⟩
            · cases e
          · cases e
        · cases e
      · cases e
    · cases e
  case convert src dst x =>
    unfold doConv nxPair convV at e
    split at e
    · rename_i x' hx'
      cases hd : E.P.underlying dst with
      | none => simp [opKind, hd] at hk
      | some d =>
        cases d <;> simp [opKind, hd] at hk
        cases hs : E.P.underlying src with
        | none => simp [hs] at e
        | some ds =>
          simp only [hs, hd] at e
          cases x' <;> simp only [toBytes] at e <;> try (cases e; done)
          cases ds <;> simp only [newCellsB] at e <;> try (cases e; done)
          split at e
          · rename_i hh
            have hh := bif_some hh
            cases hh; cases e; exact ⟨_, rfl⟩
          · cases e
    · cases e
  case binOp op ty x y z => simp only [opKind] at hk; cases hb : isEq op <;> simp [hb] at hk
  case call c => simp only [opKind] at hk; split at hk <;> simp at hk
  all_goals simp [opKind] at hk
section
variable {E : Env} {rec : RecF} {ops : Array Oper} {t0 : T V} {s0 : S}
theorem EvOk.next_le {Y : List Ev} {e : Ev} (h : EvOk E rec ops t0 s0 Y e) : e.a.next ≤ e.b.next := by
  rcases h.step with ⟨_, ⟨_, _, hb⟩ | ⟨_, ⟨_, hb, _⟩ | ⟨_, hb, _⟩ | ⟨hk, hb⟩⟩⟩ | ⟨_, _, hb, _⟩
  · rw [hb]; exact Nat.le_refl _
  · rw [hb]; exact Nat.le_refl _
  · rw [hb]; exact Nat.le_refl _
  · obtain ⟨B, hB⟩ := doOp_alloc e.o hk hb
    rw [hB, S.next_alloc]; omega
  · exact hb
theorem Run.next_le : ∀ {X Y : List Ev}, Run E rec ops t0 s0 (X ++ Y) → (stOf s0 Y).next ≤ (stOf s0 (X ++ Y)).next
  | [], _, _ => Nat.le_refl _
  | e :: X, Y, h => by
    refine Nat.le_trans (Run.next_le h.2) ?_
    have := h.1.next_le
    rw [h.1.st] at this
    exact this
theorem Run.suf : ∀ {X Y : List Ev}, Run E rec ops t0 s0 (X ++ Y) → Run E rec ops t0 s0 Y
  | [], _, h => h
  | _ :: X, _, h => Run.suf (X := X) h.2
theorem Run.before {Y : List Ev} {e : Ev} (h : EvOk E rec ops t0 s0 Y e) (hR : Run E rec ops t0 s0 Y) {q : Ev} (hq : q ∈ Y) : q.b.next ≤ e.a.next := by
  obtain ⟨Y1, Y2, rfl⟩ := List.append_of_mem hq
  rw [h.st]
  exact Run.next_le (Y := q :: Y2) hR
theorem Run.start {Y : List Ev} {e : Ev} (h : EvOk E rec ops t0 s0 Y e) (hR : Run E rec ops t0 s0 Y) : s0.next ≤ e.a.next := by
  rw [h.st]
  have h1 : Run E rec ops t0 s0 (Y ++ []) := by simpa using hR
  have h2 := Run.next_le h1
  rw [List.append_nil] at h2
  exact h2
theorem Run.ok {L : List Ev} (h : Run E rec ops t0 s0 L) {e : Ev} (he : e ∈ L) : ∃ X Y, L = X ++ e :: Y ∧ EvOk E rec ops t0 s0 Y e ∧ Run E rec ops t0 s0 Y := by
  obtain ⟨X, Y, rfl⟩ := List.append_of_mem he
  obtain ⟨h1, h2⟩ := Run.at h
  exact ⟨X, Y, rfl, h1, h2⟩
theorem Run.uniq {L : List Ev} (h : Run E rec ops t0 s0 L) {a b : Ev} (ha : a ∈ L) (hb : b ∈ L) (hi : a.i = b.i) : a = b := by
  induction L with
  | nil => cases ha
  | cons e Y ih =>
    rcases List.mem_cons.1 ha with rfl | ha'
    · rcases List.mem_cons.1 hb with rfl | hb'
      · rfl
      · exact absurd hi.symm (h.1.new b hb')
    · rcases List.mem_cons.1 hb with rfl | hb'
      · exact absurd hi (h.1.new a ha')
      · exact ih h.2 ha' hb'
structure Inv (E : Env) (t0 : T V) (s0 : S) (ρ0 : Rho) (w0 : World) (X F : List Ev) (R : Nat → Prop) (ρ : Rho) (w : World) (tm : Array Value) : Prop where
  front : Front E F
  inF : ∀ e ∈ F, R e.i
  noE : ∀ e ∈ X, R e.i → ¬ Act3 E e.o
  vals : ∀ e ∈ X ++ F, R e.i → ∃ y, den (ρ.to e.b.next) e.v = some y ∧ ∀ d, e.o.dst = some d → tm[d]? = some y
  olds : ∀ d x, t0.get (pth d) = some x → (∀ e ∈ X ++ F, R e.i → e.o.dst ≠ some d) → ∃ y, den (ρ.to s0.next) x = some y ∧ tm[d]? = some y
  blks : ∀ e ∈ X, R e.i → e.b = e.a ∨ ∃ B, e.b = e.a.alloc B ∧ BlkR (ρ.to e.b.next) w e.a.next B ∧ ∀ v l, ρ e.a.next v = some l → ¬ l.ro
  hr : HR (ρ.to (stOf s0 F).next) (stOf s0 F) w
  inj : Inj ρ
  low : Low ρ w
  fresh : ∀ f v, ρ f v ≠ none → f < (stOf s0 F).next ∨ ∃ e ∈ X, R e.i ∧ f = e.a.next ∧ f < e.b.next
  fr : FR ρ0 w0 ρ w
theorem Inv.reg {ρ0 : Rho} {w0 : World} {X F : List Ev} {R : Nat → Prop} {ρ : Rho} {w : World} {tm : Array Value} (h : Inv E t0 s0 ρ0 w0 X F R ρ w tm) :
    ∀ {X1 Z : List Ev}, X = X1 ++ Z → Run E rec ops t0 s0 (Z ++ F) → (∀ e ∈ Z, R e.i) → HR (ρ.to (stOf s0 (Z ++ F)).next) (stOf s0 (Z ++ F)) w
  | _, [], _, _, _ => h.hr
  | X1, e :: Z, hX, hR, hin => by
    have ih := Inv.reg h (X1 := X1 ++ [e]) (Z := Z) (by simpa using hX) hR.2 fun q hq => hin q (List.mem_cons_of_mem _ hq)
    have hst : e.a = stOf s0 (Z ++ F) := hR.1.st
    rw [← hst] at ih
    show HR (ρ.to e.b.next) e.b w
    rcases h.blks e (by rw [hX]; simp) (hin e (by simp)) with hb | ⟨B, hb, hB, hro⟩
    · rw [hb]; exact ih
    · rw [hb] at hB ⊢
      rw [S.next_alloc] at hB ⊢
      refine ⟨fun f v hf => Rho.to_ge (by rw [S.next_alloc] at hf; exact hf), fun f v l f' v' l' e1 e2 => h.inj _ _ _ _ _ _ (Rho.to_lt e1).2 (Rho.to_lt e2).2, fun f v l e1 => h.low _ _ _ (Rho.to_lt e1).2, fun f B' hg => ?_, fun f B' hg => ?_, fun f B' hg hnr v l hl => ?_⟩
      · rw [S.get_alloc] at hg
        split at hg
        · rename_i he; cases hg; subst he; exact hB
        · rename_i he
          have hf := ih.dom f B' hg
          refine (ih.blk f B' hg).keep (Rho.to_le ρ (Nat.le_succ _)) (fun v hv => ?_) (fun _ _ _ => rfl)
          rw [Rho.to_of hf] at hv
          rw [Rho.to_of (by omega)]; exact hv
      · rw [S.get_alloc] at hg
        rw [S.next_alloc]
        split at hg
        · omega
        · have := ih.dom f B' hg; omega
      · rw [S.get_alloc] at hg
        split at hg
        · rename_i he; subst he; exact hro v l (Rho.to_lt hl).2
        · exact ih.rw f B' hg hnr v l (by rw [Rho.to_of (ih.dom f B' hg)]; exact (Rho.to_lt hl).2)
theorem Inv.env {ρ0 : Rho} {w0 : World} {X1 X2 F : List Ev} {e : Ev} {R : Nat → Prop} {ρ : Rho} {w : World} {tm : Array Value} (hD : DataOk ops) (h : Inv E t0 s0 ρ0 w0 (X1 ++ e :: X2) F R ρ w tm)
    (hR : Run E rec ops t0 s0 (X1 ++ e :: (X2 ++ F))) (hn : ¬ R e.i) (hcl : Closed ops R) (hpre : ∀ k, Pre ops e.i k → R k) : TR (ρ.to e.a.next) (only e.t (looks ops e.o)) tm := by
  obtain ⟨hev, hRY⟩ := Run.at hR
  have hL : X1 ++ e :: X2 ++ F = X1 ++ e :: (X2 ++ F) := by simp
  intro d x hx
  rw [only_get] at hx
  split at hx
  · rename_i hd
    have hord : ∀ q oq, ops[q]? = some oq → oq.dst = some d → q ≠ e.i → Pre ops e.i q ∨ Pre ops q e.i := by
      intro q oq hq hdq hqi
      rcases List.mem_append.1 hd with hd | hd
      · exact hD.sees e.i q e.o oq d hev.op hq (fun h => hqi h.symm) hdq hd
      · unfold guardSlot at hd
        split at hd
        · rename_i g b hg
          have hgd : ((ops[g]?).bind (·.dst)) = some d := by simpa using hd
          cases hog : ops[g]? with
          | none => rw [hog] at hgd; cases hgd
          | some og =>
            rw [hog] at hgd
            by_cases hgq : g = q
            · subst hgq; exact .inl (hD.guard e.i e.o g b hev.op hg)
            · exact absurd hgd (hD.dst g q og oq d hog hq hgq hdq)
        · simp at hd
    rcases hev.slots d with ⟨q, q1, q2, q3⟩ | ⟨q1, q2⟩
    · rw [q3] at hx; cases hx
      obtain ⟨Ya, Yb, hY, hqev, _⟩ := Run.ok hRY q1
      have hqi : q.i ≠ e.i := hev.new q q1
      rcases hord q.i q.o hqev.op q2 hqi with p | p
      · obtain ⟨y, y1, y2⟩ := h.vals q (by rw [hL]; simp; right; right; simpa using q1) (hpre _ p)
        exact ⟨y, den_mono (Rho.to_le ρ (Run.before hev hRY q1)) _ _ y1, y2 d q2⟩
      · obtain ⟨z, z1, z2⟩ := hqev.pre e.i p
        exact absurd z2 (hev.new z (by rw [hY]; simp; right; right; exact z1))
    · rw [q2] at hx
      obtain ⟨y, y1, y2⟩ := h.olds d x hx (fun q hq hr hdq => by
        rw [hL] at hq
        obtain ⟨_, Y', _, k1, _⟩ := Run.ok hR hq
        by_cases hqi : q.i = e.i
        · rw [hqi] at hr; exact hn hr
        · rcases hord q.i q.o k1.op hdq hqi with p | p
          · obtain ⟨z, z1, z2⟩ := hev.pre _ p
            have hz : z = q := Run.uniq hR (by simp; right; right; simpa using z1) hq z2
            subst hz
            exact q1 z z1 hdq
          · exact hn (hcl q.i e.i hr p))
      exact ⟨y, den_mono (Rho.to_le ρ (Run.start hev hRY)) _ _ y1, y2⟩
  · cases hx
end
end Go.AI
/- Regions that draw their order, second part: one operation. -/
namespace Go.AI
section
variable {E : Env} {rec : RecF} {ops : Array Oper} {t0 : T V} {s0 : S} {ρ0 : Rho} {w0 : World}
theorem putM_same {tm : Array Value} {o : Option Tmp} {y : Value} {d : Tmp} (h : o = some d) (hd : d < tm.size) : (putM tm o y)[d]? = some y := by
  subst h; simp [putM, hd]
theorem putM_other {tm : Array Value} {o : Option Tmp} {y : Value} {d : Tmp} (h : o ≠ some d) : (putM tm o y)[d]? = tm[d]? := by
  cases o with
  | none => rfl
  | some i =>
    unfold putM
    exact Array.getElem?_setIfInBounds_ne (fun e => h (by rw [e]))
section
variable {X1 X2 F : List Ev} {e : Ev} {R : Nat → Prop} {ρ : Rho} {w : World} {tm : Array Value}
theorem mem_mid {q : Ev} : q ∈ X1 ++ e :: X2 ++ F ↔ q ∈ X1 ++ e :: (X2 ++ F) := by simp
theorem dst_other (hD : DataOk ops) (hR : Run E rec ops t0 s0 (X1 ++ e :: (X2 ++ F))) {q : Ev} (hq : q ∈ X1 ++ e :: (X2 ++ F)) (hi : q.i ≠ e.i) {d : Tmp} (hd : q.o.dst = some d) : e.o.dst ≠ some d := by
  obtain ⟨_, _, _, k1, _⟩ := Run.ok hR hq
  have k2 := (Run.at hR).1
  exact hD.dst e.i q.i e.o q.o d k2.op k1.op (fun h => hi h.symm) hd
theorem after (hR : Run E rec ops t0 s0 (X1 ++ e :: (X2 ++ F))) {q : Ev} (hq : q ∈ X1) : e.b.next ≤ q.a.next := by
  obtain ⟨Xa, Xb, rfl⟩ := List.append_of_mem hq
  have h2 : Run E rec ops t0 s0 (Xa ++ q :: (Xb ++ e :: (X2 ++ F))) := by simpa using hR
  obtain ⟨k1, k2⟩ := Run.at h2
  exact Run.before k1 k2 (by simp)
theorem Inv.step (hD : DataOk ops) (h : Inv E t0 s0 ρ0 w0 (X1 ++ e :: X2) F R ρ w tm) (hR : Run E rec ops t0 s0 (X1 ++ e :: (X2 ++ F))) (hk : ¬ Act3 E e.o) (hn : ¬ R e.i) {ρ' : Rho} {w' : World} {y : Value}
    (hle : ρ.le ρ') (hkeep : ∀ f v, ρ' f v ≠ none → ρ f v ≠ none ∨ (f = e.a.next ∧ f < e.b.next)) (hsame : ∀ f v, f ≠ e.a.next → ρ' f v = ρ f v)
    (hwh : ∀ b, b < w.heap.size → w'.heap[b]? = w.heap[b]?) (hinj : Inj ρ') (hlow : Low ρ' w') (hfr : FR ρ w ρ' w')
    (hv : den (ρ'.to e.b.next) e.v = some y) (hb : e.b = e.a ∨ ∃ B, e.b = e.a.alloc B ∧ BlkR (ρ'.to e.b.next) w' e.a.next B ∧ ∀ v l, ρ' e.a.next v = some l → ¬ l.ro) (hdst : ∀ d, e.o.dst = some d → d < tm.size) :
    Inv E t0 s0 ρ0 w0 (X1 ++ e :: X2) F (with1 R e.i) ρ' w' (putM tm e.o.dst y) := by
  obtain ⟨hev, hRY⟩ := Run.at hR
  have hNF : (stOf s0 F).next ≤ e.a.next := by rw [hev.st]; exact Run.next_le hRY
  have uniq : ∀ q, q ∈ X1 ++ e :: (X2 ++ F) → q.i = e.i → q = e := fun q hq hi => Run.uniq hR hq (by simp) hi
  refine ⟨h.front, fun q hq => .inl (h.inF q hq), fun q hq hr => ?_, fun q hq hr => ?_, fun d x hx hno => ?_, fun q hq hr => ?_, ?_, hinj, hlow, fun f v hf => ?_, h.fr.trans hfr⟩
  · rcases hr with hr | hr
    · exact h.noE q hq hr
    · have := uniq q (by rw [← mem_mid]; exact List.mem_append_left _ hq) hr
      subst this; exact hk
  · by_cases hi : q.i = e.i
    · have := uniq q (mem_mid.1 hq) hi
      subst this
      exact ⟨y, hv, fun d hd => putM_same hd (hdst d hd)⟩
    · have hr : R q.i := hr.resolve_right hi
      obtain ⟨z, z1, z2⟩ := h.vals q hq hr
      exact ⟨z, den_mono (Rho.to_mono hle _) _ _ z1, fun d hd => by rw [putM_other (dst_other hD hR (mem_mid.1 hq) hi hd)]; exact z2 d hd⟩
  · obtain ⟨z, z1, z2⟩ := h.olds d x hx fun q hq hr => hno q hq (.inl hr)
    refine ⟨z, den_mono (Rho.to_mono hle _) _ _ z1, ?_⟩
    rw [putM_other (hno e (by simp) (.inr rfl))]; exact z2
  · by_cases hi : q.i = e.i
    · have := uniq q (mem_mid.1 (List.mem_append_left _ hq)) hi
      subst this; exact hb
    · have hr : R q.i := hr.resolve_right hi
      rcases h.blks q hq hr with hqb | ⟨B, hqb, hB, hro⟩
      · exact .inl hqb
      · have hne0 : q.a.next = e.a.next → ∀ v l, ρ' q.a.next v = some l → ρ q.a.next v ≠ none := by
          intro hne v l hl hv
          have hqn : q.b.next = q.a.next + 1 := by rw [hqb, S.next_alloc]
          rcases hkeep q.a.next v (by rw [hl]; exact fun h => by cases h) with hc | ⟨_, hc⟩
          · exact hc hv
          · rcases List.mem_append.1 hq with hq1 | hq1
            · have := after hR hq1; omega
            · rcases List.mem_cons.1 hq1 with rfl | hq1
              · exact hi rfl
              · have := Run.before hev hRY (List.mem_append_left F hq1); omega
        refine .inr ⟨B, hqb, hB.keep (Rho.to_mono hle _) (fun v hv => ?_) (fun v l hl => hwh _ (h.low _ _ _ (Rho.to_lt hl).2)), fun v l hl => ?_⟩
        rotate_left
        · cases hq0 : ρ q.a.next v with
          | none =>
            exfalso
            by_cases hne : q.a.next = e.a.next
            · exact hne0 hne v l hl hq0
            · rw [hsame _ _ hne, hq0] at hl; cases hl
          | some l0 =>
            have := hle _ _ _ hq0
            rw [hl] at this; cases this
            exact hro v l hq0
        have hqn : q.b.next = q.a.next + 1 := by rw [hqb, S.next_alloc]
        rw [Rho.to_of (by omega)] at hv ⊢
        by_cases hne : q.a.next = e.a.next
        · cases hq' : ρ' q.a.next v with
          | none => rfl
          | some l =>
            exfalso
            rcases hkeep q.a.next v (by rw [hq']; exact fun h => by cases h) with hc | ⟨_, hc⟩
            · exact hc hv
            · rcases List.mem_append.1 hq with hq1 | hq1
              · have := after hR hq1; omega
              · rcases List.mem_cons.1 hq1 with rfl | hq1
                · exact hi rfl
                · have := Run.before hev hRY (List.mem_append_left F hq1); omega
        · rw [hsame _ _ hne]; exact hv
  · have : ρ'.to (stOf s0 F).next = ρ.to (stOf s0 F).next := by
      funext f v
      by_cases hf : f < (stOf s0 F).next
      · rw [Rho.to_of hf, Rho.to_of hf, hsame f v (by omega)]
      · rw [Rho.to_ge (by omega), Rho.to_ge (by omega)]
    rw [this]
    exact h.hr.frame hfr.size hwh
  · rcases hkeep f v hf with hf | ⟨h1, h2⟩
    · rcases h.fresh f v hf with hf | ⟨q, q1, q2, q3⟩
      · exact .inl hf
      · exact .inr ⟨q, q1, .inl q2, q3⟩
    · exact .inr ⟨e, by simp, .inr rfl, h1, h2⟩
theorem Inv.float (hD : DataOk ops) (h : Inv E t0 s0 ρ0 w0 (X1 ++ e :: X2) F R ρ w tm) (hR : Run E rec ops t0 s0 (X1 ++ e :: (X2 ++ F))) (hk : ¬ Act3 E e.o) (hn : ¬ R e.i) (hcl : Closed ops R) (hpre : ∀ k, Pre ops e.i k → R k)
    (hdst : ∀ d, e.o.dst = some d → d < tm.size) :
    (Region.wanted e.o (yielded ops tm) = false ∧ Inv E t0 s0 ρ0 w0 (X1 ++ e :: X2) F (with1 R e.i) ρ w (putM tm e.o.dst undef)) ∨
    (Region.wanted e.o (yielded ops tm) = true ∧ ∃ y w' ρ', (execOp (rv tm) e.o).run E.P w = .ok (.value y) w' ∧ Inv E t0 s0 ρ0 w0 (X1 ++ e :: X2) F (with1 R e.i) ρ' w' (putM tm e.o.dst y)) := by
  obtain ⟨hev, hRY⟩ := Run.at hR
  have hT := h.env hD hR hn hcl hpre
  have hNF : (stOf s0 F).next ≤ e.a.next := by rw [hev.st]; exact Run.next_le hRY
  have wsp : ∀ b, wantedV ops e.t e.o = some b → Region.wanted e.o (yielded ops tm) = b := fun b hb => by
    rw [← only_wanted] at hb
    exact wantedV_sound (fr := { (default : Frame) with tmps := tm }) hT hb
  have plain : ∀ y, den (ρ.to e.b.next) e.v = some y → e.b = e.a → Inv E t0 s0 ρ0 w0 (X1 ++ e :: X2) F (with1 R e.i) ρ w (putM tm e.o.dst y) := fun y hv hb =>
    Inv.step hD h hR hk hn ρ.le_refl (fun f v hf => .inl hf) (fun _ _ _ => rfl) (fun _ _ => rfl) h.inj h.low (FR.refl ρ w) hv (.inl hb) hdst
  rcases hev.step with ⟨_, ⟨hw, hv, hb⟩ | ⟨hw, hf⟩⟩ | ⟨hk', _⟩
  · left
    refine ⟨wsp _ hw, plain undef ?_ hb⟩
    rw [hv]; rfl
  · right
    refine ⟨wsp _ hw, ?_⟩
    rcases hf with ⟨hk0, hb, s1, hd⟩ | ⟨hk1, hb, hd⟩ | ⟨hk2, hd⟩
    · rw [← only_doOp (ops := ops)] at hd
      have hd' := doOp_bare ⟨.leaf, e.a.next⟩ e.o hk0 hd
      obtain ⟨v, y, h1, h2, h3⟩ := opDo_pure (HR.bare h.inj h.low) hT e.o (by omega) hd'
      cases h1
      exact ⟨y, w, ρ, h2, plain y (by rw [hb]; exact h3) hb⟩
    · obtain ⟨s1, hd⟩ := hd X2 F rfl h.front fun q hq hqe hp => h.noE q (by simp [hq]) (hpre _ hp) hqe
      rw [← only_doOp (ops := ops)] at hd
      have hd' := doOp_next (n' := e.a.next) (h := (stOf s0 F).h) (n := (stOf s0 F).next) e.o (by omega) hd
      obtain ⟨v, y, h1, h2, h3⟩ := opDo_pure (h.hr.widen h.inj h.low hNF) hT e.o (by omega) hd'
      cases h1
      exact ⟨y, w, ρ, h2, plain y (by rw [hb]; exact h3) hb⟩
    · rw [← only_doOp (ops := ops)] at hd
      obtain ⟨mk, B, hm, y, obj, lim, n, hrun, hmk⟩ := opDo_make (w := w) hT e.o hk2 hd
      have hm' := hm e.a
      simp only at hm'
      rw [hm'] at hd
      injection hd with hd; injection hd with hd1 hd2
      have hbn : e.b.next = e.a.next + 1 := by rw [← hd2, S.next_alloc]
      have hfree : ∀ v, ρ e.a.next v = none := by
        intro v
        cases hr : ρ e.a.next v with
        | none => rfl
        | some l =>
          exfalso
          rcases h.fresh e.a.next v (by rw [hr]; exact fun h => by cases h) with hf | ⟨q, q1, q2, q3, q4⟩
          · omega
          · rcases List.mem_append.1 q1 with hq1 | hq1
            · have := after hR hq1; omega
            · rcases List.mem_cons.1 hq1 with rfl | hq1
              · exact hn q2
              · have := Run.before hev hRY (List.mem_append_left F hq1); omega
      let ρ' := ρ.put e.a.next 0 ⟨w.heap.size, 0, lim⟩
      have hle : ρ.le ρ' := Rho.le_put _ (hfree 0)
      have hto : (ρ.to e.a.next).le (ρ'.to e.b.next) := Rho.le_trans (Rho.to_mono hle _) (Rho.to_le ρ' (by omega))
      obtain ⟨hv, hblk⟩ := hmk (ρ'.to e.b.next) e.a.next hto (by rw [Rho.to_of (by omega)]; exact Rho.put_same _ _ _ _) (fun v hv => by
        rw [Rho.to_of (by omega)]
        show ρ.put _ _ _ _ _ = none
        unfold Rho.put; rw [if_neg (by omega)]; exact hfree v)
      have hhp : ∀ b, b < w.heap.size → (({ w with drawn := n } : World).alloc obj).heap[b]? = w.heap[b]? := fun b hb => heap_alloc_lt { w with drawn := n } obj hb
      refine ⟨y, _, ρ', hrun, Inv.step hD h hR hk hn hle (fun f v hf => ?_) (fun f v hf => ?_) hhp ?_ ?_ ?_ (by rw [← hd1]; exact hv) (.inr ⟨B, hd2.symm, hblk _ ?_, fun v l hl => ?_⟩) hdst⟩
      · cases hr : ρ' f v with
        | none => exact absurd hr hf
        | some l =>
          rcases Rho.of_put hr with ⟨h1, _, _⟩ | h1
          · exact .inr ⟨h1, by omega⟩
          · exact .inl (by rw [h1]; exact fun h => by cases h)
      · show ρ.put _ _ _ _ _ = _
        unfold Rho.put; rw [if_neg (fun h => hf h.1)]
      · intro f v l f' v' l' e1 e2 hb
        rcases Rho.of_put e1 with ⟨rfl, rfl, rfl⟩ | e1
        · rcases Rho.of_put e2 with ⟨rfl, rfl, rfl⟩ | e2
          · exact ⟨rfl, rfl⟩
          · have := h.low _ _ _ e2; simp at hb; omega
        · rcases Rho.of_put e2 with ⟨rfl, rfl, rfl⟩ | e2
          · have := h.low _ _ _ e1; simp at hb; omega
          · exact h.inj _ _ _ _ _ _ e1 e2 hb
      · intro f v l e1
        rcases Rho.of_put e1 with ⟨rfl, rfl, rfl⟩ | e1
        · simp
        · have := h.low _ _ _ e1; simp; omega
      · refine ⟨hle, by simp, rfl, rfl, rfl, fun b hb _ => hhp b hb, fun f v l e1 hl => ?_⟩
        rcases Rho.of_put e1 with ⟨rfl, rfl, rfl⟩ | e1
        · simp at hl
        · exact ⟨f, v, l, e1, rfl, id⟩
      · exact heap_alloc_new { w with drawn := n } obj
      · rcases Rho.of_put hl with ⟨_, rfl, rfl⟩ | hl
        · show ¬ (lim < 0); omega
        · rw [hfree v] at hl; cases hl
  · exact absurd hk' hk
theorem Inv.effect (hD : DataOk ops) (h : Inv E t0 s0 ρ0 w0 (X1 ++ e :: X2) F R ρ w tm) (hR : Run E rec ops t0 s0 (X1 ++ e :: (X2 ++ F))) (hk : Act3 E e.o) (hn : ¬ R e.i) (hX2 : ∀ q ∈ X2, R q.i) {ρ1 : Rho} {w' : World} {y : Value}
    (h1 : HR ρ1 e.b w') (h2 : FR (ρ.to e.a.next) w ρ1 w') (hv : den ρ1 e.v = some y) (hdst : ∀ d, e.o.dst = some d → d < tm.size) :
    ∃ ρ', Inv E t0 s0 ρ0 w0 X1 (e :: (X2 ++ F)) (with1 R e.i) ρ' w' (putM tm e.o.dst y) := by
  obtain ⟨hev, hRY⟩ := Run.at hR
  have hNF : (stOf s0 F).next ≤ e.a.next := by rw [hev.st]; exact Run.next_le hRY
  have hab := hev.next_le
  have uniq : ∀ q, q ∈ X1 ++ e :: (X2 ++ F) → q.i = e.i → q = e := fun q hq hi => Run.uniq hR hq (by simp) hi
  have notX1 : ∀ q ∈ X1, q.i ≠ e.i := by
    intro q hq hi
    have := uniq q (by simp [hq]) hi
    subst this
    obtain ⟨Xa, Xb, rfl⟩ := List.append_of_mem hq
    have h2 : Run E rec ops t0 s0 (Xa ++ q :: (Xb ++ q :: (X2 ++ F))) := by simpa using hR
    exact (Run.at h2).1.new q (by simp) rfl
  -- what ρ names from the effect's end on is early
  have early : ∀ f v, ρ f v ≠ none → f < e.a.next ∨ (e.b.next ≤ f ∧ ∃ q ∈ X1, R q.i ∧ f = q.a.next ∧ f < q.b.next) := by
    intro f v hf
    rcases h.fresh f v hf with hf | ⟨q, q1, q2, q3, q4⟩
    · exact .inl (by omega)
    · rcases List.mem_append.1 q1 with hq1 | hq1
      · have := after hR hq1
        exact .inr ⟨by omega, q, hq1, q2, q3, q4⟩
      · rcases List.mem_cons.1 hq1 with rfl | hq1
        · exact absurd q2 hn
        · have := Run.before hev hRY (List.mem_append_left F hq1)
          exact .inl (by omega)
  let ρ' : Rho := fun f v => if f < e.b.next then ρ1 f v else ρ f v
  have ρlt : ∀ {f v}, f < e.b.next → ρ' f v = ρ1 f v := fun {f v} hf => by show (if _ then _ else _) = _; rw [if_pos hf]
  have ρge : ∀ {f v}, e.b.next ≤ f → ρ' f v = ρ f v := fun {f v} hf => by show (if _ then _ else _) = _; rw [if_neg (by omega)]
  have hto : ρ'.to e.b.next = ρ1 := by
    funext f v
    by_cases hf : f < e.b.next
    · rw [Rho.to_of hf, ρlt hf]
    · rw [Rho.to_ge (by omega), h1.fresh f v (by omega)]
  have hle : ρ.le ρ' := fun f v l hl => by
    rcases early f v (by rw [hl]; exact fun h => by cases h) with hf | ⟨hf, _⟩
    · rw [ρlt (by omega)]
      exact h2.ext f v l (by rw [Rho.to_of hf]; exact hl)
    · rw [ρge hf]; exact hl
  have hfr : FR ρ w ρ' w' := by
    refine ⟨hle, h2.size, h2.os, h2.tape, h2.output, fun b hb hno => h2.same b hb fun f v l hl hro => hno f v l (Rho.to_lt hl).2 hro, fun f v l hl hb => ?_⟩
    by_cases hf : f < e.b.next
    · rw [ρlt hf] at hl
      obtain ⟨f', v', l', k1, k2⟩ := h2.new f v l hl hb
      exact ⟨f', v', l', (Rho.to_lt k1).2, k2⟩
    · rw [ρge (by omega)] at hl
      exact ⟨f, v, l, hl, rfl, id⟩
  have apart : ∀ f v l f' v' l', f < e.b.next → e.b.next ≤ f' → ρ' f v = some l → ρ' f' v' = some l' → l.b ≠ l'.b := by
    intro f v l f' v' l' hf hf' e1 e2 hb
    rw [ρlt hf] at e1
    rw [ρge hf'] at e2
    have hl := h.low _ _ _ e2
    obtain ⟨f2, v2, l2, k1, k2, _⟩ := h2.new f v l e1 (by omega)
    obtain ⟨k3, k4⟩ := Rho.to_lt k1
    have := (h.inj _ _ _ _ _ _ k4 e2 (by omega)).1
    omega
  refine ⟨ρ', hk, fun q hq => ?_, fun q hq hr => ?_, fun q hq hr => ?_, fun d x hx hno => ?_, fun q hq hr => ?_, ?_, ?_, ?_, fun f v hf => ?_, h.fr.trans hfr⟩
  · rcases List.mem_cons.1 hq with rfl | hq
    · exact .inr rfl
    · rcases List.mem_append.1 hq with hq | hq
      · exact .inl (hX2 q hq)
      · exact .inl (h.inF q hq)
  · exact h.noE q (by simp [hq]) (hr.resolve_right (notX1 q hq))
  · by_cases hi : q.i = e.i
    · have := uniq q hq hi
      subst this
      exact ⟨y, by rw [hto]; exact hv, fun d hd => putM_same hd (hdst d hd)⟩
    · have hr : R q.i := hr.resolve_right hi
      obtain ⟨z, z1, z2⟩ := h.vals q (mem_mid.2 hq) hr
      exact ⟨z, den_mono (Rho.to_mono hle _) _ _ z1, fun d hd => by rw [putM_other (dst_other hD hR hq hi hd)]; exact z2 d hd⟩
  · obtain ⟨z, z1, z2⟩ := h.olds d x hx fun q hq hr => hno q (mem_mid.1 hq) (.inl hr)
    refine ⟨z, den_mono (Rho.to_mono hle _) _ _ z1, ?_⟩
    rw [putM_other (hno e (by simp) (.inr rfl))]; exact z2
  · have hr : R q.i := hr.resolve_right (notX1 q hq)
    have haf := after hR hq
    rcases h.blks q (by simp [hq]) hr with hqb | ⟨B, hqb, hB, hro⟩
    · exact .inl hqb
    · have hqn : q.b.next = q.a.next + 1 := by rw [hqb, S.next_alloc]
      refine .inr ⟨B, hqb, hB.keep (Rho.to_mono hle _) (fun v hv => ?_) (fun v l hl => ?_), fun v l hl => hro v l (by rw [ρge haf] at hl; exact hl)⟩
      · rw [Rho.to_of (by omega)] at hv ⊢
        rw [ρge haf]; exact hv
      · have hl' := (Rho.to_lt hl).2
        refine h2.same _ (h.low _ _ _ hl') fun f v' l' hf _ hb => ?_
        obtain ⟨k1, k2⟩ := Rho.to_lt hf
        have := (h.inj _ _ _ _ _ _ k2 hl' hb).1
        omega
  · show HR (ρ'.to e.b.next) e.b w'
    rw [hto]; exact h1
  · intro f v l f' v' l' e1 e2 hb
    by_cases hf : f < e.b.next
    · by_cases hf' : f' < e.b.next
      · rw [ρlt hf] at e1; rw [ρlt hf'] at e2
        exact h1.inj _ _ _ _ _ _ e1 e2 hb
      · exact absurd hb (apart _ _ _ _ _ _ hf (by omega) e1 e2)
    · by_cases hf' : f' < e.b.next
      · exact absurd hb.symm (apart _ _ _ _ _ _ hf' (by omega) e2 e1)
      · rw [ρge (by omega)] at e1 e2
        exact h.inj _ _ _ _ _ _ e1 e2 hb
  · intro f v l e1
    by_cases hf : f < e.b.next
    · rw [ρlt hf] at e1; exact h1.low _ _ _ e1
    · rw [ρge (by omega)] at e1
      exact Nat.lt_of_lt_of_le (h.low _ _ _ e1) h2.size
  · show f < e.b.next ∨ _
    by_cases hfe : f < e.b.next
    · exact .inl hfe
    · rw [ρge (by omega)] at hf
      rcases early f v hf with hf | ⟨_, q, q1, q2, q3⟩
      · exact absurd (Nat.lt_of_lt_of_le hf hab) hfe
      · exact .inr ⟨q, q1, .inl q2, q3⟩
end
end
end Go.AI
