/- The run of a region as events. No conditions. -/
import Derived.Test.YthedakdjiljmhaaGreatDoorA9
set_option linter.unusedVariables false
set_option linter.unusedSimpArgs false
noncomputable section
/- The canonical run of a region that draws its order, as a list of events (the last one first). -/
namespace Go.AI

theorem sameKind_ok {j k : IntKind} (h : (j == k) = true) : j = k := by simpa using h

mutual
theorem sameV_spec : ∀ {x y : V}, sameVs.sameV x y = true → x = y
  | .bool a, y, h => by cases y <;> simp [sameVs.sameV] at h; rw [h]
  | .int j a, y, h => by cases y <;> simp [sameVs.sameV] at h; rw [h.1, h.2]
  | .str a, y, h => by cases y <;> simp [sameVs.sameV] at h; rw [h]
  | .ptr a, y, h => by
    cases y <;> simp [sameVs.sameV] at h
    rename_i b
    obtain ⟨⟨h1, h2⟩, h3⟩ := h
    cases a; cases b; simp_all
  | .nilptr, y, h => by cases y <;> simp [sameVs.sameV] at h; rfl
  | .slice a z n c sz, y, h => by
    cases y <;> simp [sameVs.sameV] at h
    rename_i b y m d sy
    cases a; cases b; simp_all
  | .nilslice, y, h => by cases y <;> simp [sameVs.sameV] at h; rfl
  | .map a, y, h => by cases y <;> simp [sameVs.sameV] at h; rw [h]
  | .nilmap, y, h => by cases y <;> simp [sameVs.sameV] at h; rfl
  | .nilFunc, y, h => by cases y <;> simp [sameVs.sameV] at h; rfl
  | .nilIface, y, h => by cases y <;> simp [sameVs.sameV] at h; rfl
  | .func f a b, y, h => by
    cases y <;> simp [sameVs.sameV] at h
    rename_i g c d
    obtain ⟨⟨h1, h2⟩, h3⟩ := h
    rw [h1, sameVs_spec h2, sameVs_spec h3]
  | .iface t v, y, h => by
    cases y <;> simp [sameVs.sameV] at h
    rw [h.1, sameV_spec h.2]
  | .agg a, y, h => by
    cases y <;> simp [sameVs.sameV] at h
    rw [sameVs_spec h]
  | .tuple a, y, h => by
    cases y <;> simp [sameVs.sameV] at h
    rw [sameVs_spec h]
theorem sameVs_spec : ∀ {x y : List V}, sameVs x y = true → x = y
  | [], y, h => by cases y <;> simp [sameVs] at h; rfl
  | v :: x, y, h => by
    cases y with
    | nil => simp [sameVs] at h
    | cons u y =>
      simp only [sameVs, Bool.and_eq_true] at h
      rw [sameV_spec h.1, sameVs_spec h.2]
end

theorem readAll_spec {E : Env} {t : T V} {o : Oper} : ∀ {l : List S} {v : V}, readAll E t o l = some v → ∀ s ∈ l, ∃ s1, doOp E t s o = some (.val v s1)
  | [], v, h => by cases h
  | [s], v, h => fun s' hs => by
    simp at hs; subst hs
    simp only [readAll] at h
    split at h
    · rename_i u s1 hu; cases h; exact ⟨s1, hu⟩
    · cases h
  | s :: s2 :: r, v, h => fun s' hs => by
    simp only [readAll] at h
    split at h
    · rename_i u s1 hu
      split at h
      · rename_i y hy
        cases hb : sameVs [u] [y] with
        | false => rw [hb] at h; cases h
        | true =>
          rw [hb] at h
          cases h
          have := sameVs_spec hb
          simp at this
          subst this
          rcases List.mem_cons.1 hs with rfl | hs
          · exact ⟨s1, hu⟩
          · exact readAll_spec hy s' hs
      · cases h
    · cases h

structure Ev where
  i : Nat
  o : Oper
  v : V
  t : T V
  a : S
  b : S

section
variable (E : Env) (rec : RecF) (ops : Array Oper) (t0 : T V) (s0 : S)

def Act3 (o : Oper) : Prop := opKind E.P o.op = 3

def stOf : List Ev → S
  | [] => s0
  | e :: _ => e.b

/-- Nothing yet, or an effect the last. -/
def Front : List Ev → Prop
  | [] => True
  | e :: _ => Act3 E e.o

def Slots (Y : List Ev) (t : T V) : Prop := ∀ d, (∃ q ∈ Y, q.o.dst = some d ∧ t.get (pth d) = some q.v) ∨ ((∀ q ∈ Y, q.o.dst ≠ some d) ∧ t.get (pth d) = t0.get (pth d))

def Float1 (Y : List Ev) (e : Ev) : Prop :=
  (opKind E.P e.o.op = 0 ∧ e.b = e.a ∧ ∃ s1, doOp E e.t e.a e.o = some (.val e.v s1)) ∨
  (opKind E.P e.o.op = 1 ∧ e.b = e.a ∧ ∀ Z F, Y = Z ++ F → Front E F → (∀ q ∈ Z, Act3 E q.o → ¬ Pre ops e.i q.i) → ∃ s1, doOp E e.t (stOf s0 F) e.o = some (.val e.v s1)) ∨
  (opKind E.P e.o.op = 2 ∧ doOp E e.t e.a e.o = some (.val e.v e.b))

def StepOk (Y : List Ev) (e : Ev) : Prop :=
  (¬ Act3 E e.o ∧ ((wantedV ops e.t e.o = some false ∧ e.v = V.undef ∧ e.b = e.a) ∨ (wantedV ops e.t e.o = some true ∧ Float1 E ops s0 Y e))) ∨
  (Act3 E e.o ∧ effStep E rec e.t e.a e.o (wantedV ops e.t e.o) = some (e.v, e.b) ∧ e.a.next ≤ e.b.next ∧ ∀ q ∈ Y, Pre ops e.i q.i)

structure EvOk (Y : List Ev) (e : Ev) : Prop where
  op : ops[e.i]? = some e.o
  pre : ∀ k, Pre ops e.i k → ∃ q ∈ Y, q.i = k
  new : ∀ q ∈ Y, q.i ≠ e.i
  slots : Slots t0 Y e.t
  st : e.a = stOf s0 Y
  step : StepOk E rec ops s0 Y e

def Run : List Ev → Prop
  | [] => True
  | e :: Y => EvOk E rec ops t0 s0 Y e ∧ Run Y

/-- The effects so far, with the states behind them. -/
def histOf (n : Nat) : List Ev → List (Nat × S)
  | [] => [(n, s0)]
  | e :: Y => if opKind E.P e.o.op = 3 then (e.i, e.b) :: histOf n Y else histOf n Y
end

section
variable {E : Env} {rec : RecF} {ops : Array Oper} {t0 : T V} {s0 : S}

theorem Slots.put {Y : List Ev} {t : T V} (h : Slots t0 Y t) (e : Ev) : Slots t0 (e :: Y) (putD t e.o.dst e.v) := by
  intro d
  rw [get_putD]
  by_cases hd : e.o.dst = some d
  · rw [if_pos hd]
    exact .inl ⟨e, by simp, hd, rfl⟩
  · rw [if_neg hd]
    rcases h d with ⟨q, h1, h2, h3⟩ | ⟨h1, h2⟩
    · exact .inl ⟨q, List.mem_cons_of_mem _ h1, h2, h3⟩
    · refine .inr ⟨fun q hq => ?_, h2⟩
      rcases List.mem_cons.1 hq with rfl | hq
      · exact hd
      · exact h1 q hq

theorem histTo_mem {m n : Nat} : ∀ {Z F : List Ev}, Front E F → (∀ q ∈ Z, Act3 E q.o → ¬ m.testBit q.i = true) → stOf s0 F ∈ histTo m (histOf E s0 n (Z ++ F))
  | [], [], _, _ => by simp [histOf, histTo, stOf]
  | [], e :: F, h, _ => by
    have h : opKind E.P e.o.op = 3 := h
    simp [histOf, h, histTo, stOf]
  | z :: Z, F, h, hz => by
    have ih := histTo_mem (n := n) (Z := Z) h (fun q hq => hz q (List.mem_cons_of_mem _ hq))
    simp only [List.cons_append, histOf]
    split
    · rename_i hk
      have := hz z (by simp) hk
      have hb : m.testBit z.i = false := by simpa using this
      simp only [histTo, hb, cond_false]
      exact List.mem_cons_of_mem _ ih
    · exact ih

theorem floatStep_ok {ms : List Nat} (hms : ms = masks ops.toList []) {Y : List Ev} {t : T V} {s : S} {i n : Nat} {o : Oper} {v : V} {s' : S} (hk : ¬ Act3 E o)
    (hs : s = stOf s0 Y) (e : floatStep E (histOf E s0 n Y) (ms.getD i 0) t s o (wantedV ops t o) = some (v, s')) : StepOk E rec ops s0 Y ⟨i, o, v, t, s, s'⟩ := by
  left
  refine ⟨hk, ?_⟩
  unfold floatStep at e
  split at e
  · rename_i hw
    right
    refine ⟨hw, ?_⟩
    unfold floatDo at e
    split at e
    · rename_i hk0
      left
      unfold valOnly at e
      split at e
      · rename_i u s1 hu; cases e; exact ⟨hk0, rfl, s1, hu⟩
      · cases e
    · rename_i hk1
      right; left
      unfold readBoth at e
      split at e
      · rename_i u hu
        cases e
        refine ⟨hk1, rfl, fun Z F hY hF hZ => ?_⟩
        subst hY
        refine readAll_spec hu _ (histTo_mem hF fun q hq ha hb => hZ q hq ha ?_)
        subst hms
        exact hb
      · cases e
    · rename_i hk2
      right; right
      unfold valBoth at e
      split at e
      · rename_i u s1 hu; cases e; exact ⟨hk2, hu⟩
      · cases e
    · cases e
  · rename_i hw
    cases e
    exact .inl ⟨hw, rfl, rfl⟩
  · cases e

theorem testBit_or_pow (d i k : Nat) : (Nat.lor d (Nat.pow 2 i)).testBit k = (d.testBit k || decide (i = k)) := by
  show (d ||| 2 ^ i).testBit k = _
  rw [Nat.testBit_or, Nat.testBit_two_pow]

def DoneOk (done : Nat) (Y : List Ev) : Prop := ∀ k, done.testBit k = true ↔ ∃ q ∈ Y, q.i = k

theorem DoneOk.cons {done : Nat} {Y : List Ev} (h : DoneOk done Y) (e : Ev) : DoneOk (Nat.lor done (Nat.pow 2 e.i)) (e :: Y) := by
  intro k
  rw [testBit_or_pow, Bool.or_eq_true, h k]
  simp only [decide_eq_true_eq]
  constructor
  · rintro (⟨q, h1, h2⟩ | h)
    · exact ⟨q, List.mem_cons_of_mem _ h1, h2⟩
    · exact ⟨e, by simp, h⟩
  · rintro ⟨q, hq, h2⟩
    rcases List.mem_cons.1 hq with rfl | hq
    · exact .inr h2
    · exact .inl ⟨q, hq, h2⟩

structure St (E : Env) (rec : RecF) (ops : Array Oper) (t0 : T V) (s0 : S) (Y : List Ev) (done : Nat) (t : T V) (s : S) : Prop where
  run : Run E rec ops t0 s0 Y
  done : DoneOk done Y
  slots : Slots t0 Y t
  st : s = stOf s0 Y

theorem histOf_floats {n : Nat} : ∀ {Z Y : List Ev}, (∀ q ∈ Z, ¬ Act3 E q.o) → histOf E s0 n (Z ++ Y) = histOf E s0 n Y
  | [], _, _ => rfl
  | z :: Z, Y, h => by
    have hz : ¬ opKind E.P z.o.op = 3 := h z (by simp)
    simp only [List.cons_append, histOf, if_neg hz]
    exact histOf_floats fun q hq => h q (List.mem_cons_of_mem _ hq)

theorem phase_ok (hE : EdgesBack ops) {ms : List Nat} (hms : ms = masks ops.toList []) {effs : Nat} (heffs : ∀ i o, ops[i]? = some o → Act3 E o → effs.testBit i = true) {m n : Nat} (hm : ∀ i k, m.testBit i = true → Pre ops i k → m.testBit k = true) {Y0 : List Ev} :
    ∀ (l : List Oper) (i : Nat), ops.toList.drop i = l → ∀ (Y : List Ev) (done : Nat) (t : T V) (s : S), St E rec ops t0 s0 Y done t s → histOf E s0 n Y = histOf E s0 n Y0 → (∀ k, k < i → m.testBit k = true → done.testBit k = true) →
      ∀ done' t' s', runPhase E ops ms effs (histOf E s0 n Y0) m (number l i) done t s = some (done', t', s') →
        ∃ Z, St E rec ops t0 s0 (Z ++ Y) done' t' s' ∧ (∀ q ∈ Z, ¬ Act3 E q.o ∧ m.testBit q.i = true) ∧ ∀ k, k < ops.size → m.testBit k = true → done'.testBit k = true
  | [], i, hl, Y, done, t, s, hS, hh, hd, done', t', s', e => by
    simp only [number, runPhase, Option.some.injEq, Prod.mk.injEq] at e
    obtain ⟨rfl, rfl, rfl⟩ := e
    refine ⟨[], hS, by simp, fun k hk hb => hd k ?_ hb⟩
    have := List.drop_eq_nil_iff.1 hl
    simp at this
    omega
  | o :: l, i, hl, Y, done, t, s, hS, hh, hd, done', t', s', e => by
    have ho : ops[i]? = some o := by
      have : (ops.toList.drop i)[0]? = some o := by rw [hl]; rfl
      simpa using this
    have hl' : ops.toList.drop (i + 1) = l := by
      rw [← List.tail_drop, hl]; rfl
    simp only [number, runPhase] at e
    cases hb : (!(m.testBit i) || done.testBit i) with
    | true =>
      rw [hb] at e
      simp only [cond_true] at e
      refine phase_ok hE hms heffs hm l (i + 1) hl' Y done t s hS hh (fun k hk hkb => ?_) done' t' s' e
      by_cases hki : k = i
      · subst hki; rw [hkb] at hb; simpa using hb
      · exact hd k (by omega) hkb
    | false =>
      rw [hb] at e
      simp only [cond_false] at e
      simp only [Bool.or_eq_false_iff, Bool.not_eq_false'] at hb
      cases hf : effs.testBit i with
      | true => rw [hf] at e; cases e
      | false =>
        rw [hf] at e
        simp only [cond_false] at e
        have hk : ¬ Act3 E o := fun h => by have := heffs i o ho h; rw [hf] at this; cases this
        split at e
        · rename_i v s1 hfl
          rw [putT_D] at e
          have hev : EvOk E rec ops t0 s0 Y ⟨i, o, v, t, s, s1⟩ := by
            refine ⟨ho, fun k hk => (hS.done k).1 (hd k (pre_lt hE i k hk) (hm i k hb.1 hk)), fun q hq hqi => ?_, hS.slots, hS.st, ?_⟩
            · have := (hS.done i).2 ⟨q, hq, hqi⟩
              rw [hb.2] at this; cases this
            · rw [← hh] at hfl
              exact floatStep_ok hms hk hS.st hfl
          have hS' : St E rec ops t0 s0 (⟨i, o, v, t, s, s1⟩ :: Y) (Nat.lor done (Nat.pow 2 i)) (putD t o.dst v) s1 := ⟨⟨hev, hS.run⟩, hS.done.cons ⟨i, o, v, t, s, s1⟩, hS.slots.put ⟨i, o, v, t, s, s1⟩, rfl⟩
          have hhist : histOf E s0 n (⟨i, o, v, t, s, s1⟩ :: Y) = histOf E s0 n Y0 := by
            have hk' : ¬ opKind E.P o.op = 3 := hk
            simp only [histOf, if_neg hk']; exact hh
          obtain ⟨Z, h1, h2, h3⟩ := phase_ok hE hms heffs hm l (i + 1) hl' _ _ _ _ hS' hhist (fun k hk' hkb => by
            rw [testBit_or_pow]
            by_cases hki : i = k
            · simp [hki]
            · rw [hd k (by omega) hkb]; rfl) done' t' s' e
          refine ⟨Z ++ [⟨i, o, v, t, s, s1⟩], by simpa using h1, fun q hq => ?_, h3⟩
          rcases List.mem_append.1 hq with hq | hq
          · exact h2 q hq
          · simp at hq; subst hq; exact ⟨hk, hb.1⟩
        · cases e

/-- All events so far come before what an effect may follow. -/
def Behind (ops : Array Oper) : List Ev → Prop
  | [] => True
  | e :: Y => ∀ q ∈ Y, Pre ops e.i q.i

theorem Run.at : ∀ {X : List Ev} {e : Ev} {Y : List Ev}, Run E rec ops t0 s0 (X ++ e :: Y) → EvOk E rec ops t0 s0 Y e ∧ Run E rec ops t0 s0 Y
  | [], _, _, h => h
  | _ :: _, _, _, h => Run.at h.2

theorem effs_ok (hE : EdgesBack ops) {ms : List Nat} (hms : ms = masks ops.toList []) {effs n : Nat} (heffs : ∀ i o, ops[i]? = some o → Act3 E o → effs.testBit i = true) {ds : List Dfr} {up : Option Md} :
    ∀ (es : List (Nat × Oper)), (∀ x ∈ es, ops[x.1]? = some x.2 ∧ Act3 E x.2) → effOk ms (es.map (·.1)) = true → ∀ (Y : List Ev) (done : Nat) (t : T V) (s : S), St E rec ops t0 s0 Y done t s → Front E Y → Behind ops Y →
      (∀ e Y' x r, Y = e :: Y' → es = x :: r → Pre ops x.1 e.i) → ∀ r, runEffs E ops ms effs (number ops.toList 0) rec ds up es (histOf E s0 n Y) done t s = some r →
        ∃ L t' s', r = .on t' ds up s' ∧ Run E rec ops t0 s0 L ∧ Slots t0 L t' ∧ s' = stOf s0 L ∧ ∀ k, k < ops.size → ∃ q ∈ L, q.i = k
  | [], hes, hef, Y, done, t, s, hS, hF, hB, hP, r, e => by
    simp only [runEffs] at e
    split at e
    · rename_i d1 t1 s1 hp
      cases e
      have hbits : ∀ k, (Nat.pow 2 ops.size - 1).testBit k = decide (k < ops.size) := fun k => by
        show (2 ^ ops.size - 1).testBit k = _
        rw [Nat.testBit_two_pow_sub_one]
      obtain ⟨Z, h1, h2, h3⟩ := phase_ok hE hms heffs (m := Nat.pow 2 ops.size - 1) (n := n) (fun i k hi hk => by
          rw [hbits] at hi ⊢
          have := pre_lt hE i k hk
          simp at hi ⊢; omega) ops.toList 0 rfl Y done t s hS rfl (fun k hk => absurd hk (Nat.not_lt_zero _)) _ _ _ hp
      refine ⟨_, t1, s1, rfl, h1.run, h1.slots, h1.st, fun k hk => (h1.done k).1 (h3 k hk ?_)⟩
      rw [hbits]; simpa using hk
    · cases e
  | (i, o) :: r', hes, hef, Y, done, t, s, hS, hF, hB, hP, r, e => by
    simp only [runEffs] at e
    obtain ⟨ho, hk⟩ := hes (i, o) (by simp)
    simp only at ho hk
    have hpre : ∀ k, (ms.getD i 0).testBit k = true ↔ Pre ops i k := fun k => by subst hms; rfl
    split at e
    · rename_i d1 t1 s1 hp
      obtain ⟨Z, h1, h2, h3⟩ := phase_ok hE hms heffs (m := ms.getD i 0) (n := n) (fun a k ha hk => by
          rw [hpre] at ha ⊢
          exact pre_trans hE i a k ha hk) ops.toList 0 rfl Y done t s hS rfl (fun k hk => absurd hk (Nat.not_lt_zero _)) _ _ _ hp
      split at e
      · rename_i v s2 hst
        cases hc : (Nat.ble s1.next s2.next && !(d1.testBit i) && effs.testBit i) with
        | false => rw [hc] at e; cases e
        | true =>
          rw [hc] at e
          simp only [cond_true] at e
          rw [putT_D] at e
          simp only [Bool.and_eq_true, Bool.not_eq_true'] at hc
          have hall : ∀ q ∈ Z ++ Y, Pre ops i q.i := by
            intro q hq
            rcases List.mem_append.1 hq with hq | hq
            · exact (hpre _).1 (h2 q hq).2
            · cases Y with
              | nil => cases hq
              | cons e0 Y' =>
                have h0 := hP e0 Y' (i, o) r' rfl rfl
                rcases List.mem_cons.1 hq with rfl | hq
                · exact h0
                · exact pre_trans hE i e0.i q.i h0 (hB q hq)
          have hev : EvOk E rec ops t0 s0 (Z ++ Y) ⟨i, o, v, t1, s1, s2⟩ := by
            refine ⟨ho, fun k hk => (h1.done k).1 (h3 k ?_ ((hpre k).2 hk)), fun q hq hqi => ?_, h1.slots, h1.st, .inr ⟨hk, hst, Nat.le_of_ble_eq_true hc.1.1, hall⟩⟩
            · have := pre_lt hE i k hk
              have : i < ops.size := by
                rcases Nat.lt_or_ge i ops.size with h | h
                · exact h
                · rw [Array.getElem?_eq_none h] at ho; cases ho
              omega
            · have := (h1.done i).2 ⟨q, hq, hqi⟩
              rw [hc.1.2] at this; cases this
          have hhist : histOf E s0 n (⟨i, o, v, t1, s1, s2⟩ :: (Z ++ Y)) = (i, s2) :: histOf E s0 n Y := by
            have hk' : opKind E.P o.op = 3 := hk
            simp only [histOf, if_pos hk']
            rw [histOf_floats fun q hq => (h2 q hq).1]
          rw [← hhist] at e
          refine effs_ok hE hms heffs r' (fun x hx => hes x (List.mem_cons_of_mem _ hx)) ?_ (⟨i, o, v, t1, s1, s2⟩ :: (Z ++ Y)) _ _ _ ⟨⟨hev, h1.run⟩, h1.done.cons ⟨i, o, v, t1, s1, s2⟩, h1.slots.put ⟨i, o, v, t1, s1, s2⟩, rfl⟩ hk hall ?_ r e
          · cases r' with
            | nil => rfl
            | cons x r'' =>
              simp only [List.map_cons, effOk, Bool.and_eq_true] at hef
              exact hef.2
          · intro e1 Y1 x r1 hY hr
            cases hY; subst hr
            simp only [List.map_cons, effOk, Bool.and_eq_true] at hef
            have := hef.1
            subst hms
            exact this
      · cases e
    · cases e

theorem foldl_mask (k : Nat) : ∀ (es : List (Nat × Oper)) (s : Nat), (es.foldl (fun s x => Nat.lor s (Nat.pow 2 x.1)) s).testBit k = true ↔ s.testBit k = true ∨ ∃ x ∈ es, x.1 = k
  | [], s => by simp
  | x :: es, s => by
    rw [List.foldl_cons, foldl_mask k es, testBit_or_pow]
    simp only [Bool.or_eq_true, decide_eq_true_eq, List.mem_cons, exists_eq_or_imp]
    constructor
    · rintro ((h | h) | h)
      · exact .inl h
      · exact .inr (.inl h)
      · exact .inr (.inr h)
    · rintro (h | h | h)
      · exact .inl (.inl h)
      · exact .inl (.inr h)
      · exact .inr h

/-- What a region that draws its order comes to, as events. -/
theorem drawn_events {t : T V} {ds : List Dfr} {up : Option Md} {s : S} {recR : RecR} {r : ROut} (e : runDrawn E ops rec recR t ds up s = some r) :
    DataOk ops ∧ ∃ L t' s', r = .on t' ds up s' ∧ Run E rec ops t s L ∧ Slots t L t' ∧ s' = stOf s L ∧ ∀ k, k < ops.size → ∃ q ∈ L, q.i = k := by
  unfold runDrawn at e
  split at e
  · rename_i ms l es mask hp
    simp only [plan] at hp
    cases hc : (dataOk (masks ops.toList []) (number ops.toList 0) && effOk (masks ops.toList []) ((effects E.P (number ops.toList 0)).map (·.1))) with
    | false => rw [hc] at hp; cases hp
    | true =>
      rw [hc] at hp
      simp only [cond_true, Option.some.injEq, Plan.mk.injEq] at hp
      obtain ⟨rfl, rfl, rfl, rfl⟩ := hp
      simp only [Bool.and_eq_true] at hc
      have hD := dataOk_spec hc.1
      refine ⟨hD, ?_⟩
      refine effs_ok (n := ops.size) hD.back rfl (fun i o ho hk => ?_) _ (fun x hx => ?_) hc.2 [] 0 t s ⟨trivial, fun k => by simp, fun d => .inr ⟨by simp, rfl⟩, rfl⟩ trivial trivial (fun e Y' x r h => by cases h) r e
      · rw [foldl_mask]
        refine .inr ⟨(i, o), ?_, rfl⟩
        unfold effects
        rw [List.mem_filter]
        have hk : opKind E.P o.op = 3 := hk
        exact ⟨number_ops.2 ho, by simp [hk]⟩
      · unfold effects at hx
        rw [List.mem_filter] at hx
        obtain ⟨x1, x2⟩ := x
        exact ⟨number_ops.1 hx.1, by have h := hx.2; simp at h; exact h⟩
  · cases e

end
end Go.AI
/- Regions that draw their order: whatever order is drawn, the canonical run tells what it comes to. -/
namespace Go.AI

/-- The lineages below a number alone. -/
def Rho.to (ρ : Rho) (n : Nat) : Rho := fun f v => if f < n then ρ f v else none

theorem Rho.to_le (ρ : Rho) {n m : Nat} (h : n ≤ m) : (ρ.to n).le (ρ.to m) := fun f v l e => by
  unfold Rho.to at e ⊢
  split at e
  · rw [if_pos (by omega)]; exact e
  · cases e
theorem Rho.to_le_self (ρ : Rho) (n : Nat) : (ρ.to n).le ρ := fun f v l e => by
  unfold Rho.to at e
  split at e
  · exact e
  · cases e
theorem Rho.to_mono {ρ ρ' : Rho} (h : ρ.le ρ') (n : Nat) : (ρ.to n).le (ρ'.to n) := fun f v l e => by
  unfold Rho.to at e ⊢
  split at e
  · rename_i hf; rw [if_pos hf]; exact h _ _ _ e
  · cases e
theorem Rho.to_lt {ρ : Rho} {n f v : Nat} {l : Loc} (e : ρ.to n f v = some l) : f < n ∧ ρ f v = some l := by
  unfold Rho.to at e
  split at e
  · rename_i h; exact ⟨h, e⟩
  · cases e
theorem Rho.to_of {ρ : Rho} {n f v : Nat} (h : f < n) : ρ.to n f v = ρ f v := by unfold Rho.to; rw [if_pos h]
theorem Rho.to_ge {ρ : Rho} {n f v : Nat} (h : n ≤ f) : ρ.to n f v = none := by unfold Rho.to; rw [if_neg (by omega)]
theorem Rho.to_all {ρ : Rho} {n : Nat} (h : ∀ f v, n ≤ f → ρ f v = none) : ρ.to n = ρ := by
  funext f v
  by_cases hf : f < n
  · exact Rho.to_of hf
  · rw [Rho.to_ge (by omega), h f v (by omega)]

theorem HR.frame {ρ : Rho} {s : S} {w w' : World} (h : HR ρ s w) (hs : w.heap.size ≤ w'.heap.size) (hh : ∀ b, b < w.heap.size → w'.heap[b]? = w.heap[b]?) : HR ρ s w' :=
  ⟨h.fresh, h.inj, fun f v l e => Nat.lt_of_lt_of_le (h.low f v l e) hs, fun f B hB => (h.blk f B hB).keep ρ.le_refl (fun _ hv => hv) (fun v l e => hh _ (h.low _ _ _ e)), h.dom, h.rw⟩

def Inj (ρ : Rho) : Prop := ∀ f v l f' v' l', ρ f v = some l → ρ f' v' = some l' → l.b = l'.b → f = f' ∧ l.base = l'.base
def Low (ρ : Rho) (w : World) : Prop := ∀ f v l, ρ f v = some l → l.b < w.heap.size

theorem HR.widen {ρ : Rho} {s : S} {w : World} {n : Nat} (h : HR (ρ.to s.next) s w) (hi : Inj ρ) (hl : Low ρ w) (hn : s.next ≤ n) : HR (ρ.to n) ⟨s.h, n⟩ w := by
  refine ⟨fun f v hf => Rho.to_ge hf, fun f v l f' v' l' e e' => hi _ _ _ _ _ _ (Rho.to_lt e).2 (Rho.to_lt e').2, fun f v l e => hl _ _ _ (Rho.to_lt e).2, fun f B hB => ?_, fun f B hB => Nat.lt_of_lt_of_le (h.dom f B (by rw [S.get_eq] at hB ⊢; exact hB)) hn, fun f B hB hnr v l hl => ?_⟩
  rotate_left
  · have hB' : s.get f = some B := by rw [S.get_eq] at hB ⊢; exact hB
    exact h.rw f B hB' hnr v l (by rw [Rho.to_of (h.dom f B hB')]; exact (Rho.to_lt hl).2)
  have hB' : s.get f = some B := by rw [S.get_eq] at hB ⊢; exact hB
  have hf := h.dom f B hB'
  refine (h.blk f B hB').keep (Rho.to_le ρ hn) (fun v hv => ?_) (fun _ _ _ => rfl)
  rw [Rho.to_of hf] at hv
  rw [Rho.to_of (by omega)]; exact hv

theorem HR.bare {ρ : Rho} {w : World} {n : Nat} (hi : Inj ρ) (hl : Low ρ w) : HR (ρ.to n) ⟨.leaf, n⟩ w :=
  ⟨fun f v hf => Rho.to_ge hf, fun f v l f' v' l' e e' => hi _ _ _ _ _ _ (Rho.to_lt e).2 (Rho.to_lt e').2, fun f v l e => hl _ _ _ (Rho.to_lt e).2, fun f B hB => by (rw [S.get_eq, T.get_leaf] at hB; cases hB), fun f B hB => by (rw [S.get_eq, T.get_leaf] at hB; cases hB), fun f B hB => by (rw [S.get_eq, T.get_leaf] at hB; cases hB)⟩

/- ---- an operation that looks at no memory ---- -/
theorem nxVal_any {s s' : S} {x : Option V} {v : V} {s1 : S} (e : nxVal s x = some (.val v s1)) : nxVal s' x = some (.val v s') := by
  cases x with
  | none => cases e
  | some u => cases e; rfl

theorem doOp_bare {E : Env} {t : T V} {s : S} (s' : S) (o : Oper) (hk : opKind E.P o.op = 0) {v : V} {s1 : S} (e : doOp E t s o = some (.val v s1)) : doOp E t s' o = some (.val v s') := by
  obtain ⟨dst, op, type, pos, after, guard⟩ := o
  unfold doOp at e ⊢
  simp only at e hk ⊢
  cases op <;> simp only [opDo] at e ⊢ <;> try (cases e; done)
  case move x => exact nxVal_any e
  case assign x => exact nxVal_any e
  case pick c a b =>
    unfold doPick at e ⊢
    split at e
    · exact nxVal_any e
    · cases e
  case build ty parts => exact nxVal_any e
  case nilCheck x => exact nxVal_any e
  case binOp op ty x y z =>
    have hq : isEq op = false := by
      simp only [opKind] at hk
      cases hb : isEq op with
      | false => rfl
      | true => rw [hb] at hk; cases hk
    unfold doBin at e ⊢
    cases hx : eval t x with
    | none => rw [hx] at e; cases e
    | some a =>
      cases hy : eval t y with
      | none => rw [hx, hy] at e; cases e
      | some b =>
        rw [hx, hy] at e
        simp only at e ⊢
        cases hg : guardOk E.P op ty x y a b with
        | false => rw [hg] at e; cases e
        | true =>
          rw [hg] at e
          simp only [cond_true] at e ⊢
          have : ∀ ok ok', binOpV E.P ok op ty a b = binOpV E.P ok' op ty a b := by
            intro ok ok'
            unfold binOpV
            split
            · rfl
            · rfl
            · cases op <;> simp [isEq] at hq <;> rfl
          rw [this (plainAt s') (plainAt s)]
          exact nxVal_any e
  case unOp op ty x => exact nxVal_any e
  case convert src dst x =>
    unfold doConv at e ⊢
    split at e
    · rename_i x' hx'
      unfold nxPair at e ⊢
      unfold convV at e ⊢
      cases hs : E.P.underlying src with
      | none => simp [hs] at e
      | some ds =>
        cases hd : E.P.underlying dst with
        | none => simp [hs, hd] at e
        | some dd =>
          simp only [hs, hd] at e ⊢
          cases dd <;> simp only at e ⊢ <;> try (cases e; done)
          case int k => cases x' <;> simp only at e ⊢ <;> first | (cases e; done) | (cases e; rfl)
          case string => simp [opKind, hd] at hk
          case slice el => simp [opKind, hd] at hk
    · cases e
  case makeInterface ty x => exact nxVal_any e
  case makeFunc fn first cap => exact nxVal_any e
  case slice ty x lo hi mx => exact nxVal_any e
  case fieldAddr ty x f => exact nxVal_any e
  case field ty x f => exact nxVal_any e
  case indexAddr ty x i => exact nxVal_any e
  case index ty x i => exact nxVal_any e
  case typeAssert x xt ty ok => exact nxVal_any e
  case extract x i => exact nxVal_any e
  case call c =>
    simp only [opKind] at hk
    split at hk <;> cases hk
  all_goals (first | (simp [opKind] at hk; done) | (exfalso; revert hk; simp [opKind]))

/- ---- the slots that an operation sees ---- -/
def only (t : T V) : List Tmp → T V
  | [] => .leaf
  | d :: r => (only t r).set (t.get (pth d)) (pth d)

theorem only_get (t : T V) : ∀ (l : List Tmp) (d : Tmp), (only t l).get (pth d) = if d ∈ l then t.get (pth d) else none
  | [], d => by simp [only, T.get_leaf]
  | x :: r, d => by
    simp only [only]
    rw [T.get_setN, only_get t r d]
    by_cases h : x = d
    · subst h; simp
    · rw [if_neg h]
      have : d ≠ x := fun e => h e.symm
      simp [this]

def guardSlot (ops : Array Oper) (o : Oper) : List Tmp := match o.guard with
  | some (j, _) => ((ops[j]?).bind (·.dst)).toList
  | none => []

def looks (ops : Array Oper) (o : Oper) : List Tmp := sees o ++ guardSlot ops o

theorem only_eval {t : T V} {ops : Array Oper} {o : Oper} {x : Operand} (hx : x ∈ o.op.operands) : eval t x = eval (only t (looks ops o)) x := by
  cases x with
  | tmp d =>
    simp only [eval]
    rw [only_get, if_pos]
    unfold looks sees
    refine List.mem_append.2 (.inl ?_)
    rw [List.mem_filterMap]
    exact ⟨.tmp d, by simpa using hx, rfl⟩
  | const v => rfl
  | global g => rfl
  | func f => rfl

theorem only_doOp {E : Env} {ops : Array Oper} {t : T V} {s : S} {o : Oper} : doOp E (only t (looks ops o)) s o = doOp E t s o :=
  (doOp_congr o fun _ hx => only_eval hx).symm

theorem only_wanted {ops : Array Oper} {t : T V} {o : Oper} : wantedV ops (only t (looks ops o)) o = wantedV ops t o := by
  unfold wantedV
  split
  · rfl
  · rename_i j want hg
    split
    · rename_i d hd
      rw [only_get, if_pos]
      unfold looks guardSlot
      refine List.mem_append.2 (.inr ?_)
      rw [hg]; simp [hd]
    · rfl

theorem bif_some {α : Type} {c : Bool} {x : Option α} {y : α} (h : (bif c then x else none) = some y) : x = some y := by cases c <;> first | (cases h; done) | exact h

theorem doOp_alloc {E : Env} {t : T V} {s : S} (o : Oper) (hk : opKind E.P o.op = 2) {v : V} {s1 : S} (e : doOp E t s o = some (.val v s1)) : ∃ B, s1 = s.alloc B := by
  obtain ⟨dst, op, type, pos, after, guard⟩ := o
  unfold doOp at e
  simp only at e hk
  cases op <;> simp only [opDo] at e <;> try (cases e; done)
  case alloc elem =>
    unfold doAlloc nxNew newCells newCellsB at e
    split at e
    · cases e; exact ⟨_, rfl⟩
    · cases e
  case box elem x =>
    unfold doBox nxNew newCells newCellsB at e
    split at e
    · cases e; exact ⟨_, rfl⟩
    · cases e
  case buildSlice ty len parts =>
    unfold doBuildSlice at e
    split at e
    · split at e
      · split at e
        · split at e
          · have e := bif_some e
            unfold sliceNew newCells newCellsB at e
            split at e
            · cases e; exact ⟨_, rfl⟩
            · cases e
          · cases e
        · cases e
      · cases e
    · cases e
  case makeMap ty r =>
    cases r with
    | none => cases e; exact ⟨_, rfl⟩
    | some _ => cases e
  case makeSlice ty l c =>
    unfold doMkSlice newCells newCellsB at e
    split at e
    · split at e
      · split at e
        · split at e
          · split at e
            · have e := bif_some e
              cases e; exact ⟨_, rfl⟩
            · cases e
          · cases e
        · cases e
      · cases e
    · cases e
  case convert src dst x =>
    unfold doConv nxPair convV at e
    split at e
    · rename_i x' hx'
      cases hd : E.P.underlying dst with
      | none => simp [opKind, hd] at hk
      | some d =>
        cases d <;> simp [opKind, hd] at hk
        cases hs : E.P.underlying src with
        | none => simp [hs] at e
        | some ds =>
          simp only [hs, hd] at e
          cases x' <;> simp only [toBytes] at e <;> try (cases e; done)
          cases ds <;> simp only [newCellsB] at e <;> try (cases e; done)
          split at e
          · rename_i hh
            have hh := bif_some hh
            cases hh; cases e; exact ⟨_, rfl⟩
          · cases e
    · cases e
  case binOp op ty x y z => simp only [opKind] at hk; cases hb : isEq op <;> simp [hb] at hk
  case call c => simp only [opKind] at hk; split at hk <;> simp at hk
  all_goals simp [opKind] at hk

section
variable {E : Env} {rec : RecF} {ops : Array Oper} {t0 : T V} {s0 : S}

theorem EvOk.next_le {Y : List Ev} {e : Ev} (h : EvOk E rec ops t0 s0 Y e) : e.a.next ≤ e.b.next := by
  rcases h.step with ⟨_, ⟨_, _, hb⟩ | ⟨_, ⟨_, hb, _⟩ | ⟨_, hb, _⟩ | ⟨hk, hb⟩⟩⟩ | ⟨_, _, hb, _⟩
  · rw [hb]; exact Nat.le_refl _
  · rw [hb]; exact Nat.le_refl _
  · rw [hb]; exact Nat.le_refl _
  · obtain ⟨B, hB⟩ := doOp_alloc e.o hk hb
    rw [hB, S.next_alloc]; omega
  · exact hb

theorem Run.next_le : ∀ {X Y : List Ev}, Run E rec ops t0 s0 (X ++ Y) → (stOf s0 Y).next ≤ (stOf s0 (X ++ Y)).next
  | [], _, _ => Nat.le_refl _
  | e :: X, Y, h => by
    refine Nat.le_trans (Run.next_le h.2) ?_
    have := h.1.next_le
    rw [h.1.st] at this
    exact this

theorem Run.suf : ∀ {X Y : List Ev}, Run E rec ops t0 s0 (X ++ Y) → Run E rec ops t0 s0 Y
  | [], _, h => h
  | _ :: X, _, h => Run.suf (X := X) h.2

/-- What ran before ends below where what runs later begins. -/
theorem Run.before {Y : List Ev} {e : Ev} (h : EvOk E rec ops t0 s0 Y e) (hR : Run E rec ops t0 s0 Y) {q : Ev} (hq : q ∈ Y) : q.b.next ≤ e.a.next := by
  obtain ⟨Y1, Y2, rfl⟩ := List.append_of_mem hq
  rw [h.st]
  exact Run.next_le (Y := q :: Y2) hR

theorem Run.start {Y : List Ev} {e : Ev} (h : EvOk E rec ops t0 s0 Y e) (hR : Run E rec ops t0 s0 Y) : s0.next ≤ e.a.next := by
  rw [h.st]
  have h1 : Run E rec ops t0 s0 (Y ++ []) := by simpa using hR
  have h2 := Run.next_le h1
  rw [List.append_nil] at h2
  exact h2

theorem Run.ok {L : List Ev} (h : Run E rec ops t0 s0 L) {e : Ev} (he : e ∈ L) : ∃ X Y, L = X ++ e :: Y ∧ EvOk E rec ops t0 s0 Y e ∧ Run E rec ops t0 s0 Y := by
  obtain ⟨X, Y, rfl⟩ := List.append_of_mem he
  obtain ⟨h1, h2⟩ := Run.at h
  exact ⟨X, Y, rfl, h1, h2⟩

theorem Run.uniq {L : List Ev} (h : Run E rec ops t0 s0 L) {a b : Ev} (ha : a ∈ L) (hb : b ∈ L) (hi : a.i = b.i) : a = b := by
  induction L with
  | nil => cases ha
  | cons e Y ih =>
    rcases List.mem_cons.1 ha with rfl | ha'
    · rcases List.mem_cons.1 hb with rfl | hb'
      · rfl
      · exact absurd hi.symm (h.1.new b hb')
    · rcases List.mem_cons.1 hb with rfl | hb'
      · exact absurd hi (h.1.new a ha')
      · exact ih h.2 ha' hb'

/-- Where the machine stands in the region: F has come to pass in full; of X some floats have. -/
structure Inv (E : Env) (t0 : T V) (s0 : S) (ρ0 : Rho) (w0 : World) (X F : List Ev) (R : Nat → Prop) (ρ : Rho) (w : World) (tm : Array Value) : Prop where
  front : Front E F
  inF : ∀ e ∈ F, R e.i
  noE : ∀ e ∈ X, R e.i → ¬ Act3 E e.o
  vals : ∀ e ∈ X ++ F, R e.i → ∃ y, den (ρ.to e.b.next) e.v = some y ∧ ∀ d, e.o.dst = some d → tm[d]? = some y
  olds : ∀ d x, t0.get (pth d) = some x → (∀ e ∈ X ++ F, R e.i → e.o.dst ≠ some d) → ∃ y, den (ρ.to s0.next) x = some y ∧ tm[d]? = some y
  blks : ∀ e ∈ X, R e.i → e.b = e.a ∨ ∃ B, e.b = e.a.alloc B ∧ BlkR (ρ.to e.b.next) w e.a.next B ∧ ∀ v l, ρ e.a.next v = some l → ¬ l.ro
  hr : HR (ρ.to (stOf s0 F).next) (stOf s0 F) w
  inj : Inj ρ
  low : Low ρ w
  fresh : ∀ f v, ρ f v ≠ none → f < (stOf s0 F).next ∨ ∃ e ∈ X, R e.i ∧ f = e.a.next ∧ f < e.b.next
  fr : FR ρ0 w0 ρ w

/-- The floats that ran early are handed over. -/
theorem Inv.reg {ρ0 : Rho} {w0 : World} {X F : List Ev} {R : Nat → Prop} {ρ : Rho} {w : World} {tm : Array Value} (h : Inv E t0 s0 ρ0 w0 X F R ρ w tm) :
    ∀ {X1 Z : List Ev}, X = X1 ++ Z → Run E rec ops t0 s0 (Z ++ F) → (∀ e ∈ Z, R e.i) → HR (ρ.to (stOf s0 (Z ++ F)).next) (stOf s0 (Z ++ F)) w
  | _, [], _, _, _ => h.hr
  | X1, e :: Z, hX, hR, hin => by
    have ih := Inv.reg h (X1 := X1 ++ [e]) (Z := Z) (by simpa using hX) hR.2 fun q hq => hin q (List.mem_cons_of_mem _ hq)
    have hst : e.a = stOf s0 (Z ++ F) := hR.1.st
    rw [← hst] at ih
    show HR (ρ.to e.b.next) e.b w
    rcases h.blks e (by rw [hX]; simp) (hin e (by simp)) with hb | ⟨B, hb, hB, hro⟩
    · rw [hb]; exact ih
    · rw [hb] at hB ⊢
      rw [S.next_alloc] at hB ⊢
      refine ⟨fun f v hf => Rho.to_ge (by rw [S.next_alloc] at hf; exact hf), fun f v l f' v' l' e1 e2 => h.inj _ _ _ _ _ _ (Rho.to_lt e1).2 (Rho.to_lt e2).2, fun f v l e1 => h.low _ _ _ (Rho.to_lt e1).2, fun f B' hg => ?_, fun f B' hg => ?_, fun f B' hg hnr v l hl => ?_⟩
      · rw [S.get_alloc] at hg
        split at hg
        · rename_i he; cases hg; subst he; exact hB
        · rename_i he
          have hf := ih.dom f B' hg
          refine (ih.blk f B' hg).keep (Rho.to_le ρ (Nat.le_succ _)) (fun v hv => ?_) (fun _ _ _ => rfl)
          rw [Rho.to_of hf] at hv
          rw [Rho.to_of (by omega)]; exact hv
      · rw [S.get_alloc] at hg
        rw [S.next_alloc]
        split at hg
        · omega
        · have := ih.dom f B' hg; omega
      · rw [S.get_alloc] at hg
        split at hg
        · rename_i he; subst he; exact hro v l (Rho.to_lt hl).2
        · exact ih.rw f B' hg hnr v l (by rw [Rho.to_of (ih.dom f B' hg)]; exact (Rho.to_lt hl).2)

/-- What an operation looks at lies in the frame. -/
theorem Inv.env {ρ0 : Rho} {w0 : World} {X1 X2 F : List Ev} {e : Ev} {R : Nat → Prop} {ρ : Rho} {w : World} {tm : Array Value} (hD : DataOk ops) (h : Inv E t0 s0 ρ0 w0 (X1 ++ e :: X2) F R ρ w tm)
    (hR : Run E rec ops t0 s0 (X1 ++ e :: (X2 ++ F))) (hn : ¬ R e.i) (hcl : Closed ops R) (hpre : ∀ k, Pre ops e.i k → R k) : TR (ρ.to e.a.next) (only e.t (looks ops e.o)) tm := by
  obtain ⟨hev, hRY⟩ := Run.at hR
  have hL : X1 ++ e :: X2 ++ F = X1 ++ e :: (X2 ++ F) := by simp
  intro d x hx
  rw [only_get] at hx
  split at hx
  · rename_i hd
    have hord : ∀ q oq, ops[q]? = some oq → oq.dst = some d → q ≠ e.i → Pre ops e.i q ∨ Pre ops q e.i := by
      intro q oq hq hdq hqi
      rcases List.mem_append.1 hd with hd | hd
      · exact hD.sees e.i q e.o oq d hev.op hq (fun h => hqi h.symm) hdq hd
      · unfold guardSlot at hd
        split at hd
        · rename_i g b hg
          have hgd : ((ops[g]?).bind (·.dst)) = some d := by simpa using hd
          cases hog : ops[g]? with
          | none => rw [hog] at hgd; cases hgd
          | some og =>
            rw [hog] at hgd
            by_cases hgq : g = q
            · subst hgq; exact .inl (hD.guard e.i e.o g b hev.op hg)
            · exact absurd hgd (hD.dst g q og oq d hog hq hgq hdq)
        · simp at hd
    rcases hev.slots d with ⟨q, q1, q2, q3⟩ | ⟨q1, q2⟩
    · rw [q3] at hx; cases hx
      obtain ⟨Ya, Yb, hY, hqev, _⟩ := Run.ok hRY q1
      have hqi : q.i ≠ e.i := hev.new q q1
      rcases hord q.i q.o hqev.op q2 hqi with p | p
      · obtain ⟨y, y1, y2⟩ := h.vals q (by rw [hL]; simp; right; right; simpa using q1) (hpre _ p)
        exact ⟨y, den_mono (Rho.to_le ρ (Run.before hev hRY q1)) _ _ y1, y2 d q2⟩
      · obtain ⟨z, z1, z2⟩ := hqev.pre e.i p
        exact absurd z2 (hev.new z (by rw [hY]; simp; right; right; exact z1))
    · rw [q2] at hx
      obtain ⟨y, y1, y2⟩ := h.olds d x hx (fun q hq hr hdq => by
        rw [hL] at hq
        obtain ⟨_, Y', _, k1, _⟩ := Run.ok hR hq
        by_cases hqi : q.i = e.i
        · rw [hqi] at hr; exact hn hr
        · rcases hord q.i q.o k1.op hdq hqi with p | p
          · obtain ⟨z, z1, z2⟩ := hev.pre _ p
            have hz : z = q := Run.uniq hR (by simp; right; right; simpa using z1) hq z2
            subst hz
            exact q1 z z1 hdq
          · exact hn (hcl q.i e.i hr p))
      exact ⟨y, den_mono (Rho.to_le ρ (Run.start hev hRY)) _ _ y1, y2⟩
  · cases hx

end
end Go.AI
