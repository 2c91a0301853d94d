/- The evaluator by which runs of the program are reckoned, and that it is sound: part 2. No conditions beyond those of the row. -/
import Derived.Test.YtkeaedhoaamfnaaGreatDoorA1
import Derived.Laws.Sem
import Derived.Laws.World
import Derived.Laws.Cells
import Derived.Laws.Entries
import Derived.Laws.StructEq
set_option linter.unusedVariables false
set_option linter.unusedSimpArgs false
noncomputable section
namespace Go.AI
structure wF where
 b : Nat
 base : Nat
 lim : Nat
def wF.ro (l : wF) : Prop := l.lim < l.base
abbrev aq := Nat → Nat → Option wF
def aq.le (ρ ρ' : aq) : Prop := ∀ f v l, ρ f v = some l → ρ' f v = some l
theorem aq.le_refl (ρ : aq) : ρ.le ρ := fun _ _ _ h => h
theorem aq.le_trans {a b c : aq} (h : a.le b) (k : b.le c) : a.le c := fun _ _ _ x => k _ _ _ (h _ _ _ x)
def ar (l : List Nat) : ByteArray := ⟨(l.map UInt8.ofNat).toArray⟩
def iq (ρ : aq) (a : Ad) : Option Addr := match ρ a.f a.v with
 | some l => if l.base ≤ a.c then some ⟨l.b, a.c - l.base, none⟩ else none
 | none => none
def mF (ρ : aq) : Fn → Option Fn
 | .yield l => match ρ l 0 with
  | some x => some (.yield x.b)
  | none => none
 | f => some f
def cC (l : wF) (a : Ad) (cap : Option Nat) (sz : Nat) : Nat := match cap with
 | some c => c
 | none => (l.lim - a.c) / sz
def bm (l : wF) (a : Ad) (z : Nat) (cap : Option Nat) (sz : Nat) : Nat := match cap with
 | some _ => a.c
 | none => if (l.lim - a.c) / sz = 0 then z else a.c
def Hj : Nat → Option Nat
 | 0 => none
 | n + 1 => some n
def jW (ρ : aq) (a : Ad) (z len : Nat) (cap : Option Nat) (sz : Nat) : Option Value := if sz = 0 then (if len = 0 ∧ cap = some 0 then some (.slice (some ⟨a.f, a.c, Hj a.v⟩) 0 0) else none) else match ρ a.f a.v with
 | some l => if l.base ≤ bm l a z cap sz ∧ l.base ≤ a.c ∧ len ≤ cC l a cap sz ∧ 0 < sz then
  some (.slice (some ⟨l.b, bm l a z cap sz - l.base, none⟩) len (cC l a cap sz)) else none
 | none => none
mutual
def den (ρ : aq) : V → Option Value
 | .bool b => some (.bool b)
 | .int k n => some (.int k n)
 | .str l => some (.string (ar l))
 | .ptr a => match iq ρ a with
  | some x => some (.pointer (some x))
  | none => none
 | .nilptr => some (.pointer none)
 | .slice a z len cap sz => jW ρ a z len cap sz
 | .nilslice => some (.slice none 0 0)
 | .map r => match ρ r 0 with
  | some l => some (.map (some l.b))
  | none => none
 | .nilmap => some (.map none)
 | .func fn first cap => match mF ρ fn with
  | some fn => match aY ρ first with
   | some first => match aY ρ cap with
    | some cap => some (.func fn first.toArray cap.toArray)
    | none => none
   | none => none
  | none => none
 | .nilFunc => some .nilFunc
 | .iface t v => match den ρ v with
  | some x => some (.iface t x)
  | none => none
 | .nilIface => some .nilIface
 | .agg cs => match aY ρ cs with
  | some l => some (.agg l.toArray)
  | none => none
 | .tuple cs => match aY ρ cs with
  | some l => some (.tuple l.toArray)
  | none => none
 | .atom _ => none
def aY (ρ : aq) : List V → Option (List Value)
 | [] => some []
 | x :: r => match den ρ x with
  | some y => match aY ρ r with
   | some l => some (y :: l)
   | none => none
  | none => none
end
theorem Jm {ρ ρ' : aq} (h : ρ.le ρ') {a : Ad} {x : Addr} (e : iq ρ a = some x) : iq ρ' a = some x := by
 unfold iq at e ⊢
 cases hl : ρ a.f a.v with
 | none => simp [hl] at e
 | some l => rw [hl] at e; rw [h _ _ _ hl]; exact e
theorem vQ {ρ ρ' : aq} (h : ρ.le ρ') {a x : Fn} (e : mF ρ a = some x) : mF ρ' a = some x := by
 cases a <;> try exact e
 rename_i l
 unfold mF at e ⊢
 cases hl : ρ l 0 with
 | none => simp [hl] at e
 | some y => simp only [hl] at e; simp only [h _ _ _ hl]; exact e
mutual
theorem bA {ρ ρ' : aq} (h : ρ.le ρ') : ∀ (v : V) (x : Value), den ρ v = some x → den ρ' v = some x
 | .atom _, _, e => by simp only [den] at e; cases e
 | .bool _, _, e => e
 | .int _ _, _, e => e
 | .str _, _, e => e
 | .ptr a, x, e => by
  simp only [den] at e ⊢
  cases ha : iq ρ a with
  | none => simp [ha] at e
  | some y => rw [ha] at e; rw [Jm h ha]; exact e
 | .nilptr, _, e => e
 | .slice a z len cap sz, x, e => by
  simp only [den, jW] at e ⊢
  by_cases hz : sz = 0
  ·rw [if_pos hz] at e ⊢; exact e
  rw [if_neg hz] at e ⊢
  cases hl : ρ a.f a.v with
  | none => simp [hl] at e
  | some l => rw [hl] at e; rw [h _ _ _ hl]; exact e
 | .nilslice, _, e => e
 | .map r, x, e => by
  simp only [den] at e ⊢
  cases hl : ρ r 0 with
  | none => simp [hl] at e
  | some l => rw [hl] at e; rw [h _ _ _ hl]; exact e
 | .nilmap, _, e => e
 | .func fn first cap, x, e => by
  simp only [den] at e ⊢
  cases hf : mF ρ fn with
  | none => simp [hf] at e
  | some g =>
   rw [hf] at e; rw [vQ h hf]
   cases h1 : aY ρ first with
   | none => simp [h1] at e
   | some l =>
    cases h2 : aY ρ cap with
    | none => simp [h1, h2] at e
    | some m => simp only [h1, h2] at e; simp only [fI h first l h1, fI h cap m h2]; exact e
 | .nilFunc, _, e => e
 | .iface t v, x, e => by
  simp only [den] at e ⊢
  cases hv : den ρ v with
  | none => simp [hv] at e
  | some y => rw [hv] at e; rw [bA h v y hv]; exact e
 | .nilIface, _, e => e
 | .agg cs, x, e => by
  simp only [den] at e ⊢
  cases hl : aY ρ cs with
  | none => simp [hl] at e
  | some l => rw [hl] at e; rw [fI h cs l hl]; exact e
 | .tuple cs, x, e => by
  simp only [den] at e ⊢
  cases hl : aY ρ cs with
  | none => simp [hl] at e
  | some l => rw [hl] at e; rw [fI h cs l hl]; exact e
theorem fI {ρ ρ' : aq} (h : ρ.le ρ') : ∀ (l : List V) (m : List Value), aY ρ l = some m → aY ρ' l = some m
 | [], _, e => e
 | x :: r, m, e => by
  simp only [aY] at e ⊢
  cases hx : den ρ x with
  | none => simp [hx] at e
  | some y =>
   cases hr : aY ρ r with
   | none => simp [hx, hr] at e
   | some q => simp only [hx, hr] at e; simp only [bA h x y hx, fI h r q hr]; exact e
end
theorem aW {ρ : aq} {x : V} {r : List V} {m : List Value} : aY ρ (x :: r) = some m ↔ ∃ y q, den ρ x = some y ∧ aY ρ r = some q ∧ m = y :: q := by
 simp only [aY]
 cases hx : den ρ x with
 | none => simp
 | some y =>
  cases hr : aY ρ r with
  | none => simp
  | some q => simp [eq_comm]
theorem dK {ρ : aq} : ∀ {x y : List V} {a b : List Value}, aY ρ x = some a → aY ρ y = some b → aY ρ (x ++ y) = some (a ++ b)
 | [], y, a, b, hx, hy => by cases hx; exact hy
 | v :: x, y, a, b, hx, hy => by
  obtain ⟨u, q, h1, h2, rfl⟩ := aW.1 hx
  exact aW.2 ⟨u, q ++ b, h1, dK h2 hy, rfl⟩
theorem bG {ρ : aq} : ∀ {x : List V} {a : List Value}, aY ρ x = some a → a.length = x.length
 | [], a, h => by cases h; rfl
 | v :: x, a, h => by
  obtain ⟨u, q, h1, h2, rfl⟩ := aW.1 h
  simp [bG h2]
theorem eC {ρ : aq} : ∀ {x : List V} {a : List Value} (i : Nat) {v : V}, aY ρ x = some a → x[i]? = some v → ∃ y, den ρ v = some y ∧ a[i]? = some y
 | [], a, i, v, h, e => by simp at e
 | u :: x, a, i, v, h, e => by
  obtain ⟨y, q, h1, h2, rfl⟩ := aW.1 h
  cases i with
  | zero => simp at e; subst e; exact ⟨y, h1, rfl⟩
  | succ i => simp at e; obtain ⟨z, hz, hz'⟩ := eC i h2 e; exact ⟨z, hz, by simpa using hz'⟩
theorem yK {ρ : aq} : ∀ {x : List V} {a : List Value} (n : Nat), aY ρ x = some a → aY ρ (x.drop n) = some (a.drop n)
 | [], a, n, h => by cases h; simp [aY]
 | u :: x, a, n, h => by
  obtain ⟨y, q, h1, h2, rfl⟩ := aW.1 h
  cases n with
  | zero => exact aW.2 ⟨y, q, h1, h2, rfl⟩
  | succ n => simpa using yK n h2
theorem yJ {ρ : aq} : ∀ {x : List V} {a : List Value} (n : Nat), aY ρ x = some a → aY ρ (x.take n) = some (a.take n)
 | [], a, n, h => by cases h; simp [aY]
 | u :: x, a, n, h => by
  obtain ⟨y, q, h1, h2, rfl⟩ := aW.1 h
  cases n with
  | zero => simp [aY]
  | succ n => simpa using aW.2 ⟨y, q.take n, h1, yJ n h2, rfl⟩
theorem kL {ρ : aq} : ∀ {x : List V} {a : List Value}, x.length = a.length → (∀ (i : Nat) (v : V), x[i]? = some v → ∃ y, den ρ v = some y ∧ a[i]? = some y) → aY ρ x = some a
 | [], a, hl, h => by have : a = [] := List.length_eq_zero_iff.1 hl.symm; subst this; rfl
 | u :: x, [], hl, h => by simp at hl
 | u :: x, b :: a, hl, h => by
  obtain ⟨y, hy, hy'⟩ := h 0 u rfl
  simp at hy'; subst hy'
  exact aW.2 ⟨b, a, hy, kL (by simpa using hl) (fun i v e => by simpa using h (i + 1) v (by simpa using e)), rfl⟩
theorem eB {ρ : aq} {v : V} {x : Value} (h : den ρ v = some x) : aY ρ v.cells = some x.cells.toList := by
 cases v <;> try (
  refine aW.2 ⟨x, [], h, rfl, ?_⟩
  simp only [den] at h
  (repeat' split at h) <;> first | (cases h; done) | (cases h; rfl))
 case slice a z len cap sz =>
  refine aW.2 ⟨x, [], h, rfl, ?_⟩
  simp only [den, jW] at h
  (repeat' split at h) <;> first | (cases h; done) | (cases h; rfl)
 case agg cs =>
  simp only [den] at h
  split at h
  ·rename_i l hl
   cases h
   simpa [V.cells, Value.cells] using hl
  ·cases h
theorem uO {ρ : aq} {v : V} {x : Value} (h : den ρ v = some x) (h1 : v.one = true) : x.oneCell' = true := by
 cases v <;> simp [V.one] at h1
 case atom i => simp only [den] at h; cases h
 case slice a z len cap sz =>
  simp only [den, jW] at h
  (repeat' split at h) <;> first | (cases h; done) | (cases h; rfl)
 all_goals
  simp only [den] at h
  (repeat' split at h) <;> first | (cases h; done) | (cases h; rfl)
def TR (ρ : aq) (t : T V) (tm : Array Value) : Prop := ∀ (i : Nat) (v : V), t.get (eT i) = some v → ∃ y, den ρ v = some y ∧ tm[i]? = some y
theorem TR.mono {ρ ρ' : aq} (h : ρ.le ρ') {t : T V} {tm : Array Value} (k : TR ρ t tm) : TR ρ' t tm := fun i v e => by
 obtain ⟨y, hy, hy'⟩ := k i v e
 exact ⟨y, bA h v y hy, hy'⟩
theorem TR.leaf (ρ : aq) (tm : Array Value) : TR ρ .leaf tm := fun i v e => by rw [T.get_leaf] at e; cases e
theorem TR.put {ρ : aq} {t : T V} {tm : Array Value} (k : TR ρ t tm) {i : Nat} {v : V} {y : Value} (hv : den ρ v = some y) (hi : i < tm.size) :
 TR ρ (t.set (some v) (eT i)) (tm.setIfInBounds i y) := fun j u e => by
 rw [T.get_setN] at e
 by_cases h : i = j
 ·subst h; rw [if_pos rfl] at e; cases e; exact ⟨y, hv, by simp [hi]⟩
 ·rw [if_neg h] at e
  obtain ⟨z, hz, hz'⟩ := k j u e
  exact ⟨z, hz, by rw [Array.getElem?_setIfInBounds_ne h]; exact hz'⟩
def TG (ρ : aq) (e : pL) (r : MapEntry) : Prop := den ρ e.key = some r.key ∧ den ρ e.val = some r.val ∧ e.born = r.born
def fV (ρ : aq) : List pL → List MapEntry → Prop
 | [], [] => True
 | e :: es, r :: rs => TG ρ e r ∧ fV ρ es rs
 | _, _ => False
theorem fV.mono {ρ ρ' : aq} (h : ρ.le ρ') : ∀ {es : List pL} {rs : List MapEntry}, fV ρ es rs → fV ρ' es rs
 | [], [], _ => trivial
 | _ :: _, _ :: _, ⟨⟨a, b, c⟩, k⟩ => ⟨⟨bA h _ _ a, bA h _ _ b, c⟩, fV.mono h k⟩
 | [], _ :: _, k => k.elim
 | _ :: _, [], k => k.elim
def DR (ρ : aq) (w : World) (f : Nat) (sb : Bool) (u : mH) : Prop :=
 ∃ (l : wF) (c : Array Value) (e : TypeId) (fz : Nat × Nat), ρ f u.v = some l ∧ w.heap[l.b]? = some (.cells c e fz) ∧ l.base ≤ u.lo ∧ l.lim = l.base + c.size ∧
  ((sb = false → fz = (0, 0)) ∧ ∀ i, i < c.size → ¬ (fz.1 ≤ i ∧ i < fz.2)) ∧ ∀ (i : Nat) (x : V), u.cells[i]? = some x → ∃ y, den ρ x = some y ∧ c[u.lo - l.base + i]? = some y
def TB (ρ : aq) (w : World) (f : Nat) (u : mH) : Prop :=
 ∃ (l : wF) (c : Array Value) (e : TypeId) (fz : Nat × Nat), ρ f u.v = some l ∧ w.heap[l.b]? = some (.cells c e fz) ∧ l.base ≤ u.lo ∧
  ∀ (i : Nat) (x : V), u.cells[i]? = some x → ∃ y, den ρ x = some y ∧ c[u.lo - l.base + i]? = some y
def TA (ρ : aq) (w : World) (f : Nat) (u : mH) : Prop :=
 ∃ (l : wF) (c : Array Value) (e : TypeId) (fz : Nat × Nat), ρ f u.v = some l ∧ l.b = f ∧ w.heap[f]? = some (.cells c e fz) ∧ (u.v = 127 → l.base = u.lo ∧ c.size = u.cells.length)
def wC (ρ : aq) (w : World) (f : Nat) : bP → Prop
 | .ro vers => ∀ u ∈ vers, TB ρ w f u ∧ TA ρ w f u
 | .cells _ sb nv vers => (∀ v, nv ≤ v → ρ f v = none) ∧ ∀ u ∈ vers, u.v < nv ∧ DR ρ w f sb u
 | .map es clock => ∃ l rs, ρ f 0 = some l ∧ w.heap[l.b]? = some (.map rs clock) ∧ fV ρ es rs.toList
 | .gone => True
 | .loop st pend fn t ps a b d nt => ∃ l ld tm, ρ f 0 = some l ∧ ρ d 0 = some ld ∧ TR ρ t tm ∧ nt ≤ tm.size ∧ w.heap[l.b]? = some (.loop { state := st, pending := pend, fn, tmps := tm, params := ps, assign := a, body := b, defers := ld.b })
 | .deferred => ∃ l, ρ f 0 = some l ∧ w.heap[l.b]? = some (.deferred (some []))
structure HR (ρ : aq) (s : S) (w : World) : Prop where
 fresh : ∀ f v, s.next ≤ f → ρ f v = none
 inj : ∀ f v l f' v' l', ρ f v = some l → ρ f' v' = some l' → l.b = l'.b → f = f' ∧ l.base = l'.base
 low : ∀ f v l, ρ f v = some l → l.b < w.heap.size
 blk : ∀ f B, s.get f = some B → wC ρ w f B
 dom : ∀ f B, s.get f = some B → f < s.next
 rw : ∀ f B, s.get f = some B → (∀ vers, B ≠ .ro vers) → ∀ v l, ρ f v = some l → ¬ l.ro
structure FR (ρ : aq) (w : World) (ρ' : aq) (w' : World) : Prop where
 ext : ρ.le ρ'
 size : w.heap.size ≤ w'.heap.size
 os : w'.os = w.os
 tape : w'.tape = w.tape
 output : w'.output = w.output
 same : ∀ b, b < w.heap.size → (∀ f v l, ρ f v = some l → ¬ l.ro → l.b ≠ b) → w'.heap[b]? = w.heap[b]?
 new : ∀ f v l, ρ' f v = some l → l.b < w.heap.size → ∃ f' v' l', ρ f' v' = some l' ∧ l'.b = l.b ∧ (l'.ro → l.ro)
theorem FR.refl (ρ : aq) (w : World) : FR ρ w ρ w := ⟨ρ.le_refl, Nat.le_refl _, rfl, rfl, rfl, fun _ _ _ => rfl, fun f v l h _ => ⟨f, v, l, h, rfl, id⟩⟩
theorem FR.trans {ρ ρ1 ρ2 : aq} {w w1 w2 : World} (h : FR ρ w ρ1 w1) (k : FR ρ1 w1 ρ2 w2) : FR ρ w ρ2 w2 where
 ext := aq.le_trans h.ext k.ext
 size := Nat.le_trans h.size k.size
 os := k.os.trans h.os
 tape := k.tape.trans h.tape
 output := k.output.trans h.output
 same b hb hn := by
  rw [k.same b (Nat.lt_of_lt_of_le hb h.size) (fun f v l e hro he => ?_)]
  ·exact h.same b hb hn
  ·obtain ⟨f', v', l', e', he', hr'⟩ := h.new f v l e (by omega)
   exact hn f' v' l' e' (fun q => hro (hr' q)) (by omega)
 new f v l e hl := by
  obtain ⟨f1, v1, l1, e1, h1, r1⟩ := k.new f v l e (Nat.lt_of_lt_of_le hl h.size)
  obtain ⟨f2, v2, l2, e2, h2, r2⟩ := h.new f1 v1 l1 e1 (by omega)
  exact ⟨f2, v2, l2, e2, by omega, fun q => r1 (r2 q)⟩
theorem FR.drawn {ρ : aq} (w : World) (n : Nat) : FR ρ w ρ { w with drawn := n } := ⟨ρ.le_refl, Nat.le_refl _, rfl, rfl, rfl, fun _ _ _ => rfl, fun f v l h _ => ⟨f, v, l, h, rfl, id⟩⟩
theorem DR.of_heap {ρ : aq} {w w' : World} {f : Nat} {sb : Bool} {u : mH} (h : DR ρ w f sb u) (hh : ∀ l, ρ f u.v = some l → w'.heap[l.b]? = w.heap[l.b]?) : DR ρ w' f sb u := by
 obtain ⟨l, c, e, fz, h1, h2, r⟩ := h
 exact ⟨l, c, e, fz, h1, by rw [hh l h1]; exact h2, r⟩
theorem DR.mono {ρ ρ' : aq} (h : ρ.le ρ') {w : World} {f : Nat} {sb : Bool} {u : mH} (k : DR ρ w f sb u) : DR ρ' w f sb u := by
 obtain ⟨l, c, e, fz, h1, h2, h3, h4, h5, h6⟩ := k
 refine ⟨l, c, e, fz, h _ _ _ h1, h2, h3, h4, h5, fun i x hx => ?_⟩
 obtain ⟨y, hy, hy'⟩ := h6 i x hx
 exact ⟨y, bA h x y hy, hy'⟩
theorem HR.drawn {ρ : aq} {s : S} {w : World} (h : HR ρ s w) (n : Nat) : HR ρ s { w with drawn := n } :=
 ⟨h.fresh, h.inj, h.low, h.blk, h.dom, h.rw⟩
theorem gR : ∀ {vers : List mH} {v : Nat} {u : mH}, bg vers v = some u → u ∈ vers ∧ u.v = v
 | [], v, u, h => by simp [bg] at h
 | x :: r, v, u, h => by
  simp only [bg] at h
  cases hb : Nat.beq x.v v with
  | true => simp [hb] at h; subst h; exact ⟨by simp, Nat.eq_of_beq_eq_true hb⟩
  | false => simp [hb] at h; obtain ⟨h1, h2⟩ := gR h; exact ⟨List.mem_cons_of_mem _ h1, h2⟩
theorem jD : ∀ {n : Nat} {l m : List V}, aO n l = some m → m = l.take n ∧ n ≤ l.length
 | 0, l, m, h => by simp [aO] at h; subst h; simp
 | n + 1, [], m, h => by simp [aO] at h
 | n + 1, x :: r, m, h => by
  simp only [aO] at h
  cases hr : aO n r with
  | none => simp [hr] at h
  | some q =>
   simp [hr] at h
   obtain ⟨e, hl⟩ := jD hr
   subst h; subst e
   simp; omega
theorem HR.ver {ρ : aq} {s : S} {w : World} (h : HR ρ s w) {a : Ad} {e : TypeId} {sb : Bool} {nv : Nat} {vers : List mH} {u : mH}
 (hg : s.get a.f = some (.cells e sb nv vers)) (hu : bg vers a.v = some u) : DR ρ w a.f sb u ∧ u ∈ vers ∧ u.v = a.v := by
 obtain ⟨hm, hv⟩ := gR hu
 exact ⟨((h.blk _ _ hg).2 u hm).2, hm, hv⟩
theorem uZ {ρ : aq} {s : S} {w : World} (h : HR ρ s w) {a : Ad} {x : V} (e : cz s a = some x) :
 ∃ ad y, iq ρ a = some ad ∧ den ρ x = some y ∧ w.cell? ad = some y := by
 unfold cz at e
 split at e
 ·rename_i el sb nv vers hg
  split at e
  ·rename_i u hu
   cases hb : Nat.ble u.lo a.c with
   | false => simp [hb] at e
   | true =>
    simp only [hb, cond_true] at e
    have hle := Nat.le_of_ble_eq_true hb
    obtain ⟨⟨l, c, el', fz, h1, h2, h3, h4, h5, h6⟩, _, hv⟩ := h.ver hg hu
    rw [hv] at h1
    obtain ⟨y, hy, hy'⟩ := h6 _ _ e
    refine ⟨⟨l.b, a.c - l.base, none⟩, y, by simp [iq, h1]; omega, hy, ?_⟩
    simp only [World.cell?, h2]
    simp
    rw [← hy']; congr 1; omega
  ·cases e
 ·rename_i vers hg
  split at e
  ·rename_i u hu
   cases hb : Nat.ble u.lo a.c with
   | false => simp [hb] at e
   | true =>
    simp only [hb, cond_true] at e
    have hle := Nat.le_of_ble_eq_true hb
    obtain ⟨hm, hv⟩ := gR hu
    obtain ⟨l, c, el', fz, h1, h2, h3, h6⟩ := (h.blk _ _ hg u hm).1
    rw [hv] at h1
    obtain ⟨y, hy, hy'⟩ := h6 _ _ e
    refine ⟨⟨l.b, a.c - l.base, none⟩, y, by simp [iq, h1]; omega, hy, ?_⟩
    simp only [World.cell?, h2]
    simp
    rw [← hy']; congr 1; omega
  ·cases e
 ·cases e
theorem yf {ρ : aq} {w : World} {a : Ad} {n : Nat} {l : List V} {u : mH} {lo : wF} {c : Array Value} {el' : TypeId} {fz : Nat × Nat} (h1 : ρ a.f a.v = some lo) (h2 : w.heap[lo.b]? = some (.cells c el' fz)) (h3 : lo.base ≤ u.lo) (hle : u.lo ≤ a.c)
 (h6 : ∀ (i : Nat) (x : V), u.cells[i]? = some x → ∃ y, den ρ x = some y ∧ c[u.lo - lo.base + i]? = some y) (e : aO n (u.cells.drop (a.c - u.lo)) = some l) :
 ∃ ad ys, iq ρ a = some ad ∧ aY ρ l = some ys ∧ ys.length = n ∧ ∀ (j : Nat) (v : Value), ys[j]? = some v → w.cell? (ad.add j) = some v := by
 obtain ⟨rfl, hlen⟩ := jD e
 have hcell : ∀ (j : Nat) (v : V), ((u.cells.drop (a.c - u.lo)).take n)[j]? = some v → ∃ y, den ρ v = some y ∧ c[a.c - lo.base + j]? = some y := fun j v hj => by
  have hj2 : j < n := by
   rcases Nat.lt_or_ge j n with h' | h'
   ·exact h'
   ·rw [List.getElem?_eq_none (by rw [List.length_take]; omega)] at hj; cases hj
  rw [List.getElem?_take_of_lt hj2, List.getElem?_drop] at hj
  obtain ⟨y, hy, hy'⟩ := h6 _ _ hj
  exact ⟨y, hy, by rw [← hy']; congr 1; omega⟩
 have hlen' : ((u.cells.drop (a.c - u.lo)).take n).length = n := by rw [List.length_take]; omega
 have hsz : n = 0 ∨ a.c - lo.base + n ≤ c.size := by
  rcases Nat.eq_zero_or_pos n with h0 | h0
  ·exact .inl h0
  ·right
   have hx : ∃ v, ((u.cells.drop (a.c - u.lo)).take n)[n - 1]? = some v := ⟨_, List.getElem?_eq_getElem (by omega)⟩
   obtain ⟨v, hv'⟩ := hx
   obtain ⟨y, _, hy'⟩ := hcell _ _ hv'
   have := (Array.getElem?_eq_some_iff.1 hy').1
   omega
 refine ⟨⟨lo.b, a.c - lo.base, none⟩, (c.toList.drop (a.c - lo.base)).take n, by simp [iq, h1]; omega, ?_, ?_, ?_⟩
 ·refine kL ?_ fun i v hi => ?_
  ·rw [hlen', List.length_take, List.length_drop, Array.length_toList]; rcases hsz with h0 | h0 <;> omega
  ·obtain ⟨y, hy, hy'⟩ := hcell i v hi
   refine ⟨y, hy, ?_⟩
   have hi2 : i < n := by have := (List.getElem?_eq_some_iff.1 hi).1; omega
   rw [List.getElem?_take_of_lt hi2, List.getElem?_drop, Array.getElem?_toList]; exact hy'
 ·rw [List.length_take, List.length_drop, Array.length_toList]; rcases hsz with h0 | h0 <;> omega
 ·intro j v hj
  have hj2 : j < n := by
   rcases Nat.lt_or_ge j n with h' | h'
   ·exact h'
   ·rw [List.getElem?_eq_none (by rw [List.length_take]; omega)] at hj; cases hj
  rw [List.getElem?_take_of_lt hj2, List.getElem?_drop, Array.getElem?_toList] at hj
  have ha : (⟨lo.b, a.c - lo.base, none⟩ : Addr).add j = ⟨lo.b, a.c - lo.base + j, none⟩ := by
   unfold Addr.add; split
   ·subst_vars; rfl
   ·rfl
  rw [ha]
  simp only [World.cell?, h2]
  simpa using hj
theorem iT {ρ : aq} {s : S} {w : World} (h : HR ρ s w) {a : Ad} {n : Nat} {l : List V} (e : loadCells s a n = some l) :
 ∃ ad ys, iq ρ a = some ad ∧ aY ρ l = some ys ∧ ys.length = n ∧ ∀ (j : Nat) (v : Value), ys[j]? = some v → w.cell? (ad.add j) = some v := by
 unfold loadCells at e
 split at e
 ·rename_i el sb nv vers hg
  split at e
  ·rename_i u hu
   cases hb : Nat.ble u.lo a.c with
   | false => simp [hb] at e
   | true =>
    simp only [hb, cond_true] at e
    obtain ⟨⟨lo, c, el', fz, h1, h2, h3, h4, h5, h6⟩, _, hv⟩ := h.ver hg hu
    rw [hv] at h1
    exact yf h1 h2 h3 (Nat.le_of_ble_eq_true hb) h6 e
  ·cases e
 ·rename_i vers hg
  split at e
  ·rename_i u hu
   cases hb : Nat.ble u.lo a.c with
   | false => simp [hb] at e
   | true =>
    simp only [hb, cond_true] at e
    obtain ⟨hm, hv⟩ := gR hu
    obtain ⟨lo, c, el', fz, h1, h2, h3, h6⟩ := (h.blk _ _ hg u hm).1
    rw [hv] at h1
    exact yf h1 h2 h3 (Nat.le_of_ble_eq_true hb) h6 e
  ·cases e
 ·cases e
def aq.put (ρ : aq) (f v : Nat) (l : wF) : aq := fun g u => if g = f ∧ u = v then some l else ρ g u
theorem aq.put_same (ρ : aq) (f v : Nat) (l : wF) : ρ.put f v l f v = some l := by simp [aq.put]
theorem aq.le_put {ρ : aq} {f v : Nat} (l : wF) (h : ρ f v = none) : ρ.le (ρ.put f v l) := fun g u x hx => by
 unfold aq.put
 rw [if_neg (fun e => by obtain ⟨rfl, rfl⟩ := e; rw [h] at hx; cases hx)]
 exact hx
theorem aq.of_put {ρ : aq} {f v g u : Nat} {l x : wF} (h : ρ.put f v l g u = some x) : (g = f ∧ u = v ∧ x = l) ∨ ρ g u = some x := by
 unfold aq.put at h
 split at h
 ·rename_i e; cases h; exact .inl ⟨e.1, e.2, rfl⟩
 ·exact .inr h
theorem wC.keep {ρ ρ' : aq} {w w' : World} {f : Nat} {B : bP} (h : wC ρ w f B) (he : ρ.le ρ') (hn : ∀ v, ρ f v = none → ρ' f v = none)
 (hh : ∀ v l, ρ f v = some l → w'.heap[l.b]? = w.heap[l.b]?) : wC ρ' w' f B := by
 cases B with
 | ro vers =>
  intro u hu
  obtain ⟨⟨l, c, e, fz, h1, h2, h3, h4⟩, l', c', e', fz', g1, g2, g3, g4⟩ := h u hu
  refine ⟨⟨l, c, e, fz, he _ _ _ h1, by rw [hh _ l h1]; exact h2, h3, fun i x hx => ?_⟩, l', c', e', fz', he _ _ _ g1, g2, by rw [← g2, hh _ l' g1, g2]; exact g3, g4⟩
  obtain ⟨y, hy, hy'⟩ := h4 i x hx
  exact ⟨y, bA he x y hy, hy'⟩
 | cells e sb nv vers =>
  exact ⟨fun v hv => hn v (h.1 v hv), fun u hu => ⟨(h.2 u hu).1, ((h.2 u hu).2.of_heap (fun l hl => hh _ l hl)).mono he⟩⟩
 | map es clock =>
  obtain ⟨l, rs, h1, h2, h3⟩ := h
  exact ⟨l, rs, he _ _ _ h1, by rw [hh _ l h1]; exact h2, h3.mono he⟩
 | gone => trivial
 | loop st pend fn t ps a b d nt =>
  obtain ⟨l, ld, tm, h1, h2, h3, h4⟩ := h
  exact ⟨l, ld, tm, he _ _ _ h1, he _ _ _ h2, h3.mono he, by rw [hh _ l h1]; exact h4⟩
 | deferred =>
  obtain ⟨l, h1, h2⟩ := h
  exact ⟨l, he _ _ _ h1, by rw [hh _ l h1]; exact h2⟩
theorem ix (w : World) (o : Obj) {k : Nat} (h : k < w.heap.size) : (w.alloc o).heap[k]? = w.heap[k]? := by
 show (w.heap.push o)[k]? = _
 rw [Array.getElem?_push, if_neg (by omega)]
theorem ez (w : World) (o : Obj) : (w.alloc o).heap[w.heap.size]? = some o := by
 show (w.heap.push o)[w.heap.size]? = _
 simp
theorem HR.alloc {ρ : aq} {s : S} {w : World} (h : HR ρ s w) (B : bP) (o : Obj) (base lim : Nat) (hbl : base ≤ lim)
 (hB : wC (ρ.put s.next 0 ⟨w.heap.size, base, lim⟩) (w.alloc o) s.next B) :
 HR (ρ.put s.next 0 ⟨w.heap.size, base, lim⟩) (s.alloc B) (w.alloc o) ∧ FR ρ w (ρ.put s.next 0 ⟨w.heap.size, base, lim⟩) (w.alloc o) := by
 have hfree : ρ s.next 0 = none := h.fresh _ _ (Nat.le_refl _)
 refine ⟨⟨?_, ?_, ?_, ?_, ?_, ?_⟩, ⟨aq.le_put _ hfree, by simp, rfl, rfl, rfl, ?_, ?_⟩⟩
 ·intro f v hf
  rw [S.next_alloc] at hf
  unfold aq.put
  rw [if_neg (by omega)]
  exact h.fresh f v (by omega)
 ·intro f v l f' v' l' e e' hb
  rcases aq.of_put e with ⟨rfl, rfl, rfl⟩ | e
  ·rcases aq.of_put e' with ⟨rfl, rfl, rfl⟩ | e'
   ·exact ⟨rfl, rfl⟩
   ·have := h.low _ _ _ e'; simp at hb; omega
  ·rcases aq.of_put e' with ⟨rfl, rfl, rfl⟩ | e'
   ·have := h.low _ _ _ e; simp at hb; omega
   ·exact h.inj _ _ _ _ _ _ e e' hb
 ·intro f v l e
  rcases aq.of_put e with ⟨rfl, rfl, rfl⟩ | e
  ·simp
  ·have := h.low _ _ _ e; simp; omega
 ·intro f B' hg
  rw [S.get_alloc] at hg
  split at hg
  ·rename_i e; cases hg; subst e; exact hB
  ·rename_i hne
   refine (h.blk f B' hg).keep (aq.le_put _ hfree) (fun v hv => ?_) (fun v l hl => ix _ _ (h.low _ _ _ hl))
   unfold aq.put; rw [if_neg (by omega)]; exact hv
 ·intro f B' hg
  rw [S.get_alloc] at hg
  rw [S.next_alloc]
  split at hg
  ·omega
  ·exact Nat.lt_succ_of_lt (h.dom f B' hg)
 ·intro f B' hg hnr v l hl
  rw [S.get_alloc] at hg
  rcases aq.of_put hl with ⟨rfl, rfl, rfl⟩ | hl
  ·show ¬ (lim < base); omega
  ·split at hg
   ·rename_i he; subst he; rw [h.fresh _ _ (Nat.le_refl _)] at hl; cases hl
   ·exact h.rw f B' hg hnr v l hl
 ·intro b hb _; exact ix _ _ hb
 ·intro f v l e hl
  rcases aq.of_put e with ⟨rfl, rfl, rfl⟩ | e
  ·simp at hl
  ·exact ⟨f, v, l, e, rfl, id⟩
theorem gM {ρ : aq} {s : S} {w : World} (h : HR ρ s w) (sb : Bool) (elem elem' : TypeId) {cs : List V} {ys : Array Value} (hd : aY ρ cs = some (ys.toList.take cs.length)) (fz : Nat × Nat) (hfz : (sb = false → fz = (0, 0)) ∧ ∀ i, i < ys.size → ¬ (fz.1 ≤ i ∧ i < fz.2)) :
 ∃ ρ', ρ' s.next 0 = some ⟨w.heap.size, 0, ys.size⟩ ∧ HR ρ' (bV sb s elem cs).2 (w.alloc (.cells ys elem' fz)) ∧ FR ρ w ρ' (w.alloc (.cells ys elem' fz)) := by
 have hfree : ρ s.next 0 = none := h.fresh _ _ (Nat.le_refl _)
 refine ⟨ρ.put s.next 0 ⟨w.heap.size, 0, ys.size⟩, aq.put_same _ _ _ _, h.alloc (.cells elem sb 1 [⟨0, 0, cs⟩]) _ 0 ys.size (Nat.zero_le _) ?_⟩
 refine ⟨fun v hv => ?_, fun u hu => ?_⟩
 ·unfold aq.put; rw [if_neg (by omega)]; exact h.fresh _ _ (Nat.le_refl _)
 ·simp at hu; subst hu
  refine ⟨Nat.zero_lt_one, ⟨w.heap.size, 0, ys.size⟩, ys, elem', fz, aq.put_same _ _ _ _, ez _ _, Nat.le_refl _, by simp, hfz, fun i x hx => ?_⟩
  obtain ⟨y, hy, hy'⟩ := eC i hd hx
  refine ⟨y, bA (aq.le_put _ hfree) _ _ hy, ?_⟩
  have hi : i < cs.length := (List.getElem?_eq_some_iff.1 hx).1
  rw [List.getElem?_take_of_lt hi, Array.getElem?_toList] at hy'
  simpa using hy'
structure Pz (w w' : World) (b : Nat) : Prop where
 size : w'.heap.size = w.heap.size
 os : w'.os = w.os
 tape : w'.tape = w.tape
 output : w'.output = w.output
 other : ∀ k, k ≠ b → w'.heap[k]? = w.heap[k]?
theorem Pz.trans {a b c : World} {k : Nat} (h : Pz a b k) (g : Pz b c k) : Pz a c k :=
 ⟨g.size.trans h.size, g.os.trans h.os, g.tape.trans h.tape, g.output.trans h.output, fun i hi => (g.other i hi).trans (h.other i hi)⟩
theorem xN (P : Program) (b off : Nat) (e : TypeId) (fz : Nat × Nat) : ∀ (ys : List Value) (i : Nat) (c : Array Value) (w : World), w.heap[b]? = some (.cells c e fz) →
 (∀ k, k < c.size → ¬ (fz.1 ≤ k ∧ k < fz.2)) → off + i + ys.length ≤ c.size → (∀ v ∈ ys, v.oneCell' = true) →
 ∃ w' c', (Go.storeCells ⟨b, off, none⟩ ys i).run P w = .ok () w' ∧ Pz w w' b ∧ w'.heap[b]? = some (.cells c' e fz) ∧ c'.size = c.size ∧
  ∀ j, c'[j]? = if off + i ≤ j ∧ j < off + i + ys.length then ys[j - (off + i)]? else c[j]? := by
 intro ys
 induction ys with
 | nil =>
  intro i c w hw hfz hl h1
  exact ⟨w, c, rfl, ⟨rfl, rfl, rfl, rfl, fun _ _ => rfl⟩, hw, rfl, fun j => by rw [if_neg (by simp)]⟩
 | cons v r ih =>
  intro i c w hw hfz hl h1
  simp only [List.length_cons] at hl
  have ha : (⟨b, off, none⟩ : Addr).add i = ⟨b, off + i, none⟩ := by
   unfold Addr.add; split
   ·subst_vars; rfl
   ·rfl
  have hcell : w.cell? ⟨b, off + i, none⟩ = some (c[off + i]'(by omega)) := by
   simp only [World.cell?, hw]; simp [show off + i < c.size by omega]
  have hfr : w.frozen? ⟨b, off + i, none⟩ = false := by
   simp only [World.frozen?, hw]
   have := hfz (off + i) (by omega)
   simp; omega
  have hset : (w.setCell ⟨b, off + i, none⟩ v).heap[b]? = some (.cells (c.setIfInBounds (off + i) v) e fz) := by
   simp only [World.setCell, Array.getElem?_modify, if_true, hw]; simp
  obtain ⟨w', c', h2, h3, h4, h5, h6⟩ := ih (i + 1) (c.setIfInBounds (off + i) v) (w.setCell ⟨b, off + i, none⟩ v) hset
   (by simpa using hfz) (by simp; omega) (fun u hu => h1 u (List.mem_cons_of_mem _ hu))
  have hbut : Pz w (w.setCell ⟨b, off + i, none⟩ v) b := ⟨by simp, rfl, rfl, rfl, fun k hk => by simp only [World.setCell, Array.getElem?_modify]; rw [if_neg (fun e => hk e.symm)]⟩
  refine ⟨w', c', ?_, hbut.trans h3, h4, by simpa using h5, fun j => ?_⟩
  ·simp only [Go.storeCells, Sem.run_bind, ha]
   rw [run_store P w _ v .plain (h1 v (by simp)), hcell]
   simp only [hfr, Bool.false_eq_true, if_false, Result.andThen_ok]
   exact h2
  ·rw [h6 j]
   by_cases hj : off + (i + 1) ≤ j ∧ j < off + (i + 1) + r.length
   ·rw [if_pos hj, if_pos (by simp; omega)]
    have : j - (off + i) = (j - (off + (i + 1))) + 1 := by omega
    rw [this]; simp
   ·rw [if_neg hj]
    by_cases hj2 : j = off + i
    ·subst hj2; rw [if_pos (by simp)]; simp [show off + i < c.size by omega]
    ·rw [if_neg (by simp; omega)]; simp [Ne.symm hj2]
theorem gJ : ∀ {cs : List V} {n : Nat} {new out : List V}, bw cs n new = some out →
 out.length = cs.length ∧ (new = [] ∨ n + new.length ≤ cs.length) ∧ ∀ (j : Nat), out[j]? = if n ≤ j ∧ j < n + new.length then new[j - n]? else cs[j]?
 | cs, n, [], out, h => by
  have : out = cs := by cases cs <;> cases n <;> simp [bw] at h <;> first | exact h | exact h.symm
  subst this
  exact ⟨rfl, .inl rfl, fun j => by rw [if_neg (by simp)]⟩
 | [], n, y :: new, out, h => by cases n <;> simp [bw] at h
 | x :: r, n + 1, y :: new, out, h => by
  simp only [bw] at h
  cases hr : bw r n (y :: new) with
  | none => simp [hr] at h
  | some q =>
   simp [hr] at h
   subst h
   obtain ⟨h1, h2, h3⟩ := gJ hr
   refine ⟨by simp [h1], .inr (by rcases h2 with h2 | h2 <;> simp at h2 ⊢; omega), fun j => ?_⟩
   cases j with
   | zero => rw [if_neg (by omega)]; rfl
   | succ j =>
    simp only [List.getElem?_cons_succ]
    rw [h3 j]
    by_cases hj : n ≤ j ∧ j < n + (y :: new).length
    ·rw [if_pos hj, if_pos (by omega)]; congr 1; omega
    ·rw [if_neg hj, if_neg (by omega)]
 | x :: r, 0, y :: new, out, h => by
  simp only [bw] at h
  cases hr : bw r 0 new with
  | none => simp [hr] at h
  | some q =>
   simp [hr] at h
   subst h
   obtain ⟨h1, h2, h3⟩ := gJ hr
   refine ⟨by simp [h1], .inr (by rcases h2 with h2 | h2 <;> simp [h2] <;> simp at h2 <;> omega), fun j => ?_⟩
   cases j with
   | zero => rw [if_pos (by simp)]; rfl
   | succ j =>
    simp only [List.getElem?_cons_succ]
    rw [h3 j]
    by_cases hj : 0 ≤ j ∧ j < 0 + new.length
    ·rw [if_pos hj, if_pos (by simp; omega)]; simp
    ·rw [if_neg hj, if_neg (by simp; omega)]
theorem HR.turn {ρ : aq} {s : S} {w w' : World} (h : HR ρ s w) {f v : Nat} {l : wF} (hl : ρ f v = some l) {B0 : bP} (hB0 : s.get f = some B0) (hnr : ∀ vers, B0 ≠ .ro vers) (hb : Pz w w' l.b) (B : bP) (hB : wC ρ w' f B) :
 HR ρ (s.put f B) w' ∧ FR ρ w ρ w' := by
 refine ⟨⟨fun g u hg => h.fresh g u (by rw [S.next_put] at hg; exact hg), h.inj, fun g u x hx => by rw [hb.size]; exact h.low g u x hx, fun g B' hg => ?_, fun g B' hg => ?_, fun g B' hg hnr' u x hx => ?_⟩,
  ⟨ρ.le_refl, by rw [hb.size]; exact Nat.le_refl _, hb.os, hb.tape, hb.output, fun k hk hn => hb.other k (fun e => hn _ _ _ hl (h.rw f B0 hB0 hnr _ _ hl) e.symm), fun g u x hx _ => ⟨g, u, x, hx, rfl, id⟩⟩⟩
 ·rw [S.get_put] at hg
  split at hg
  ·rename_i e; cases hg; subst e; exact hB
  ·rename_i hne
   exact (h.blk g B' hg).keep ρ.le_refl (fun _ hv => hv) (fun u x hx => hb.other _ (fun e => hne (h.inj _ _ _ _ _ _ hl hx e.symm).1))
 ·rw [S.get_put] at hg
  rw [S.next_put]
  split at hg
  ·rename_i e; subst e
   exact Nat.lt_of_not_le fun hc => by have := h.fresh f v hc; rw [hl] at this; cases this
  ·exact h.dom g B' hg
 ·rw [S.get_put] at hg
  split at hg
  ·rename_i e; subst e; exact h.rw f B0 hB0 hnr u x hx
  ·exact h.rw g B' hg hnr' u x hx
theorem ii {ρ : aq} {s s' : S} {w : World} (P : Program) (h : HR ρ s w) {a : Ad} {new : List V} {ys : List Value} (e : storeCells s a new = some s') (hd : aY ρ new = some ys) :
 ∃ ad w', iq ρ a = some ad ∧ (Go.storeCells ad ys).run P w = .ok () w' ∧ HR ρ s' w' ∧ FR ρ w ρ w' := by
 unfold storeCells at e
 split at e
 ·rename_i el sb nv vers hg
  split at e
  ·rename_i u hu
   cases hb : (Nat.ble u.lo a.c && new.all V.one) with
   | false => simp [hb] at e
   | true =>
    simp only [hb, cond_true] at e
    simp only [Bool.and_eq_true] at hb
    have hle := Nat.le_of_ble_eq_true hb.1
    split at e
    ·rename_i cs hcs
     cases e
     obtain ⟨⟨l, c, el', fz, h1, h2, h3, h4, h5, h6⟩, hmem, hv⟩ := h.ver hg hu
     have h1' := h1
     rw [hv] at h1
     obtain ⟨hlen, hfit, hget⟩ := gJ hcs
     have hyl := bG hd
     have hone : ∀ y ∈ ys, y.oneCell' = true := fun y hy => by
      obtain ⟨i, hi⟩ := List.getElem?_of_mem hy
      have hi2 : i < new.length := by have := (List.getElem?_eq_some_iff.1 hi).1; omega
      obtain ⟨z, hz, hz'⟩ := eC i hd (List.getElem?_eq_getElem hi2)
      rw [hi] at hz'; cases hz'
      exact uO hz (List.all_eq_true.1 hb.2 _ (List.getElem_mem hi2))
     have hroom : new = [] ∨ a.c - l.base + 0 + ys.length ≤ c.size := by
      rcases hfit with h0 | hfit
      ·exact .inl h0
      ·rcases Nat.eq_zero_or_pos new.length with h0 | h0
       ·exact .inl (List.length_eq_zero_iff.1 h0)
       ·right
        have hlast : (a.c - u.lo) + (new.length - 1) < u.cells.length := by omega
        obtain ⟨y, _, hy'⟩ := h6 _ _ (List.getElem?_eq_getElem hlast)
        have := (Array.getElem?_eq_some_iff.1 hy').1
        omega
     have hden : iq ρ a = some ⟨l.b, a.c - l.base, none⟩ := by simp [iq, h1]; omega
     rcases hroom with h0 | hroom
     ·subst h0
      have : ys = [] := by cases hd; rfl
      subst this
      have hsame : cs = u.cells := List.ext_getElem? fun j => by rw [hget j, if_neg (by simp)]
      refine ⟨_, w, hden, rfl, ?_⟩
      refine h.turn h1 hg (fun _ h => by cases h) ⟨rfl, rfl, rfl, rfl, fun _ _ => rfl⟩ _ ⟨(h.blk _ _ hg).1, fun u' hu' => ?_⟩
      simp at hu'; subst hu'
      exact ⟨((h.blk _ _ hg).2 u hmem).1, l, c, el', fz, h1', h2, h3, h4, h5, by rw [hsame]; exact h6⟩
     ·obtain ⟨w', c', g1, g2, g3, g4, g5⟩ := xN P l.b (a.c - l.base) el' fz ys 0 c w h2 h5.2 hroom hone
      refine ⟨_, w', hden, g1, h.turn h1 hg (fun _ h => by cases h) g2 _ ⟨(h.blk _ _ hg).1, fun u' hu' => ?_⟩⟩
      simp at hu'; subst hu'
      refine ⟨((h.blk _ _ hg).2 u hmem).1, l, c', el', fz, h1', g3, h3, by rw [g4]; exact h4, by rw [g4]; exact h5, fun i x hx => ?_⟩
      simp only at hx ⊢
      rw [hget i] at hx
      rw [g5]
      by_cases hj : a.c - u.lo ≤ i ∧ i < a.c - u.lo + new.length
      ·rw [if_pos hj] at hx
       rw [if_pos (by omega)]
       obtain ⟨y, hy, hy'⟩ := eC _ hd hx
       exact ⟨y, hy, by rw [← hy']; congr 1; omega⟩
      ·rw [if_neg hj] at hx
       rw [if_neg (by omega)]
       exact h6 i x hx
    ·cases e
  ·cases e
 ·cases e
def rv (tm : Array Value) : Operand → Value
 | .tmp t => tm.getD t Go.undef
 | .const v => v
 | .global g => .pointer (some ⟨g, 0, none⟩)
 | .func f => .func (.func f) #[] #[]
theorem pz (fr : Frame) : fr.eval = rv fr.tmps := funext fun x => by cases x <;> rfl
theorem sV (s : ByteArray) : ar (s.data.toList.map UInt8.toNat) = s := by
 unfold ar
 have : (s.data.toList.map UInt8.toNat).map UInt8.ofNat = s.data.toList := by
  rw [List.map_map]
  conv => rhs; rw [← List.map_id s.data.toList]
  exact List.map_congr_left fun x _ => by simp
 rw [this]
theorem uP (ρ : aq) (v : Value) (x : V) (h : V.ofCell v = some x) : den ρ x = some v := by
 cases v <;> simp only [V.ofCell] at h
 case string s => cases h; simp only [den]; rw [sV]
 case pointer a => cases a <;> simp at h; cases h; rfl
 case slice a n c =>
  cases a <;> simp only at h
  ·cases hb : (Nat.beq n 0 && Nat.beq c 0) with
   | false => simp [hb] at h
   | true =>
    simp only [hb, cond_true] at h
    simp only [Bool.and_eq_true] at hb
    cases h
    rw [Nat.eq_of_beq_eq_true hb.1, Nat.eq_of_beq_eq_true hb.2]; rfl
  ·cases h
 case map a => cases a <;> simp at h; cases h; rfl
 case func fn a b =>
  cases fn <;> simp only at h <;> try cases h
  cases hb : (a.toList.isEmpty && b.toList.isEmpty) with
  | false => rw [hb] at h; cases h
  | true =>
   simp only [hb, cond_true] at h
   simp only [Bool.and_eq_true, List.isEmpty_iff] at hb
   cases h
   have ha : a = #[] := by cases a; simpa using hb.1
   have hb' : b = #[] := by cases b; simpa using hb.2
   subst ha; subst hb'; rfl
 all_goals first | (cases h; rfl) | cases h
theorem sx (ρ : aq) : ∀ (l : List Value) (m : List V), V.ofCells l = some m → aY ρ m = some l
 | [], m, h => by cases h; rfl
 | x :: r, m, h => by
  simp only [V.ofCells] at h
  cases hx : V.ofCell x with
  | none => simp [hx] at h
  | some v =>
   cases hr : V.ofCells r with
   | none => simp [hx, hr] at h
   | some q =>
    simp only [hx, hr] at h
    cases h
    exact aW.2 ⟨x, r, uP ρ x v hx, sx ρ r q hr, rfl⟩
theorem sv (ρ : aq) (v : Value) (x : V) (h : V.ofConst v = some x) : den ρ x = some v := by
 cases v
 case agg cs =>
  simp only [V.ofConst] at h
  split at h
  ·rename_i l hl; cases h; simp only [den, sx ρ _ _ hl]
  ·cases h
 all_goals exact uP ρ _ x h
theorem am {ρ : aq} {t : T V} {tm : Array Value} (ht : TR ρ t tm) {x : Operand} {v : V} (h : eval t x = some v) : den ρ v = some (rv tm x) := by
 cases x with
 | tmp i =>
  obtain ⟨y, hy, hy'⟩ := ht i v h
  simp only [rv, Array.getD_eq_getD_getElem?, hy', Option.getD_some]; exact hy
 | const c => exact sv ρ c v h
 | global g => cases h
 | func f => cases h; rfl
theorem kF {ρ : aq} {t : T V} {tm : Array Value} (ht : TR ρ t tm) : ∀ {l : List Operand} {vs : List V}, evals t l = some vs → aY ρ vs = some (l.map (rv tm))
 | [], vs, h => by cases h; rfl
 | x :: r, vs, h => by
  simp only [evals] at h
  cases hx : eval t x with
  | none => simp [hx] at h
  | some v =>
   cases hr : evals t r with
   | none => simp [hx, hr] at h
   | some q =>
    simp only [hx, hr] at h; cases h
    exact aW.2 ⟨_, _, am ht hx, kF ht hr, rfl⟩
section types
variable {P : Program}
theorem eM {t : TypeId} {zv : V} (h : zero P t = some zv) : ∃ z i, P.info? t = some i ∧ i.zero = some z ∧ ∀ ρ, den ρ zv = some z := by
 unfold zero at h
 cases hi : P.info? t with
 | none => simp [hi] at h
 | some i =>
  cases hz : i.zero with
  | none => simp [hi, hz] at h
  | some z =>
   simp only [hi, hz, Option.bind_some] at h
   exact ⟨z, i, rfl, hz, fun ρ => sv ρ z zv h⟩
theorem fQ {t : TypeId} {i : TypeInfo} {z : Value} (hi : P.info? t = some i) (hz : i.zero = some z) (w : World) : (zeroValue t).run P w = .ok z w := by
 simp [zeroValue, typeInfo, hi, hz]
theorem rj {t : TypeId} {n : Nat} (h : size P t = some n) : ∃ i, P.info? t = some i ∧ i.size = n := by
 unfold size at h
 cases hi : P.info? t with
 | none => simp [hi] at h
 | some i => simp [hi] at h; exact ⟨i, rfl, h⟩
theorem cI {t : TypeId} {n : Nat} (h : size P t = some n) (w : World) : (sizeOf t).run P w = .ok n w := by
 obtain ⟨i, hi, rfl⟩ := rj h
 simp [Go.sizeOf, typeInfo, hi]
theorem aj {t : TypeId} {d : TypeDesc} (h : P.underlying t = some d) (w : World) : (underlying t).run P w = .ok d w := by
 simp [underlying, h]
theorem tC {t : TypeId} {b : Bool} (h : fj P t = some b) (w : World) : (isAgg t).run P w = .ok b w := by
 unfold fj at h
 cases hd : P.underlying t with
 | none => simp [hd] at h
 | some d =>
  simp only [hd, Option.map_some, Option.some.injEq] at h
  subst h
  simp only [isAgg, Sem.run_bind, aj hd, Result.andThen_ok]
  cases d <;> rfl
theorem oG {ρ : aq} {s : S} {w : World} (h : HR ρ s w) {t : TypeId} {a : Ad} {x : V} (e : loadVar P s t a = some x) :
 ∃ ad y, iq ρ a = some ad ∧ den ρ x = some y ∧ (Go.loadVar t ad).run P w = .ok y w := by
 unfold loadVar at e
 cases hb : fj P t with
 | none => simp [hb] at e
 | some b =>
  cases b with
  | false =>
   simp only [hb] at e
   obtain ⟨ad, y, h1, h2, h3⟩ := uZ h e
   exact ⟨ad, y, h1, h2, by simp [Go.loadVar, tC hb, h3]⟩
  | true =>
   simp only [hb] at e
   cases hn : size P t with
   | none => simp [hn] at e
   | some n =>
    simp only [hn, Option.bind_some] at e
    cases hl : loadCells s a n with
    | none => simp [hl] at e
    | some l =>
     simp only [hl, Option.map_some, Option.some.injEq] at e
     subst e
     obtain ⟨ad, ys, h1, h2, h3, h4⟩ := iT h hl
     refine ⟨ad, .agg ys.toArray, h1, by simp only [den, h2], ?_⟩
     have := run_loadCells_list (P := P) (w := w) ad ys h4
     rw [h3] at this
     simp [Go.loadVar, tC hb, cI hn, this]
theorem uq {ρ : aq} {s s' : S} {w : World} (h : HR ρ s w) {t : TypeId} {a : Ad} {v : V} {y : Value} (e : storeVar P s t a v = some s') (hv : den ρ v = some y) :
 ∃ ad w', iq ρ a = some ad ∧ (Go.storeVar t ad y).run P w = .ok () w' ∧ HR ρ s' w' ∧ FR ρ w ρ w' := by
 unfold storeVar at e
 cases hn : size P t with
 | none => simp [hn] at e
 | some n =>
  simp only [hn] at e
  cases hb : Nat.beq v.cells.length n with
  | false => simp [hb] at e
  | true =>
   simp only [hb, cond_true] at e
   obtain ⟨ad, w', h1, h2, h3, h4⟩ := ii P h e (eB hv)
   have hl : y.cells.size = n := by
    have := bG (eB hv)
    rw [Array.length_toList] at this
    rw [this]; exact Nat.eq_of_beq_eq_true hb
   exact ⟨ad, w', h1, by simp [Go.storeVar, cI hn, hl, h2], h3, h4⟩
theorem kw {ρ : aq} {w : World} {t : TypeId} {cs : List V} {ys : Array Value} {off : Nat} {x : V} (hd : aY ρ cs = some ys.toList) (e : qf P t cs off = some x) :
 ∃ y, den ρ x = some y ∧ (part t ys off).run P w = .ok y w := by
 unfold qf at e
 cases hb : fj P t with
 | none => simp [hb] at e
 | some b =>
  cases b with
  | false =>
   simp only [hb] at e
   obtain ⟨y, h1, h2⟩ := eC off hd e
   rw [Array.getElem?_toList] at h2
   exact ⟨y, h1, by simp [part, tC hb, h2]⟩
  | true =>
   simp only [hb] at e
   cases hn : size P t with
   | none => simp [hn] at e
   | some n =>
    simp only [hn, Option.map_some, Option.some.injEq] at e
    subst e
    have h1 := yJ n (yK off hd)
    refine ⟨.agg (ys.extract off (off + n)), ?_, by simp [part, tC hb, cI hn]⟩
    have h2 : (ys.extract off (off + n)) = ((ys.toList.drop off).take n).toArray := by
     apply Array.toList_inj.1
     rw [Array.toList_extract, List.extract_eq_take_drop]
     simp
    simp only [den, h1, h2]
end types
def JB (ρ : aq) : dT → Deferred → Prop
 | .call fn cap args, d => ∃ g c a, mF ρ fn = some g ∧ aY ρ cap = some c ∧ aY ρ args = some a ∧ d = { target := .fn g c.toArray, args := a.toArray }
 | .collected r, d => ∃ l, ρ r 0 = some l ∧ d = { target := .collected l.b, args := #[] }
def Bs (P : Program) (ρ : aq) (w : World) : Nx → Result Next → Prop
 | .val v s, r => ∃ ρ' y w', r = .ok (.value y) w' ∧ den ρ' v = some y ∧ HR ρ' s w' ∧ FR ρ w ρ' w'
 | .skip s, r => ∃ ρ' w', r = .ok .skip w' ∧ HR ρ' s w' ∧ FR ρ w ρ' w'
 | .enter f args s, r => ∃ ys, aY ρ args = some ys ∧ r = (callFunc f ys.toArray).run P w ∧ HR ρ s w
 | .round l args s, r => ∃ lb ys, ρ l 0 = some lb ∧ aY ρ args = some ys ∧ r = (Instr.yield lb.b ys.toArray).run P w ∧ HR ρ s w
 | .defer d s, r => ∃ rd, JB ρ d rd ∧ r = .ok (.defer rd) w ∧ HR ρ s w
 | .recover s, r => r = .ok .recover w ∧ HR ρ s w
 | .panic v s, r => ∃ y, den ρ v = some y ∧ r = .halt (.panic y) w ∧ HR ρ s w
def wx (P : Program) (ρ : aq) (w : World) (s : S) (nx : Nx) (r : Result Next) : Prop := ∃ v y, nx = .val v s ∧ r = .ok (.value y) w ∧ den ρ v = some y
theorem wx.toR {P : Program} {ρ : aq} {s : S} {w : World} {nx : Nx} {r : Result Next} (h : HR ρ s w) (k : wx P ρ w s nx r) : Bs P ρ w nx r := by
 obtain ⟨v, y, rfl, h2, h3⟩ := k
 exact ⟨ρ, y, w, h2, h3, h, FR.refl ρ w⟩
section ops
variable {P : Program} {ρ : aq} {s : S} {w : World} {t : T V} {tm : Array Value}
theorem aZ (_h : HR ρ s w) {x : Option V} {nx : Nx} (e : bc s x = some nx) {m : Sem Value}
 (hm : ∀ v, x = some v → ∃ y, den ρ v = some y ∧ m.run P w = .ok y w) : wx P ρ w s nx ((do pure (Next.value (← m)) : Sem Next).run P w) := by
 cases x with
 | none => cases e
 | some v =>
  cases e
  obtain ⟨y, h1, h2⟩ := hm v rfl
  exact ⟨v, y, rfl, by simp [h2], h1⟩
theorem qG (h : HR ρ s w) (ht : TR ρ t tm) {c a b : Operand} {nx : Nx} (e : ip t s c a b = some nx) :
 wx P ρ w s nx ((do pure (Next.value (if ← asBool (rv tm c) then rv tm a else rv tm b)) : Sem Next).run P w) := by
 unfold ip at e
 split at e
 ·rename_i q hq
  have h1 := am ht hq
  simp only [den, Option.some.injEq] at h1
  unfold bc at e
  split at e
  ·rename_i v hv
   cases e
   refine ⟨_, if q then rv tm a else rv tm b, rfl, by simp [← h1, asBool], ?_⟩
   cases q
   ·exact am ht hv
   ·exact am ht hv
  ·cases e
 ·cases e
theorem mn {ρ : aq} {v : V} {y : Value} (h : den ρ v = some y) : y.cells.size = v.cells.length := by
 have := bG (eB h); rwa [Array.length_toList] at this
theorem sC (h : HR ρ s w) {elem : TypeId} {v : V} {y : Value} (hv : den ρ v = some y) {nx : Nx} (e : sD (bS s elem v.cells) = some nx) :
 Bs P ρ w nx ((do pure (Next.value (.pointer (some (← newVar elem y)))) : Sem Next).run P w) := by
 obtain ⟨ρ', h1, h2, h3⟩ := gM h false elem elem (cs := v.cells) (ys := y.cells) (by rw [eB hv, ← mn hv, List.take_of_length_le (by simp)]) (0, 0) ⟨fun _ => rfl, by simp⟩
 simp only [sD, bS, bV] at e
 cases e
 exact ⟨ρ', _, _, by simp [newVar, newRow]; rfl, by simp [den, iq, h1], h2, h3⟩
theorem xl (h : HR ρ s w) {elem : TypeId} {nx : Nx} (e : eJ P s elem = some nx) :
 Bs P ρ w nx ((do pure (Next.value (← Instr.alloc elem true (.tuple #[]))) : Sem Next).run P w) := by
 unfold eJ at e
 split at e
 ·rename_i z hz
  obtain ⟨y, i, hi, hzi, hd⟩ := eM hz
  have := sC (P := P) h (hd ρ) e
  simp only [Instr.alloc, Sem.run_bind, fQ hi hzi, Result.andThen_ok, Sem.run_pure] at this ⊢
  exact this
 ·cases e
theorem Dk (h : HR ρ s w) (ht : TR ρ t tm) {elem : TypeId} {x : Operand} {nx : Nx} (e : nL s elem (eval t x) = some nx) :
 Bs P ρ w nx ((do pure (Next.value (← Instr.box elem (rv tm x))) : Sem Next).run P w) := by
 unfold nL at e
 split at e
 ·rename_i z hz
  have := sC (P := P) h (am ht hz) e
  simp only [Instr.box, Sem.run_bind, Sem.run_pure] at this ⊢
  exact this
 ·cases e
theorem qI (h : HR ρ s w) (ht : TR ρ t tm) {ty : TypeId} {x : Operand} {nx : Nx} (e : eI P s ty (eval t x) = some nx) :
 wx P ρ w s nx ((do pure (Next.value (← Instr.loadAt ty (rv tm x))) : Sem Next).run P w) := by
 unfold eI at e
 split at e
 ·rename_i a ha
  have h1 := am ht ha
  refine aZ h e fun v hv => ?_
  obtain ⟨ad, y, h2, h3, h4⟩ := oG h hv
  simp only [den, h2, Option.some.injEq] at h1
  exact ⟨y, h3, by simp [Instr.loadAt, Instr.sureAddr, ← h1, h4]⟩
 ·cases e
theorem xi (h : HR ρ s w) (ht : TR ρ t tm) {ty : TypeId} {x y : Operand} {nx : Nx} (e : kH P s ty (eval t x) (eval t y) = some nx) :
 Bs P ρ w nx ((do Instr.storeAt ty (rv tm x) (rv tm y); pure Next.skip : Sem Next).run P w) := by
 unfold kH at e
 split at e
 ·rename_i a ha
  have h1 := am ht ha
  split at e
  ·rename_i v hv
   have h2 := am ht hv
   unfold uQ at e
   split at e
   ·rename_i s' hs
    cases e
    obtain ⟨ad, w', h3, h4, h5, h6⟩ := uq h hs h2
    simp only [den, h3, Option.some.injEq] at h1
    exact ⟨ρ, w', by simp [Instr.storeAt, Instr.sureAddr, ← h1, h4], h5, h6⟩
   ·cases e
  ·cases e
 ·cases e
theorem mE (h : HR ρ s w) (ht : TR ρ t tm) {x : Operand} {i : Nat} {nx : Nx} (e : bc s (fH (eval t x) i) = some nx) :
 wx P ρ w s nx ((do pure (Next.value (← Instr.extract (rv tm x) i)) : Sem Next).run P w) := by
 refine aZ h e fun v hv => ?_
 unfold fH at hv
 split at hv
 ·rename_i vs hx
  have h1 := am ht hx
  simp only [den] at h1
  split at h1
  ·rename_i l hl
   obtain ⟨y, h2, h3⟩ := eC i hl hv
   simp only [Option.some.injEq] at h1
   exact ⟨y, h2, by simp [Instr.extract, ← h1, h3]⟩
  ·cases h1
 ·cases hv
theorem nH (h : HR ρ s w) (ht : TR ρ t tm) {fn : Fn} {first cap : Array Operand} {nx : Nx} (e : bc s (nI fn (evals t first.toList) (evals t cap.toList)) = some nx) :
 wx P ρ w s nx ((do pure (Next.value (← Instr.makeFunc fn (first.map (rv tm)) (cap.map (rv tm)))) : Sem Next).run P w) := by
 refine aZ h e fun v hv => ?_
 unfold nI at hv
 split at hv
 ·cases hv
 ·rename_i hfn
  unfold Hv at hv
  split at hv
  ·rename_i a ha
   split at hv
   ·rename_i b hb
    cases hv
    have hf : mF ρ fn = some fn := by cases fn <;> first | rfl | exact absurd rfl (hfn _)
    refine ⟨.func fn (first.map (rv tm)) (cap.map (rv tm)), ?_, by simp [Instr.makeFunc]⟩
    simp only [den, hf, kF ht ha, kF ht hb]
    have g : ∀ l : Array Operand, (List.map (rv tm) l.toList).toArray = l.map (rv tm) := fun l => by cases l; simp
    rw [g, g]
   ·cases hv
  ·cases hv
theorem Fe {x : Option V} {n : Nat} (h : eU x = some n) : ∃ k, x = some (.int k (.ofNat n)) := by
 cases x with
 | none => cases h
 | some v =>
  cases v <;> try (cases h; done)
  rename_i k m
  cases m <;> cases h
  exact ⟨k, rfl⟩
theorem mD (h : HR ρ s w) (ht : TR ρ t tm) {ty : TypeId} {x : Operand} {nx : Nx} (e : bc s (eR P ty (eval t x)) = some nx) :
 wx P ρ w s nx ((do pure (Next.value (← Instr.makeInterface ty (rv tm x))) : Sem Next).run P w) := by
 refine aZ h e fun v hv => ?_
 unfold eR at hv
 split at hv
 ·cases hv
 ·rename_i d hd hni
  split at hv
  ·rename_i y hy
   cases hv
   refine ⟨.iface ty (rv tm x), by simp only [den, am ht hy], ?_⟩
   simp only [Instr.makeInterface, Sem.run_bind, aj hni, Result.andThen_ok]
   cases d <;> first | rfl | exact absurd rfl (hd _)
  ·cases hv
 ·cases hv
theorem oM (h : HR ρ s w) (ht : TR ρ t tm) {ty : TypeId} {x : Operand} {f : Nat} {nx : Nx} (e : bc s (jo P ty (eval t x) f) = some nx) :
 wx P ρ w s nx ((do pure (Next.value (← Instr.field ty (rv tm x) f)) : Sem Next).run P w) := by
 refine aZ h e fun v hv => ?_
 unfold jo at hv
 split at hv
 ·rename_i fs hfs
  split at hv
  ·rename_i cs hx
   have h1 := am ht hx
   simp only [den] at h1
   split at h1
   ·rename_i l hl
    simp only [Option.some.injEq] at h1
    split at hv
    ·rename_i fd hfd
     obtain ⟨y, h2, h3⟩ := kw (w := w) (ys := l.toArray) (by simpa using hl) hv
     exact ⟨y, h2, by simp [Instr.field, aj hfs, hfd, ← h1, asAgg, h3]⟩
    ·cases hv
   ·cases h1
  ·cases hv
 ·cases hv
theorem jY (b off n : Nat) : (⟨b, off, none⟩ : Addr).add n = ⟨b, off + n, none⟩ := by
 unfold Addr.add; split
 ·subst_vars; rfl
 ·rfl
theorem qJ {a : Ad} {l : wF} (hl : ρ a.f a.v = some l) (h : l.base ≤ a.c) : iq ρ a = some ⟨l.b, a.c - l.base, none⟩ := by
 unfold iq; rw [hl]; exact if_pos h
theorem qK {a : Ad} {x : Addr} (h : iq ρ a = some x) : ∃ l, ρ a.f a.v = some l ∧ l.base ≤ a.c ∧ x = ⟨l.b, a.c - l.base, none⟩ := by
 unfold iq at h
 cases hl : ρ a.f a.v with
 | none => simp [hl] at h
 | some l =>
  simp only [hl] at h
  split at h
  ·cases h; exact ⟨l, rfl, by assumption, rfl⟩
  ·cases h
theorem qL {a : Ad} {x : Addr} (n : Nat) (h : iq ρ a = some x) : iq ρ (eK a n) = some (x.add n) := by
 obtain ⟨l, h1, h2, rfl⟩ := qK h
 have h3 : ρ (eK a n).f (eK a n).v = some l := h1
 rw [qJ h3 (by show l.base ≤ a.c + n; omega), jY]
 have : (eK a n).c - l.base = a.c - l.base + n := by show a.c + n - l.base = _; omega
 rw [this]
theorem kK (h : HR ρ s w) (ht : TR ρ t tm) {ty : TypeId} {x : Operand} {f : Nat} {nx : Nx} (e : bc s (aP P ty (eval t x) f) = some nx) :
 wx P ρ w s nx ((do pure (Next.value (← Instr.fieldAt ty (rv tm x) f)) : Sem Next).run P w) := by
 refine aZ h e fun v hv => ?_
 unfold aP at hv
 split at hv
 ·rename_i fs hfs
  split at hv
  ·rename_i a hx
   have h1 := am ht hx
   simp only [den] at h1
   split at h1
   ·rename_i ad had
    simp only [Option.some.injEq] at h1
    split at hv
    ·rename_i fd hfd
     cases hz : kA fd P with
     | true => simp [hz] at hv
     | false =>
      simp only [hz, cond_false, Option.some.injEq] at hv
      subst hv
      have hn : ∃ n, size P fd.type = some n ∧ n ≠ 0 := by
       unfold kA at hz
       split at hz
       ·rename_i n hn; exact ⟨n, hn, fun e => by subst e; simp at hz⟩
       ·cases hz
      obtain ⟨n, hn, hne⟩ := hn
      refine ⟨.pointer (some (ad.add fd.offset)), by simp only [den, qL _ had], ?_⟩
      simp [Instr.fieldAt, aj hfs, hfd, ← h1, Instr.sureAddr, fieldPlace, cI hn, hne]
    ·cases hv
   ·cases h1
  ·cases hv
 ·cases hv
theorem lq (h : HR ρ s w) (ht : TR ρ t tm) {x : Operand} {dst : Option Tmp} {type : TypeId} {pos : String} {after : Array Edge} {guard : Option (Nat × Bool)} {nx : Nx} (e : bc s (fo (eval t x)) = some nx) :
 wx P ρ w s nx ((execOp (rv tm) { dst, op := .nilCheck x, type, pos, after, guard }).run P w) := by
 unfold bc at e
 split at e
 ·rename_i v hv
  cases e
  unfold fo at hv
  split at hv
  ·rename_i a hx
   cases hv
   have h1 := am ht hx
   have h2 := h1
   simp only [den] at h2
   split at h2
   ·rename_i ad had
    simp only [Option.some.injEq] at h2
    refine ⟨_, .pointer (some ad), rfl, ?_, by simp only [den, had]⟩
    simp only [execOp, ← h2, Sem.run_pure]
   ·cases h2
  ·rename_i fn fi ca hx
   have h1 := am ht hx
   split at hv
   ·cases hv
    refine ⟨_, rv tm x, rfl, ?_, h1⟩
    simp only [den, mF] at h1
    (repeat' split at h1) <;> try cases h1
    simp only [Option.some.injEq] at h1
    simp only [execOp, ← h1, Sem.run_pure]
   ·cases hv
    refine ⟨_, rv tm x, rfl, ?_, h1⟩
    simp only [den, mF] at h1
    (repeat' split at h1) <;> try cases h1
    simp only [Option.some.injEq] at h1
    rename_i h2 _ _ _ _ _ _
    simp only [execOp, ← h1]
    split at h2 <;> cases h2
    simp only [Sem.run_pure]
   ·cases hv
  ·cases hv
 ·cases e
end ops
theorem bU (l : List Nat) : (ar l).toList = l.map UInt8.ofNat := by unfold ar; simp
theorem lN : ∀ {a b : List Nat} {r : Bool}, ia a b = some r → ((ar a).toList == (ar b).toList) = r := by
 intro a
 induction a with
 | nil =>
  intro b r h
  cases b with
  | nil => cases h; rw [bU]; rfl
  | cons y b => cases h; rw [bU, bU]; rfl
 | cons x a ih =>
  intro b r h
  cases b with
  | nil => cases h; rw [bU, bU]; rfl
  | cons y b =>
   simp only [ia] at h
   cases hb : Nat.beq x y with
   | true =>
    simp only [hb, cond_true] at h
    have e := Nat.eq_of_beq_eq_true hb
    have h1 := ih h
    rw [bU, bU] at h1 ⊢
    subst e
    simp only [List.map_cons]
    rw [← h1, List.cons_beq_cons]
    simp
   | false =>
    simp only [hb, cond_false] at h
    cases hc : (Nat.blt x 256 && Nat.blt y 256) with
    | false => simp [hc] at h
    | true =>
     simp only [hc, cond_true, Option.some.injEq] at h
     subst h
     simp only [Bool.and_eq_true, Nat.blt_eq] at hc
     rw [bU, bU]
     simp only [List.map_cons]
     have hne : ¬ UInt8.ofNat x = UInt8.ofNat y := fun e => by
      have := congrArg UInt8.toNat e
      rw [UInt8.toNat_ofNat', UInt8.toNat_ofNat'] at this
      rw [Nat.mod_eq_of_lt hc.1, Nat.mod_eq_of_lt hc.2] at this
      subst this
      simp at hb
     rw [List.cons_beq_cons]
     simp [hne]
section
variable {P : Program} {ρ : aq} {s : S} {w : World}
theorem sq (h : HR ρ s w) {a : Ad} (hp : plainAt s a = true) : ∃ l c e, ρ a.f a.v = some l ∧ w.heap[l.b]? = some (.cells c e (0, 0)) := by
 unfold plainAt at hp
 split at hp
 ·rename_i el sb nv vers hg
  simp only [Bool.and_eq_true, Bool.not_eq_true'] at hp
  obtain ⟨u, hu⟩ := Option.isSome_iff_exists.1 hp.2
  obtain ⟨⟨l, c, e, fz, h1, h2, h3, h4, ⟨h5, _⟩, h6⟩, _, hv⟩ := h.ver hg hu
  rw [hv] at h1
  rw [h5 hp.1] at h2
  exact ⟨l, c, e, h1, h2⟩
 ·cases hp
theorem Cv (h : HR ρ s w) {a b : Ad} {r : Bool} (e : Hl (plainAt s) a b = some r) {A B : Addr} (ha : iq ρ a = some A) (hb : iq ρ b = some B) :
 (sameAddr A B).run P w = .ok r w := by
 unfold Hl at e
 cases hp : (plainAt s a && plainAt s b) with
 | false => simp [hp] at e
 | true =>
  simp only [hp, cond_true] at e
  simp only [Bool.and_eq_true] at hp
  obtain ⟨la, ha1, ha2, rfl⟩ := qK ha
  obtain ⟨lb, hb1, hb2, rfl⟩ := qK hb
  obtain ⟨l1, c1, e1, g1, g2⟩ := sq h hp.1
  obtain ⟨l2, c2, e2, g3, g4⟩ := sq h hp.2
  rw [ha1] at g1; cases g1
  rw [hb1] at g3; cases g3
  cases hf : Nat.beq a.f b.f with
  | true =>
   simp only [hf, cond_true] at e
   cases hv : Nat.beq a.v b.v with
   | false => simp [hv] at e
   | true =>
    simp only [hv, cond_true, Option.some.injEq] at e
    rw [Nat.eq_of_beq_eq_true hf, Nat.eq_of_beq_eq_true hv, hb1] at ha1
    cases ha1
    simp only [sameAddr, beq_self_eq_true, if_true]
    show Result.ok _ _ = _
    congr 1
    subst e
    cases hc : Nat.beq a.c b.c with
    | true => rw [Nat.eq_of_beq_eq_true hc]; simp
    | false =>
     have hne : a.c ≠ b.c := fun e => by rw [e] at hc; simp at hc
     simp; omega
  | false =>
   simp only [hf, cond_false, Option.some.injEq] at e
   subst e
   have hne : la.b ≠ lb.b := fun e => by
    have := (h.inj _ _ _ _ _ _ ha1 hb1 e).1
    rw [this] at hf; simp at hf
   have hn : (la.b == lb.b) = false := by simpa using hne
   have fa : w.frozen? ⟨la.b, a.c - la.base, none⟩ = false := by simp [World.frozen?, g2]
   have fb : w.frozen? ⟨lb.b, b.c - lb.base, none⟩ = false := by simp [World.frozen?, g4]
   have fa' : ∀ n, w.frozen? { block := la.b, off := n } = false := fun n => by simp [World.frozen?, g2]
   have fb' : ∀ n, w.frozen? { block := lb.b, off := n } = false := fun n => by simp [World.frozen?, g4]
   have sa : w.shape? la.b = some (e1, c1.size) := by simp [World.shape?, g2]
   have sb : w.shape? lb.b = some (e2, c2.size) := by simp [World.shape?, g4]
   simp [sameAddr, hn, fa, fb, noView, viewAt, sa, sb, mayBeOne, stringish, fa', fb']
theorem Dl {fn : Fn} {fi ca : List V} {x : Value} (h : den ρ (.func fn fi ca) = some x) : ∃ g a b, x = .func g a b := by
 simp only [den] at h
 split at h
 ·split at h
  ·split at h
   ·cases h; exact ⟨_, _, _, rfl⟩
   ·cases h
  ·cases h
 ·cases h
theorem sK {t : TypeId} {fs : Array Field} (h : P.underlying t = some (.struct fs)) : P.fieldsOf t = fs := by
 unfold Program.fieldsOf; rw [h]
theorem nD {eq : TypeId → V → V → Option Bool} {d : Nat} (heq : ∀ t x y r X Y, eq t x y = some r → den ρ x = some X → den ρ y = some Y → (Op.equalIn d t X Y).run P w = .ok r w) :
 ∀ (fs : List Field) (xs ys : List V) (X Y : Array Value) (r : Bool), om P eq fs xs ys = some r → aY ρ xs = some X.toList → aY ρ ys = some Y.toList →
  (Op.eqFields d X Y fs).run P w = .ok r w
 | [], xs, ys, X, Y, r, h, _, _ => by cases h; rfl
 | f :: fs, xs, ys, X, Y, r, h, hx, hy => by
  simp only [om] at h
  cases hn : (f.name == "_") with
  | true => simp [hn] at h
  | false =>
   simp only [hn, cond_false] at h
   have hne : f.name ≠ "_" := by simpa using hn
   split at h
   ·rename_i a b ha hb
    obtain ⟨A, ha1, ha2⟩ := kw (P := P) (w := w) hx ha
    obtain ⟨B, hb1, hb2⟩ := kw (P := P) (w := w) hy hb
    simp only [Op.eqFields, hne, ne_eq, not_false_eq_true, if_true, Sem.run_bind, ha2, hb2, Result.andThen_ok]
    split at h
    ·rename_i hq
     rw [heq _ _ _ _ _ _ hq ha1 hb1]
     simpa using nD heq fs xs ys X Y r h hx hy
    ·rename_i hq
     cases h
     rw [heq _ _ _ _ _ _ hq ha1 hb1]
     simp
    ·cases h
   ·cases h
set_option maxHeartbeats 3000000 in
theorem sL (h : HR ρ s w) : ∀ (d : Nat) (t : TypeId) (x y : V) (r : Bool) (X Y : Value) (d' : Nat), dJ P (plainAt s) d t x y = some r → den ρ x = some X → den ρ y = some Y → d ≤ d' →
 (Op.equalIn d' t X Y).run P w = .ok r w := by
 intro d
 induction d with
 | zero => intro t x y r X Y d' e; cases e
 | succ d ih =>
  intro t x y r X Y d' e hx hy hd
  obtain ⟨d', rfl⟩ : ∃ n, d' = n + 1 := ⟨d' - 1, by omega⟩
  simp only [dJ] at e
  split at e
  ·rename_i fs hu
   split at e
   ·rename_i xs ys
    cases hs : P.stoodInHeld t with
    | true => simp [hs] at e
    | false =>
     simp only [hs, cond_false] at e
     simp only [den] at hx hy
     split at hx
     ·rename_i lx hlx
      split at hy
      ·rename_i ly hly
       cases hx; cases hy
       rw [run_equalIn_struct w d' t _ _ (by rw [sK hu]; exact hu) hs, sK hu]
       exact nD (fun t x y r X Y e h1 h2 => ih t x y r X Y d' e h1 h2 (by omega)) fs.toList xs ys _ _ r e (by simpa using hlx) (by simpa using hly)
      ·cases hy
     ·cases hx
   ·cases e
  ·rename_i ms hu
   split at e
   ·cases hx; cases hy; cases e; simp [Op.equalIn, aj hu]
   ·rename_i ty vy
    simp only [den] at hy
    split at hy
    ·cases hx; cases hy; cases e; simp [Op.equalIn, aj hu]
    ·cases hy
   ·rename_i tx vx
    simp only [den] at hx
    split at hx
    ·cases hx; cases hy; cases e; simp [Op.equalIn, aj hu]
    ·cases hx
   ·rename_i tx vx ty vy
    simp only [den] at hx hy
    split at hx
    ·rename_i zx hzx
     split at hy
     ·rename_i zy hzy
      cases hx; cases hy
      cases ht : Nat.beq tx ty with
      | false =>
       simp only [ht, cond_false, Option.some.injEq] at e
       subst e
       have hne : tx ≠ ty := fun e => by rw [e] at ht; simp at ht
       simp [Op.equalIn, aj hu, hne]
      | true =>
       simp only [ht, cond_true] at e
       have := Nat.eq_of_beq_eq_true ht
       subst this
       split at e
       ·rename_i i hi
        cases hc : i.comparable with
        | false => simp [hc] at e
        | true =>
         simp only [hc, cond_true] at e
         have := ih _ _ _ _ _ _ d' e hzx hzy (by omega)
         simp [Op.equalIn, aj hu, typeInfo, hi, hc, this]
       ·cases e
     ·cases hy
    ·cases hx
   ·cases e
  ·rename_i hu
   split at e
   ·cases hx; cases hy; cases e; simp [Op.equalIn, aj hu]
   ·cases e
  ·rename_i k0 hu
   split at e
   ·rename_i j a k b
    cases hk : aR j k with
    | false => simp [hk] at e
    | true =>
     simp only [hk, cond_true, Option.some.injEq] at e
     have hjk : j = k := of_decide_eq_true hk
     subst hjk
     cases hx; cases hy; subst e
     simp [Op.equalIn, aj hu]
   ·cases e
  ·rename_i hu
   split at e
   ·rename_i a b
    cases hx; cases hy
    have := lN e
    simp [Op.equalIn, aj hu, beq_toListBytes, this]
   ·cases e
  ·rename_i el hu
   split at e
   ·cases hx; cases hy; cases e; simp [Op.equalIn, aj hu]
   ·rename_i b
    simp only [den] at hy
    split at hy
    ·cases hx; cases hy; cases e; simp [Op.equalIn, aj hu]
    ·cases hy
   ·rename_i a
    simp only [den] at hx
    split at hx
    ·cases hx; cases hy; cases e; simp [Op.equalIn, aj hu]
    ·cases hx
   ·rename_i a b
    simp only [den] at hx hy
    split at hx
    ·rename_i A hA
     split at hy
     ·rename_i B hB
      cases hx; cases hy
      split at e
      ·rename_i n hn
       cases hz : Nat.beq n 0 with
       | true => simp [hz] at e
       | false =>
        simp only [hz, cond_false] at e
        have hne : n ≠ 0 := fun e => by subst e; simp at hz
        have := Cv (P := P) h e hA hB
        simp [Op.equalIn, aj hu, cI hn, hne, this]
      ·cases e
     ·cases hy
    ·cases hx
   ·cases e
  ·rename_i el hu
   split at e
   ·cases hx; cases hy; cases e; simp [Op.equalIn, aj hu]
   ·rename_i a z n c sz
    simp only [den, jW] at hy
    (repeat' split at hy) <;> first | (cases hy; done) | (cases hx; cases hy; cases e; simp [Op.equalIn, aj hu])
   ·rename_i a z n c sz
    simp only [den, jW] at hx
    (repeat' split at hx) <;> first | (cases hx; done) | (cases hx; cases hy; cases e; simp [Op.equalIn, aj hu])
   ·cases e
  ·rename_i k el hu
   split at e
   ·cases hx; cases hy; cases e; simp [Op.equalIn, aj hu]
   ·simp only [den] at hy
    split at hy
    ·cases hx; cases hy; cases e; simp [Op.equalIn, aj hu]
    ·cases hy
   ·simp only [den] at hx
    split at hx
    ·cases hx; cases hy; cases e; simp [Op.equalIn, aj hu]
    ·cases hx
   ·cases e
  ·rename_i hu
   split at e
   ·cases hx; cases hy; cases e; simp [Op.equalIn, aj hu]
   ·obtain ⟨g, a, b, rfl⟩ := Dl hy
    cases hx; cases e; simp [Op.equalIn, aj hu]
   ·obtain ⟨g, a, b, rfl⟩ := Dl hx
    cases hy; cases e; simp [Op.equalIn, aj hu]
   ·cases e
  ·cases e
end
end Go.AI
