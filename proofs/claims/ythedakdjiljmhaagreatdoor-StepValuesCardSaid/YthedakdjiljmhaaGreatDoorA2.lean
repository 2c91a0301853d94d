/- What the evaluator's states say of the machine's memory. No conditions. -/
import Derived.Test.YthedakdjiljmhaaGreatDoorA1
import Derived.Laws.Sem
import Derived.Laws.World
import Derived.Laws.Cells
set_option linter.unusedVariables false
set_option linter.unusedSimpArgs false
noncomputable section
/- Tries: what a set leaves to be got. -/
namespace Go.AI

theorem pthF_inj : ∀ (n k n' k' : Nat), k ≤ n → k' ≤ n' → pthF n k = pthF n' k' → k = k' := by
  intro n
  induction n with
  | zero =>
    intro k n' k' hk hk' h
    obtain rfl : k = 0 := by omega
    cases n' with
    | zero => omega
    | succ n' =>
      cases k' with
      | zero => rfl
      | succ m =>
        simp only [pthF] at h
        cases hb : Nat.beq (Nat.mod m 2) 1 <;> simp [hb] at h
  | succ n ih =>
    intro k n' k' hk hk' h
    cases k with
    | zero =>
      cases n' with
      | zero => omega
      | succ n' =>
        cases k' with
        | zero => rfl
        | succ m =>
          simp only [pthF] at h
          cases hb : Nat.beq (Nat.mod m 2) 1 <;> simp [hb] at h
    | succ m =>
      cases n' with
      | zero =>
        obtain rfl : k' = 0 := by omega
        simp only [pthF] at h
        cases hb : Nat.beq (Nat.mod m 2) 1 <;> simp [hb] at h
      | succ n' =>
        cases k' with
        | zero =>
          simp only [pthF] at h
          cases hb : Nat.beq (Nat.mod m 2) 1 <;> simp [hb] at h
        | succ m' =>
          simp only [pthF] at h
          have hd : ∀ x : Nat, Nat.div x 2 = x / 2 := fun _ => rfl
          have hm : ∀ x : Nat, Nat.mod x 2 = x % 2 := fun _ => rfl
          cases hb : Nat.beq (Nat.mod m 2) 1 <;> cases hb' : Nat.beq (Nat.mod m' 2) 1 <;> simp [hb, hb'] at h
          · have h1 := ih (Nat.div m 2) n' (Nat.div m' 2) (by rw [hd]; omega) (by rw [hd]; omega) h
            rw [hd, hd] at h1
            rw [hm] at hb hb'
            have e1 : ¬ m % 2 = 1 := fun e => by rw [e] at hb; simp at hb
            have e2 : ¬ m' % 2 = 1 := fun e => by rw [e] at hb'; simp at hb'
            omega
          · have h1 := ih (Nat.div m 2) n' (Nat.div m' 2) (by rw [hd]; omega) (by rw [hd]; omega) h
            rw [hd, hd] at h1
            rw [hm] at hb hb'
            have e1 : m % 2 = 1 := Nat.eq_of_beq_eq_true hb
            have e2 : m' % 2 = 1 := Nat.eq_of_beq_eq_true hb'
            omega

theorem pth_inj {k k' : Nat} (h : pth k = pth k') : k = k' := pthF_inj k k k' k' (Nat.le_refl _) (Nat.le_refl _) h

namespace T
variable {α : Type}

section
variable {β : Type} (x : Option α) (p : Pth) (l r : T α) (v : Option α) (k : T α → β)
theorem get_leaf (p : Pth) : (T.leaf : T α).get p = none := by cases p <;> rfl
theorem get_o : (T.node l v r).get .o = v := rfl
theorem get_l : (T.node l v r).get (.l p) = l.get p := rfl
theorem get_r : (T.node l v r).get (.r p) = r.get p := rfl
theorem setK_o_leaf : setK x .o .leaf k = k (.node .leaf x .leaf) := rfl
theorem setK_o_node : setK x .o (.node l v r) k = k (.node l x r) := rfl
theorem setK_l_leaf : setK x (.l p) .leaf k = setK x p .leaf fun t => k (.node t none .leaf) := rfl
theorem setK_l_node : setK x (.l p) (.node l v r) k = setK x p l fun t => k (.node t v r) := rfl
theorem setK_r_leaf : setK x (.r p) .leaf k = setK x p .leaf fun t => k (.node .leaf none t) := rfl
theorem setK_r_node : setK x (.r p) (.node l v r) k = setK x p r fun t => k (.node l v t) := rfl
end

/-- The trie with x at a path. -/
def set (x : Option α) (p : Pth) (t : T α) : T α := setK x p t id

theorem setK_eq' (x : Option α) : ∀ (p : Pth) (β : Type) (t : T α) (k : T α → β), setK x p t k = k (setK x p t id) := by
  intro p
  induction p with
  | o => intro β t k; cases t <;> rfl
  | l p ih =>
    intro β t k
    cases t with
    | leaf => rw [setK_l_leaf, setK_l_leaf, ih β, ih (T α) .leaf (fun t => id (T.node t none .leaf))]; rfl
    | node l v r => rw [setK_l_node, setK_l_node, ih β, ih (T α) l (fun t => id (T.node t v r))]; rfl
  | r p ih =>
    intro β t k
    cases t with
    | leaf => rw [setK_r_leaf, setK_r_leaf, ih β, ih (T α) .leaf (fun t => id (T.node .leaf none t))]; rfl
    | node l v r => rw [setK_r_node, setK_r_node, ih β, ih (T α) r (fun t => id (T.node l v t))]; rfl
theorem setK_eq {β : Type} (x : Option α) (p : Pth) (t : T α) (k : T α → β) : setK x p t k = k (set x p t) := setK_eq' x p β t k

theorem set_l_leaf (x : Option α) (p : Pth) : set x (.l p) .leaf = .node (set x p .leaf) none .leaf := by unfold set; rw [setK_l_leaf, setK_eq]; rfl
theorem set_r_leaf (x : Option α) (p : Pth) : set x (.r p) .leaf = .node .leaf none (set x p .leaf) := by unfold set; rw [setK_r_leaf, setK_eq]; rfl
theorem set_l_node (x : Option α) (p : Pth) (l r : T α) (v : Option α) : set x (.l p) (.node l v r) = .node (set x p l) v r := by unfold set; rw [setK_l_node, setK_eq]; rfl
theorem set_r_node (x : Option α) (p : Pth) (l r : T α) (v : Option α) : set x (.r p) (.node l v r) = .node l v (set x p r) := by unfold set; rw [setK_r_node, setK_eq]; rfl
theorem set_o_leaf (x : Option α) : set x .o .leaf = .node .leaf x .leaf := rfl
theorem set_o_node (x : Option α) (l r : T α) (v : Option α) : set x .o (.node l v r) = .node l x r := rfl

theorem get_set_same (x : Option α) : ∀ (p : Pth) (t : T α), (set x p t).get p = x := by
  intro p
  induction p with
  | o => intro t; cases t <;> rfl
  | l p ih => intro t; cases t <;> simp [set_l_leaf, set_l_node, get_l, ih]
  | r p ih => intro t; cases t <;> simp [set_r_leaf, set_r_node, get_r, ih]

theorem get_set_other (x : Option α) : ∀ (p q : Pth) (t : T α), p ≠ q → (set x p t).get q = t.get q := by
  intro p
  induction p with
  | o =>
    intro q t h
    cases q with
    | o => exact absurd rfl h
    | l q => cases t <;> simp [set_o_leaf, set_o_node, get_l, get_leaf]
    | r q => cases t <;> simp [set_o_leaf, set_o_node, get_r, get_leaf]
  | l p ih =>
    intro q t h
    cases q with
    | o => cases t <;> simp [set_l_leaf, set_l_node, get_o, get_leaf]
    | l q =>
      have h' : p ≠ q := fun e => h (by rw [e])
      cases t <;> simp [set_l_leaf, set_l_node, get_l, ih q _ h', get_leaf]
    | r q => cases t <;> simp [set_l_leaf, set_l_node, get_r, get_leaf]
  | r p ih =>
    intro q t h
    cases q with
    | o => cases t <;> simp [set_r_leaf, set_r_node, get_o, get_leaf]
    | r q =>
      have h' : p ≠ q := fun e => h (by rw [e])
      cases t <;> simp [set_r_leaf, set_r_node, get_r, ih q _ h', get_leaf]
    | l q => cases t <;> simp [set_r_leaf, set_r_node, get_l, get_leaf]

theorem get_setN (x : Option α) (i j : Nat) (t : T α) : (set x (pth i) t).get (pth j) = if i = j then x else t.get (pth j) := by
  by_cases h : i = j
  · subst h; simp [get_set_same]
  · rw [if_neg h]; exact get_set_other x _ _ t (fun e => h (pth_inj e))
end T

theorem forceN_eq {β : Type} (n : Nat) (k : Nat → β) : forceN n k = k n := by cases n <;> rfl
theorem forceI_eq {β : Type} (n : Int) (k : Int → β) : forceI n k = k n := by cases n <;> simp [forceI, forceN_eq]
theorem mkInt_eq (k : IntKind) (n : Int) : mkInt k n = .int k n := forceI_eq n _

theorem S.put_eq (s : S) (f : Nat) (b : Blk) : s.put f b = ⟨s.h.set (some b) (pth f), s.next⟩ := by
  cases s; simp only [S.put]; rw [T.setK_eq]
theorem S.alloc_eq (s : S) (b : Blk) : s.alloc b = ⟨s.h.set (some b) (pth s.next), s.next + 1⟩ := by
  cases s; simp only [S.alloc]; rw [T.setK_eq, forceN_eq]
theorem S.get_eq (s : S) (f : Nat) : s.get f = s.h.get (pth f) := by cases s; rfl
theorem S.get_put (s : S) (f g : Nat) (b : Blk) : (s.put f b).get g = if f = g then some b else s.get g := by
  rw [S.put_eq, S.get_eq, S.get_eq, T.get_setN]
theorem S.get_alloc (s : S) (g : Nat) (b : Blk) : (s.alloc b).get g = if s.next = g then some b else s.get g := by
  rw [S.alloc_eq, S.get_eq, S.get_eq, T.get_setN]
theorem S.next_put (s : S) (f : Nat) (b : Blk) : (s.put f b).next = s.next := by rw [S.put_eq]
theorem S.next_alloc (s : S) (b : Blk) : (s.alloc b).next = s.next + 1 := by rw [S.alloc_eq]

theorem putT_eq {β : Type} (t : T V) (d : Option Tmp) (v : Option V) (k : T V → β) : putT t d v k = k (putT t d v id) := by
  cases d with
  | none => rfl
  | some i => simp only [putT]; rw [T.setK_eq, T.setK_eq]; rfl

theorem get_putT (t : T V) (d : Option Tmp) (v : Option V) (i : Nat) : (putT t d v id).get (pth i) = if d = some i then v else t.get (pth i) := by
  cases d with
  | none => simp [putT]
  | some j => simp only [putT]; rw [T.setK_eq]; simp only [id]; rw [T.get_setN]; simp

end Go.AI
/- What an abstract value, an abstract state, stands for. -/
namespace Go.AI

/-- Where a version lies: its block, the coordinate of the block's first cell, the coordinate behind its last. -/
structure Loc where
  b : Nat
  base : Nat
  lim : Nat

/-- A place that is only read. -/
def Loc.ro (l : Loc) : Prop := l.lim < l.base

abbrev Rho := Nat → Nat → Option Loc

def Rho.le (ρ ρ' : Rho) : Prop := ∀ f v l, ρ f v = some l → ρ' f v = some l
theorem Rho.le_refl (ρ : Rho) : ρ.le ρ := fun _ _ _ h => h
theorem Rho.le_trans {a b c : Rho} (h : a.le b) (k : b.le c) : a.le c := fun _ _ _ x => k _ _ _ (h _ _ _ x)

def bytesV (l : List Nat) : ByteArray := ⟨(l.map UInt8.ofNat).toArray⟩

def denA (ρ : Rho) (a : Ad) : Option Addr := match ρ a.f a.v with
  | some l => if l.base ≤ a.c then some ⟨l.b, a.c - l.base, none⟩ else none
  | none => none

def denFn (ρ : Rho) : Fn → Option Fn
  | .yield l => match ρ l 0 with
    | some x => some (.yield x.b)
    | none => none
  | f => some f

/-- The capacity of a slice, where it lies. -/
def capOf (l : Loc) (a : Ad) (cap : Option Nat) (sz : Nat) : Nat := match cap with
  | some c => c
  | none => (l.lim - a.c) / sz

def coordOf (l : Loc) (a : Ad) (z : Nat) (cap : Option Nat) (sz : Nat) : Nat := match cap with
  | some _ => a.c
  | none => if (l.lim - a.c) / sz = 0 then z else a.c

/-- A row of no places may lie nowhere: the sign is 'sz = 0'. -/
def rawSpot : Nat → Option Nat
  | 0 => none
  | n + 1 => some n

def denSl (ρ : Rho) (a : Ad) (z len : Nat) (cap : Option Nat) (sz : Nat) : Option Value := if sz = 0 then (if len = 0 ∧ cap = some 0 then some (.slice (some ⟨a.f, a.c, rawSpot a.v⟩) 0 0) else none) else match ρ a.f a.v with
  | some l => if l.base ≤ coordOf l a z cap sz ∧ l.base ≤ a.c ∧ len ≤ capOf l a cap sz ∧ 0 < sz then
      some (.slice (some ⟨l.b, coordOf l a z cap sz - l.base, none⟩) len (capOf l a cap sz)) else none
  | none => none

mutual
def den (ρ : Rho) : V → Option Value
  | .bool b => some (.bool b)
  | .int k n => some (.int k n)
  | .str l => some (.string (bytesV l))
  | .ptr a => match denA ρ a with
    | some x => some (.pointer (some x))
    | none => none
  | .nilptr => some (.pointer none)
  | .slice a z len cap sz => denSl ρ a z len cap sz
  | .nilslice => some (.slice none 0 0)
  | .map r => match ρ r 0 with
    | some l => some (.map (some l.b))
    | none => none
  | .nilmap => some (.map none)
  | .func fn first cap => match denFn ρ fn with
    | some fn => match denL ρ first with
      | some first => match denL ρ cap with
        | some cap => some (.func fn first.toArray cap.toArray)
        | none => none
      | none => none
    | none => none
  | .nilFunc => some .nilFunc
  | .iface t v => match den ρ v with
    | some x => some (.iface t x)
    | none => none
  | .nilIface => some .nilIface
  | .agg cs => match denL ρ cs with
    | some l => some (.agg l.toArray)
    | none => none
  | .tuple cs => match denL ρ cs with
    | some l => some (.tuple l.toArray)
    | none => none
def denL (ρ : Rho) : List V → Option (List Value)
  | [] => some []
  | x :: r => match den ρ x with
    | some y => match denL ρ r with
      | some l => some (y :: l)
      | none => none
    | none => none
end

theorem denA_mono {ρ ρ' : Rho} (h : ρ.le ρ') {a : Ad} {x : Addr} (e : denA ρ a = some x) : denA ρ' a = some x := by
  unfold denA at e ⊢
  cases hl : ρ a.f a.v with
  | none => simp [hl] at e
  | some l => rw [hl] at e; rw [h _ _ _ hl]; exact e

theorem denFn_mono {ρ ρ' : Rho} (h : ρ.le ρ') {a x : Fn} (e : denFn ρ a = some x) : denFn ρ' a = some x := by
  cases a <;> try exact e
  rename_i l
  unfold denFn at e ⊢
  cases hl : ρ l 0 with
  | none => simp [hl] at e
  | some y => simp only [hl] at e; simp only [h _ _ _ hl]; exact e

mutual
theorem den_mono {ρ ρ' : Rho} (h : ρ.le ρ') : ∀ (v : V) (x : Value), den ρ v = some x → den ρ' v = some x
  | .bool _, _, e => e
  | .int _ _, _, e => e
  | .str _, _, e => e
  | .ptr a, x, e => by
    simp only [den] at e ⊢
    cases ha : denA ρ a with
    | none => simp [ha] at e
    | some y => rw [ha] at e; rw [denA_mono h ha]; exact e
  | .nilptr, _, e => e
  | .slice a z len cap sz, x, e => by
    simp only [den, denSl] at e ⊢
    by_cases hz : sz = 0
    · rw [if_pos hz] at e ⊢; exact e
    rw [if_neg hz] at e ⊢
    cases hl : ρ a.f a.v with
    | none => simp [hl] at e
    | some l => rw [hl] at e; rw [h _ _ _ hl]; exact e
  | .nilslice, _, e => e
  | .map r, x, e => by
    simp only [den] at e ⊢
    cases hl : ρ r 0 with
    | none => simp [hl] at e
    | some l => rw [hl] at e; rw [h _ _ _ hl]; exact e
  | .nilmap, _, e => e
  | .func fn first cap, x, e => by
    simp only [den] at e ⊢
    cases hf : denFn ρ fn with
    | none => simp [hf] at e
    | some g =>
      rw [hf] at e; rw [denFn_mono h hf]
      cases h1 : denL ρ first with
      | none => simp [h1] at e
      | some l =>
        cases h2 : denL ρ cap with
        | none => simp [h1, h2] at e
        | some m => simp only [h1, h2] at e; simp only [denL_mono h first l h1, denL_mono h cap m h2]; exact e
  | .nilFunc, _, e => e
  | .iface t v, x, e => by
    simp only [den] at e ⊢
    cases hv : den ρ v with
    | none => simp [hv] at e
    | some y => rw [hv] at e; rw [den_mono h v y hv]; exact e
  | .nilIface, _, e => e
  | .agg cs, x, e => by
    simp only [den] at e ⊢
    cases hl : denL ρ cs with
    | none => simp [hl] at e
    | some l => rw [hl] at e; rw [denL_mono h cs l hl]; exact e
  | .tuple cs, x, e => by
    simp only [den] at e ⊢
    cases hl : denL ρ cs with
    | none => simp [hl] at e
    | some l => rw [hl] at e; rw [denL_mono h cs l hl]; exact e
theorem denL_mono {ρ ρ' : Rho} (h : ρ.le ρ') : ∀ (l : List V) (m : List Value), denL ρ l = some m → denL ρ' l = some m
  | [], _, e => e
  | x :: r, m, e => by
    simp only [denL] at e ⊢
    cases hx : den ρ x with
    | none => simp [hx] at e
    | some y =>
      cases hr : denL ρ r with
      | none => simp [hx, hr] at e
      | some q => simp only [hx, hr] at e; simp only [den_mono h x y hx, denL_mono h r q hr]; exact e
end

theorem denL_nil (ρ : Rho) : denL ρ [] = some [] := rfl
theorem denL_cons {ρ : Rho} {x : V} {r : List V} {m : List Value} : denL ρ (x :: r) = some m ↔ ∃ y q, den ρ x = some y ∧ denL ρ r = some q ∧ m = y :: q := by
  simp only [denL]
  cases hx : den ρ x with
  | none => simp
  | some y =>
    cases hr : denL ρ r with
    | none => simp
    | some q => simp [eq_comm]

theorem denL_append {ρ : Rho} : ∀ {x y : List V} {a b : List Value}, denL ρ x = some a → denL ρ y = some b → denL ρ (x ++ y) = some (a ++ b)
  | [], y, a, b, hx, hy => by cases hx; exact hy
  | v :: x, y, a, b, hx, hy => by
    obtain ⟨u, q, h1, h2, rfl⟩ := denL_cons.1 hx
    exact denL_cons.2 ⟨u, q ++ b, h1, denL_append h2 hy, rfl⟩

theorem denL_length {ρ : Rho} : ∀ {x : List V} {a : List Value}, denL ρ x = some a → a.length = x.length
  | [], a, h => by cases h; rfl
  | v :: x, a, h => by
    obtain ⟨u, q, h1, h2, rfl⟩ := denL_cons.1 h
    simp [denL_length h2]

theorem denL_get {ρ : Rho} : ∀ {x : List V} {a : List Value} (i : Nat) {v : V}, denL ρ x = some a → x[i]? = some v → ∃ y, den ρ v = some y ∧ a[i]? = some y
  | [], a, i, v, h, e => by simp at e
  | u :: x, a, i, v, h, e => by
    obtain ⟨y, q, h1, h2, rfl⟩ := denL_cons.1 h
    cases i with
    | zero => simp at e; subst e; exact ⟨y, h1, rfl⟩
    | succ i => simp at e; obtain ⟨z, hz, hz'⟩ := denL_get i h2 e; exact ⟨z, hz, by simpa using hz'⟩

theorem denL_drop {ρ : Rho} : ∀ {x : List V} {a : List Value} (n : Nat), denL ρ x = some a → denL ρ (x.drop n) = some (a.drop n)
  | [], a, n, h => by cases h; simp [denL]
  | u :: x, a, n, h => by
    obtain ⟨y, q, h1, h2, rfl⟩ := denL_cons.1 h
    cases n with
    | zero => exact denL_cons.2 ⟨y, q, h1, h2, rfl⟩
    | succ n => simpa using denL_drop n h2

theorem denL_take {ρ : Rho} : ∀ {x : List V} {a : List Value} (n : Nat), denL ρ x = some a → denL ρ (x.take n) = some (a.take n)
  | [], a, n, h => by cases h; simp [denL]
  | u :: x, a, n, h => by
    obtain ⟨y, q, h1, h2, rfl⟩ := denL_cons.1 h
    cases n with
    | zero => simp [denL]
    | succ n => simpa using denL_cons.2 ⟨y, q.take n, h1, denL_take n h2, rfl⟩

/-- A list of values, one by one. -/
theorem denL_of_get {ρ : Rho} : ∀ {x : List V} {a : List Value}, x.length = a.length → (∀ (i : Nat) (v : V), x[i]? = some v → ∃ y, den ρ v = some y ∧ a[i]? = some y) → denL ρ x = some a
  | [], a, hl, h => by have : a = [] := List.length_eq_zero_iff.1 hl.symm; subst this; rfl
  | u :: x, [], hl, h => by simp at hl
  | u :: x, b :: a, hl, h => by
    obtain ⟨y, hy, hy'⟩ := h 0 u rfl
    simp at hy'; subst hy'
    exact denL_cons.2 ⟨b, a, hy, denL_of_get (by simpa using hl) (fun i v e => by simpa using h (i + 1) v (by simpa using e)), rfl⟩

theorem den_cells {ρ : Rho} {v : V} {x : Value} (h : den ρ v = some x) : denL ρ v.cells = some x.cells.toList := by
  cases v <;> try (
    refine denL_cons.2 ⟨x, [], h, rfl, ?_⟩
    simp only [den] at h
    (repeat' split at h) <;> first | (cases h; done) | (cases h; rfl))
  case slice a z len cap sz =>
    refine denL_cons.2 ⟨x, [], h, rfl, ?_⟩
    simp only [den, denSl] at h
    (repeat' split at h) <;> first | (cases h; done) | (cases h; rfl)
  case agg cs =>
    simp only [den] at h
    split at h
    · rename_i l hl
      cases h
      simpa [V.cells, Value.cells] using hl
    · cases h

theorem one_of_den {ρ : Rho} {v : V} {x : Value} (h : den ρ v = some x) (h1 : v.one = true) : x.oneCell' = true := by
  cases v <;> simp [V.one] at h1
  case slice a z len cap sz =>
    simp only [den, denSl] at h
    (repeat' split at h) <;> first | (cases h; done) | (cases h; rfl)
  all_goals
    simp only [den] at h
    (repeat' split at h) <;> first | (cases h; done) | (cases h; rfl)

end Go.AI
/- The heap that an abstract state stands for; loads, stores, new blocks. -/
namespace Go.AI

def TR (ρ : Rho) (t : T V) (tm : Array Value) : Prop := ∀ (i : Nat) (v : V), t.get (pth i) = some v → ∃ y, den ρ v = some y ∧ tm[i]? = some y

theorem TR.mono {ρ ρ' : Rho} (h : ρ.le ρ') {t : T V} {tm : Array Value} (k : TR ρ t tm) : TR ρ' t tm := fun i v e => by
  obtain ⟨y, hy, hy'⟩ := k i v e
  exact ⟨y, den_mono h v y hy, hy'⟩

theorem TR.leaf (ρ : Rho) (tm : Array Value) : TR ρ .leaf tm := fun i v e => by rw [T.get_leaf] at e; cases e

theorem TR.put {ρ : Rho} {t : T V} {tm : Array Value} (k : TR ρ t tm) {i : Nat} {v : V} {y : Value} (hv : den ρ v = some y) (hi : i < tm.size) :
    TR ρ (t.set (some v) (pth i)) (tm.setIfInBounds i y) := fun j u e => by
  rw [T.get_setN] at e
  by_cases h : i = j
  · subst h; rw [if_pos rfl] at e; cases e; exact ⟨y, hv, by simp [hi]⟩
  · rw [if_neg h] at e
    obtain ⟨z, hz, hz'⟩ := k j u e
    exact ⟨z, hz, by rw [Array.getElem?_setIfInBounds_ne h]; exact hz'⟩

def EntR (ρ : Rho) (e : Ent) (r : MapEntry) : Prop := den ρ e.key = some r.key ∧ den ρ e.val = some r.val ∧ e.born = r.born

def EntsR (ρ : Rho) : List Ent → List MapEntry → Prop
  | [], [] => True
  | e :: es, r :: rs => EntR ρ e r ∧ EntsR ρ es rs
  | _, _ => False

theorem EntsR.mono {ρ ρ' : Rho} (h : ρ.le ρ') : ∀ {es : List Ent} {rs : List MapEntry}, EntsR ρ es rs → EntsR ρ' es rs
  | [], [], _ => trivial
  | _ :: _, _ :: _, ⟨⟨a, b, c⟩, k⟩ => ⟨⟨den_mono h _ _ a, den_mono h _ _ b, c⟩, EntsR.mono h k⟩
  | [], _ :: _, k => k.elim
  | _ :: _, [], k => k.elim

def VerR (ρ : Rho) (w : World) (f : Nat) (sb : Bool) (u : Ver) : Prop :=
  ∃ (l : Loc) (c : Array Value) (e : TypeId) (fz : Nat × Nat), ρ f u.v = some l ∧ w.heap[l.b]? = some (.cells c e fz) ∧ l.base ≤ u.lo ∧ l.lim = l.base + c.size ∧
    ((sb = false → fz = (0, 0)) ∧ ∀ i, i < c.size → ¬ (fz.1 ≤ i ∧ i < fz.2)) ∧ ∀ (i : Nat) (x : V), u.cells[i]? = some x → ∃ y, den ρ x = some y ∧ c[u.lo - l.base + i]? = some y

def VerO (ρ : Rho) (w : World) (f : Nat) (u : Ver) : Prop :=
  ∃ (l : Loc) (c : Array Value) (e : TypeId) (fz : Nat × Nat), ρ f u.v = some l ∧ w.heap[l.b]? = some (.cells c e fz) ∧ l.base ≤ u.lo ∧
    ∀ (i : Nat) (x : V), u.cells[i]? = some x → ∃ y, den ρ x = some y ∧ c[u.lo - l.base + i]? = some y

def BlkR (ρ : Rho) (w : World) (f : Nat) : Blk → Prop
  | .ro vers => ∀ u ∈ vers, VerO ρ w f u
  | .cells _ sb nv vers => (∀ v, nv ≤ v → ρ f v = none) ∧ ∀ u ∈ vers, u.v < nv ∧ VerR ρ w f sb u
  | .map es clock => ∃ l rs, ρ f 0 = some l ∧ w.heap[l.b]? = some (.map rs clock) ∧ EntsR ρ es rs.toList
  | .gone => True
  | .loop st pend fn t ps a b d nt => ∃ l ld tm, ρ f 0 = some l ∧ ρ d 0 = some ld ∧ TR ρ t tm ∧ nt ≤ tm.size ∧ w.heap[l.b]? = some (.loop { state := st, pending := pend, fn, tmps := tm, params := ps, assign := a, body := b, defers := ld.b })
  | .deferred => ∃ l, ρ f 0 = some l ∧ w.heap[l.b]? = some (.deferred (some []))

structure HR (ρ : Rho) (s : S) (w : World) : Prop where
  fresh : ∀ f v, s.next ≤ f → ρ f v = none
  inj : ∀ f v l f' v' l', ρ f v = some l → ρ f' v' = some l' → l.b = l'.b → f = f' ∧ l.base = l'.base
  low : ∀ f v l, ρ f v = some l → l.b < w.heap.size
  blk : ∀ f B, s.get f = some B → BlkR ρ w f B
  dom : ∀ f B, s.get f = some B → f < s.next
  rw : ∀ f B, s.get f = some B → (∀ vers, B ≠ .ro vers) → ∀ v l, ρ f v = some l → ¬ l.ro

/-- What a step leaves alone. -/
structure FR (ρ : Rho) (w : World) (ρ' : Rho) (w' : World) : Prop where
  ext : ρ.le ρ'
  size : w.heap.size ≤ w'.heap.size
  os : w'.os = w.os
  tape : w'.tape = w.tape
  output : w'.output = w.output
  same : ∀ b, b < w.heap.size → (∀ f v l, ρ f v = some l → ¬ l.ro → l.b ≠ b) → w'.heap[b]? = w.heap[b]?
  new : ∀ f v l, ρ' f v = some l → l.b < w.heap.size → ∃ f' v' l', ρ f' v' = some l' ∧ l'.b = l.b ∧ (l'.ro → l.ro)

theorem FR.refl (ρ : Rho) (w : World) : FR ρ w ρ w := ⟨ρ.le_refl, Nat.le_refl _, rfl, rfl, rfl, fun _ _ _ => rfl, fun f v l h _ => ⟨f, v, l, h, rfl, id⟩⟩

theorem FR.trans {ρ ρ1 ρ2 : Rho} {w w1 w2 : World} (h : FR ρ w ρ1 w1) (k : FR ρ1 w1 ρ2 w2) : FR ρ w ρ2 w2 where
  ext := Rho.le_trans h.ext k.ext
  size := Nat.le_trans h.size k.size
  os := k.os.trans h.os
  tape := k.tape.trans h.tape
  output := k.output.trans h.output
  same b hb hn := by
    rw [k.same b (Nat.lt_of_lt_of_le hb h.size) (fun f v l e hro he => ?_)]
    · exact h.same b hb hn
    · obtain ⟨f', v', l', e', he', hr'⟩ := h.new f v l e (by omega)
      exact hn f' v' l' e' (fun q => hro (hr' q)) (by omega)
  new f v l e hl := by
    obtain ⟨f1, v1, l1, e1, h1, r1⟩ := k.new f v l e (Nat.lt_of_lt_of_le hl h.size)
    obtain ⟨f2, v2, l2, e2, h2, r2⟩ := h.new f1 v1 l1 e1 (by omega)
    exact ⟨f2, v2, l2, e2, by omega, fun q => r1 (r2 q)⟩

/-- A draw. -/
theorem FR.drawn {ρ : Rho} (w : World) (n : Nat) : FR ρ w ρ { w with drawn := n } := ⟨ρ.le_refl, Nat.le_refl _, rfl, rfl, rfl, fun _ _ _ => rfl, fun f v l h _ => ⟨f, v, l, h, rfl, id⟩⟩

theorem VerR.of_heap {ρ : Rho} {w w' : World} {f : Nat} {sb : Bool} {u : Ver} (h : VerR ρ w f sb u) (hh : ∀ l, ρ f u.v = some l → w'.heap[l.b]? = w.heap[l.b]?) : VerR ρ w' f sb u := by
  obtain ⟨l, c, e, fz, h1, h2, r⟩ := h
  exact ⟨l, c, e, fz, h1, by rw [hh l h1]; exact h2, r⟩

theorem VerR.mono {ρ ρ' : Rho} (h : ρ.le ρ') {w : World} {f : Nat} {sb : Bool} {u : Ver} (k : VerR ρ w f sb u) : VerR ρ' w f sb u := by
  obtain ⟨l, c, e, fz, h1, h2, h3, h4, h5, h6⟩ := k
  refine ⟨l, c, e, fz, h _ _ _ h1, h2, h3, h4, h5, fun i x hx => ?_⟩
  obtain ⟨y, hy, hy'⟩ := h6 i x hx
  exact ⟨y, den_mono h x y hy, hy'⟩

theorem HR.drawn {ρ : Rho} {s : S} {w : World} (h : HR ρ s w) (n : Nat) : HR ρ s { w with drawn := n } :=
  ⟨h.fresh, h.inj, h.low, h.blk, h.dom, h.rw⟩

theorem findVer_spec : ∀ {vers : List Ver} {v : Nat} {u : Ver}, findVer vers v = some u → u ∈ vers ∧ u.v = v
  | [], v, u, h => by simp [findVer] at h
  | x :: r, v, u, h => by
    simp only [findVer] at h
    cases hb : Nat.beq x.v v with
    | true => simp [hb] at h; subst h; exact ⟨by simp, Nat.eq_of_beq_eq_true hb⟩
    | false => simp [hb] at h; obtain ⟨h1, h2⟩ := findVer_spec h; exact ⟨List.mem_cons_of_mem _ h1, h2⟩

theorem takeExact_spec : ∀ {n : Nat} {l m : List V}, takeExact n l = some m → m = l.take n ∧ n ≤ l.length
  | 0, l, m, h => by simp [takeExact] at h; subst h; simp
  | n + 1, [], m, h => by simp [takeExact] at h
  | n + 1, x :: r, m, h => by
    simp only [takeExact] at h
    cases hr : takeExact n r with
    | none => simp [hr] at h
    | some q =>
      simp [hr] at h
      obtain ⟨e, hl⟩ := takeExact_spec hr
      subst h; subst e
      simp; omega

/-- The version that a place leads to, in the heap. -/
theorem HR.ver {ρ : Rho} {s : S} {w : World} (h : HR ρ s w) {a : Ad} {e : TypeId} {sb : Bool} {nv : Nat} {vers : List Ver} {u : Ver}
    (hg : s.get a.f = some (.cells e sb nv vers)) (hu : findVer vers a.v = some u) : VerR ρ w a.f sb u ∧ u ∈ vers ∧ u.v = a.v := by
  obtain ⟨hm, hv⟩ := findVer_spec hu
  exact ⟨((h.blk _ _ hg).2 u hm).2, hm, hv⟩

theorem loadCell_sound {ρ : Rho} {s : S} {w : World} (h : HR ρ s w) {a : Ad} {x : V} (e : loadCell s a = some x) :
    ∃ ad y, denA ρ a = some ad ∧ den ρ x = some y ∧ w.cell? ad = some y := by
  unfold loadCell at e
  split at e
  · rename_i el sb nv vers hg
    split at e
    · rename_i u hu
      cases hb : Nat.ble u.lo a.c with
      | false => simp [hb] at e
      | true =>
        simp only [hb, cond_true] at e
        have hle := Nat.le_of_ble_eq_true hb
        obtain ⟨⟨l, c, el', fz, h1, h2, h3, h4, h5, h6⟩, _, hv⟩ := h.ver hg hu
        rw [hv] at h1
        obtain ⟨y, hy, hy'⟩ := h6 _ _ e
        refine ⟨⟨l.b, a.c - l.base, none⟩, y, by simp [denA, h1]; omega, hy, ?_⟩
        simp only [World.cell?, h2]
        simp
        rw [← hy']; congr 1; omega
    · cases e
  · rename_i vers hg
    split at e
    · rename_i u hu
      cases hb : Nat.ble u.lo a.c with
      | false => simp [hb] at e
      | true =>
        simp only [hb, cond_true] at e
        have hle := Nat.le_of_ble_eq_true hb
        obtain ⟨hm, hv⟩ := findVer_spec hu
        obtain ⟨l, c, el', fz, h1, h2, h3, h6⟩ := h.blk _ _ hg u hm
        rw [hv] at h1
        obtain ⟨y, hy, hy'⟩ := h6 _ _ e
        refine ⟨⟨l.b, a.c - l.base, none⟩, y, by simp [denA, h1]; omega, hy, ?_⟩
        simp only [World.cell?, h2]
        simp
        rw [← hy']; congr 1; omega
    · cases e
  · cases e

theorem load_core {ρ : Rho} {w : World} {a : Ad} {n : Nat} {l : List V} {u : Ver} {lo : Loc} {c : Array Value} {el' : TypeId} {fz : Nat × Nat} (h1 : ρ a.f a.v = some lo) (h2 : w.heap[lo.b]? = some (.cells c el' fz)) (h3 : lo.base ≤ u.lo) (hle : u.lo ≤ a.c)
    (h6 : ∀ (i : Nat) (x : V), u.cells[i]? = some x → ∃ y, den ρ x = some y ∧ c[u.lo - lo.base + i]? = some y) (e : takeExact n (u.cells.drop (a.c - u.lo)) = some l) :
    ∃ ad ys, denA ρ a = some ad ∧ denL ρ l = some ys ∧ ys.length = n ∧ ∀ (j : Nat) (v : Value), ys[j]? = some v → w.cell? (ad.add j) = some v := by
  obtain ⟨rfl, hlen⟩ := takeExact_spec e
  have hcell : ∀ (j : Nat) (v : V), ((u.cells.drop (a.c - u.lo)).take n)[j]? = some v → ∃ y, den ρ v = some y ∧ c[a.c - lo.base + j]? = some y := fun j v hj => by
    have hj2 : j < n := by
      rcases Nat.lt_or_ge j n with h' | h'
      · exact h'
      · rw [List.getElem?_eq_none (by rw [List.length_take]; omega)] at hj; cases hj
    rw [List.getElem?_take_of_lt hj2, List.getElem?_drop] at hj
    obtain ⟨y, hy, hy'⟩ := h6 _ _ hj
    exact ⟨y, hy, by rw [← hy']; congr 1; omega⟩
  have hlen' : ((u.cells.drop (a.c - u.lo)).take n).length = n := by rw [List.length_take]; omega
  have hsz : n = 0 ∨ a.c - lo.base + n ≤ c.size := by
    rcases Nat.eq_zero_or_pos n with h0 | h0
    · exact .inl h0
    · right
      have hx : ∃ v, ((u.cells.drop (a.c - u.lo)).take n)[n - 1]? = some v := ⟨_, List.getElem?_eq_getElem (by omega)⟩
      obtain ⟨v, hv'⟩ := hx
      obtain ⟨y, _, hy'⟩ := hcell _ _ hv'
      have := (Array.getElem?_eq_some_iff.1 hy').1
      omega
  refine ⟨⟨lo.b, a.c - lo.base, none⟩, (c.toList.drop (a.c - lo.base)).take n, by simp [denA, h1]; omega, ?_, ?_, ?_⟩
  · refine denL_of_get ?_ fun i v hi => ?_
    · rw [hlen', List.length_take, List.length_drop, Array.length_toList]; rcases hsz with h0 | h0 <;> omega
    · obtain ⟨y, hy, hy'⟩ := hcell i v hi
      refine ⟨y, hy, ?_⟩
      have hi2 : i < n := by have := (List.getElem?_eq_some_iff.1 hi).1; omega
      rw [List.getElem?_take_of_lt hi2, List.getElem?_drop, Array.getElem?_toList]; exact hy'
  · rw [List.length_take, List.length_drop, Array.length_toList]; rcases hsz with h0 | h0 <;> omega
  · intro j v hj
    have hj2 : j < n := by
      rcases Nat.lt_or_ge j n with h' | h'
      · exact h'
      · rw [List.getElem?_eq_none (by rw [List.length_take]; omega)] at hj; cases hj
    rw [List.getElem?_take_of_lt hj2, List.getElem?_drop, Array.getElem?_toList] at hj
    have ha : (⟨lo.b, a.c - lo.base, none⟩ : Addr).add j = ⟨lo.b, a.c - lo.base + j, none⟩ := by
      unfold Addr.add; split
      · subst_vars; rfl
      · rfl
    rw [ha]
    simp only [World.cell?, h2]
    simpa using hj

theorem loadCells_sound {ρ : Rho} {s : S} {w : World} (h : HR ρ s w) {a : Ad} {n : Nat} {l : List V} (e : loadCells s a n = some l) :
    ∃ ad ys, denA ρ a = some ad ∧ denL ρ l = some ys ∧ ys.length = n ∧ ∀ (j : Nat) (v : Value), ys[j]? = some v → w.cell? (ad.add j) = some v := by
  unfold loadCells at e
  split at e
  · rename_i el sb nv vers hg
    split at e
    · rename_i u hu
      cases hb : Nat.ble u.lo a.c with
      | false => simp [hb] at e
      | true =>
        simp only [hb, cond_true] at e
        obtain ⟨⟨lo, c, el', fz, h1, h2, h3, h4, h5, h6⟩, _, hv⟩ := h.ver hg hu
        rw [hv] at h1
        exact load_core h1 h2 h3 (Nat.le_of_ble_eq_true hb) h6 e
    · cases e
  · rename_i vers hg
    split at e
    · rename_i u hu
      cases hb : Nat.ble u.lo a.c with
      | false => simp [hb] at e
      | true =>
        simp only [hb, cond_true] at e
        obtain ⟨hm, hv⟩ := findVer_spec hu
        obtain ⟨lo, c, el', fz, h1, h2, h3, h6⟩ := h.blk _ _ hg u hm
        rw [hv] at h1
        exact load_core h1 h2 h3 (Nat.le_of_ble_eq_true hb) h6 e
    · cases e
  · cases e

/- ---- new blocks ---- -/
def Rho.put (ρ : Rho) (f v : Nat) (l : Loc) : Rho := fun g u => if g = f ∧ u = v then some l else ρ g u

theorem Rho.put_same (ρ : Rho) (f v : Nat) (l : Loc) : ρ.put f v l f v = some l := by simp [Rho.put]
theorem Rho.le_put {ρ : Rho} {f v : Nat} (l : Loc) (h : ρ f v = none) : ρ.le (ρ.put f v l) := fun g u x hx => by
  unfold Rho.put
  rw [if_neg (fun e => by obtain ⟨rfl, rfl⟩ := e; rw [h] at hx; cases hx)]
  exact hx
theorem Rho.of_put {ρ : Rho} {f v g u : Nat} {l x : Loc} (h : ρ.put f v l g u = some x) : (g = f ∧ u = v ∧ x = l) ∨ ρ g u = some x := by
  unfold Rho.put at h
  split at h
  · rename_i e; cases h; exact .inl ⟨e.1, e.2, rfl⟩
  · exact .inr h

/-- What holds of a block holds on where its own real block, and those of the loops that it names, lie as they lay. -/
theorem BlkR.keep {ρ ρ' : Rho} {w w' : World} {f : Nat} {B : Blk} (h : BlkR ρ w f B) (he : ρ.le ρ') (hn : ∀ v, ρ f v = none → ρ' f v = none)
    (hh : ∀ v l, ρ f v = some l → w'.heap[l.b]? = w.heap[l.b]?) : BlkR ρ' w' f B := by
  cases B with
  | ro vers =>
    intro u hu
    obtain ⟨l, c, e, fz, h1, h2, h3, h4⟩ := h u hu
    refine ⟨l, c, e, fz, he _ _ _ h1, by rw [hh _ l h1]; exact h2, h3, fun i x hx => ?_⟩
    obtain ⟨y, hy, hy'⟩ := h4 i x hx
    exact ⟨y, den_mono he x y hy, hy'⟩
  | cells e sb nv vers =>
    exact ⟨fun v hv => hn v (h.1 v hv), fun u hu => ⟨(h.2 u hu).1, ((h.2 u hu).2.of_heap (fun l hl => hh _ l hl)).mono he⟩⟩
  | map es clock =>
    obtain ⟨l, rs, h1, h2, h3⟩ := h
    exact ⟨l, rs, he _ _ _ h1, by rw [hh _ l h1]; exact h2, h3.mono he⟩
  | gone => trivial
  | loop st pend fn t ps a b d nt =>
    obtain ⟨l, ld, tm, h1, h2, h3, h4⟩ := h
    exact ⟨l, ld, tm, he _ _ _ h1, he _ _ _ h2, h3.mono he, by rw [hh _ l h1]; exact h4⟩
  | deferred =>
    obtain ⟨l, h1, h2⟩ := h
    exact ⟨l, he _ _ _ h1, by rw [hh _ l h1]; exact h2⟩

theorem heap_alloc_lt (w : World) (o : Obj) {k : Nat} (h : k < w.heap.size) : (w.alloc o).heap[k]? = w.heap[k]? := by
  show (w.heap.push o)[k]? = _
  rw [Array.getElem?_push, if_neg (by omega)]
theorem heap_alloc_new (w : World) (o : Obj) : (w.alloc o).heap[w.heap.size]? = some o := by
  show (w.heap.push o)[w.heap.size]? = _
  simp

/-- A new block: whatever it is, once it is said what it stands for. -/
theorem HR.alloc {ρ : Rho} {s : S} {w : World} (h : HR ρ s w) (B : Blk) (o : Obj) (base lim : Nat) (hbl : base ≤ lim)
    (hB : BlkR (ρ.put s.next 0 ⟨w.heap.size, base, lim⟩) (w.alloc o) s.next B) :
    HR (ρ.put s.next 0 ⟨w.heap.size, base, lim⟩) (s.alloc B) (w.alloc o) ∧ FR ρ w (ρ.put s.next 0 ⟨w.heap.size, base, lim⟩) (w.alloc o) := by
  have hfree : ρ s.next 0 = none := h.fresh _ _ (Nat.le_refl _)
  refine ⟨⟨?_, ?_, ?_, ?_, ?_, ?_⟩, ⟨Rho.le_put _ hfree, by simp, rfl, rfl, rfl, ?_, ?_⟩⟩
  · intro f v hf
    rw [S.next_alloc] at hf
    unfold Rho.put
    rw [if_neg (by omega)]
    exact h.fresh f v (by omega)
  · intro f v l f' v' l' e e' hb
    rcases Rho.of_put e with ⟨rfl, rfl, rfl⟩ | e
    · rcases Rho.of_put e' with ⟨rfl, rfl, rfl⟩ | e'
      · exact ⟨rfl, rfl⟩
      · have := h.low _ _ _ e'; simp at hb; omega
    · rcases Rho.of_put e' with ⟨rfl, rfl, rfl⟩ | e'
      · have := h.low _ _ _ e; simp at hb; omega
      · exact h.inj _ _ _ _ _ _ e e' hb
  · intro f v l e
    rcases Rho.of_put e with ⟨rfl, rfl, rfl⟩ | e
    · simp
    · have := h.low _ _ _ e; simp; omega
  · intro f B' hg
    rw [S.get_alloc] at hg
    split at hg
    · rename_i e; cases hg; subst e; exact hB
    · rename_i hne
      refine (h.blk f B' hg).keep (Rho.le_put _ hfree) (fun v hv => ?_) (fun v l hl => heap_alloc_lt _ _ (h.low _ _ _ hl))
      unfold Rho.put; rw [if_neg (by omega)]; exact hv
  · intro f B' hg
    rw [S.get_alloc] at hg
    rw [S.next_alloc]
    split at hg
    · omega
    · exact Nat.lt_succ_of_lt (h.dom f B' hg)
  · intro f B' hg hnr v l hl
    rw [S.get_alloc] at hg
    rcases Rho.of_put hl with ⟨rfl, rfl, rfl⟩ | hl
    · show ¬ (lim < base); omega
    · split at hg
      · rename_i he; subst he; rw [h.fresh _ _ (Nat.le_refl _)] at hl; cases hl
      · exact h.rw f B' hg hnr v l hl
  · intro b hb _; exact heap_alloc_lt _ _ hb
  · intro f v l e hl
    rcases Rho.of_put e with ⟨rfl, rfl, rfl⟩ | e
    · simp at hl
    · exact ⟨f, v, l, e, rfl, id⟩

/-- A new block of cells. -/
theorem newCells_sound {ρ : Rho} {s : S} {w : World} (h : HR ρ s w) (sb : Bool) (elem elem' : TypeId) {cs : List V} {ys : Array Value} (hd : denL ρ cs = some (ys.toList.take cs.length)) (fz : Nat × Nat) (hfz : (sb = false → fz = (0, 0)) ∧ ∀ i, i < ys.size → ¬ (fz.1 ≤ i ∧ i < fz.2)) :
    ∃ ρ', ρ' s.next 0 = some ⟨w.heap.size, 0, ys.size⟩ ∧ HR ρ' (newCellsB sb s elem cs).2 (w.alloc (.cells ys elem' fz)) ∧ FR ρ w ρ' (w.alloc (.cells ys elem' fz)) := by
  have hfree : ρ s.next 0 = none := h.fresh _ _ (Nat.le_refl _)
  refine ⟨ρ.put s.next 0 ⟨w.heap.size, 0, ys.size⟩, Rho.put_same _ _ _ _, h.alloc (.cells elem sb 1 [⟨0, 0, cs⟩]) _ 0 ys.size (Nat.zero_le _) ?_⟩
  refine ⟨fun v hv => ?_, fun u hu => ?_⟩
  · unfold Rho.put; rw [if_neg (by omega)]; exact h.fresh _ _ (Nat.le_refl _)
  · simp at hu; subst hu
    refine ⟨Nat.zero_lt_one, ⟨w.heap.size, 0, ys.size⟩, ys, elem', fz, Rho.put_same _ _ _ _, heap_alloc_new _ _, Nat.le_refl _, by simp, hfz, fun i x hx => ?_⟩
    obtain ⟨y, hy, hy'⟩ := denL_get i hd hx
    refine ⟨y, den_mono (Rho.le_put _ hfree) _ _ hy, ?_⟩
    have hi : i < cs.length := (List.getElem?_eq_some_iff.1 hx).1
    rw [List.getElem?_take_of_lt hi, Array.getElem?_toList] at hy'
    simpa using hy'

/- ---- stores ---- -/
/-- Nothing but block b has turned. -/
structure But (w w' : World) (b : Nat) : Prop where
  size : w'.heap.size = w.heap.size
  os : w'.os = w.os
  tape : w'.tape = w.tape
  output : w'.output = w.output
  other : ∀ k, k ≠ b → w'.heap[k]? = w.heap[k]?

theorem But.trans {a b c : World} {k : Nat} (h : But a b k) (g : But b c k) : But a c k :=
  ⟨g.size.trans h.size, g.os.trans h.os, g.tape.trans h.tape, g.output.trans h.output, fun i hi => (g.other i hi).trans (h.other i hi)⟩

theorem store_run (P : Program) (b off : Nat) (e : TypeId) (fz : Nat × Nat) : ∀ (ys : List Value) (i : Nat) (c : Array Value) (w : World), w.heap[b]? = some (.cells c e fz) →
    (∀ k, k < c.size → ¬ (fz.1 ≤ k ∧ k < fz.2)) → off + i + ys.length ≤ c.size → (∀ v ∈ ys, v.oneCell' = true) →
    ∃ w' c', (Go.storeCells ⟨b, off, none⟩ ys i).run P w = .ok () w' ∧ But w w' b ∧ w'.heap[b]? = some (.cells c' e fz) ∧ c'.size = c.size ∧
      ∀ j, c'[j]? = if off + i ≤ j ∧ j < off + i + ys.length then ys[j - (off + i)]? else c[j]? := by
  intro ys
  induction ys with
  | nil =>
    intro i c w hw hfz hl h1
    exact ⟨w, c, rfl, ⟨rfl, rfl, rfl, rfl, fun _ _ => rfl⟩, hw, rfl, fun j => by rw [if_neg (by simp)]⟩
  | cons v r ih =>
    intro i c w hw hfz hl h1
    simp only [List.length_cons] at hl
    have ha : (⟨b, off, none⟩ : Addr).add i = ⟨b, off + i, none⟩ := by
      unfold Addr.add; split
      · subst_vars; rfl
      · rfl
    have hcell : w.cell? ⟨b, off + i, none⟩ = some (c[off + i]'(by omega)) := by
      simp only [World.cell?, hw]; simp [show off + i < c.size by omega]
    have hfr : w.frozen? ⟨b, off + i, none⟩ = false := by
      simp only [World.frozen?, hw]
      have := hfz (off + i) (by omega)
      simp; omega
    have hset : (w.setCell ⟨b, off + i, none⟩ v).heap[b]? = some (.cells (c.setIfInBounds (off + i) v) e fz) := by
      simp only [World.setCell, Array.getElem?_modify, if_true, hw]; simp
    obtain ⟨w', c', h2, h3, h4, h5, h6⟩ := ih (i + 1) (c.setIfInBounds (off + i) v) (w.setCell ⟨b, off + i, none⟩ v) hset
      (by simpa using hfz) (by simp; omega) (fun u hu => h1 u (List.mem_cons_of_mem _ hu))
    have hbut : But w (w.setCell ⟨b, off + i, none⟩ v) b := ⟨by simp, rfl, rfl, rfl, fun k hk => by simp only [World.setCell, Array.getElem?_modify]; rw [if_neg (fun e => hk e.symm)]⟩
    refine ⟨w', c', ?_, hbut.trans h3, h4, by simpa using h5, fun j => ?_⟩
    · simp only [Go.storeCells, Sem.run_bind, ha]
      rw [run_store P w _ v .plain (h1 v (by simp)), hcell]
      simp only [hfr, Bool.false_eq_true, if_false, Result.andThen_ok]
      exact h2
    · rw [h6 j]
      by_cases hj : off + (i + 1) ≤ j ∧ j < off + (i + 1) + r.length
      · rw [if_pos hj, if_pos (by simp; omega)]
        have : j - (off + i) = (j - (off + (i + 1))) + 1 := by omega
        rw [this]; simp
      · rw [if_neg hj]
        by_cases hj2 : j = off + i
        · subst hj2; rw [if_pos (by simp)]; simp [show off + i < c.size by omega]
        · rw [if_neg (by simp; omega)]; simp [Ne.symm hj2]

theorem overwrite_spec : ∀ {cs : List V} {n : Nat} {new out : List V}, overwrite cs n new = some out →
    out.length = cs.length ∧ (new = [] ∨ n + new.length ≤ cs.length) ∧ ∀ (j : Nat), out[j]? = if n ≤ j ∧ j < n + new.length then new[j - n]? else cs[j]?
  | cs, n, [], out, h => by
    have : out = cs := by cases cs <;> cases n <;> simp [overwrite] at h <;> first | exact h | exact h.symm
    subst this
    exact ⟨rfl, .inl rfl, fun j => by rw [if_neg (by simp)]⟩
  | [], n, y :: new, out, h => by cases n <;> simp [overwrite] at h
  | x :: r, n + 1, y :: new, out, h => by
    simp only [overwrite] at h
    cases hr : overwrite r n (y :: new) with
    | none => simp [hr] at h
    | some q =>
      simp [hr] at h
      subst h
      obtain ⟨h1, h2, h3⟩ := overwrite_spec hr
      refine ⟨by simp [h1], .inr (by rcases h2 with h2 | h2 <;> simp at h2 ⊢; omega), fun j => ?_⟩
      cases j with
      | zero => rw [if_neg (by omega)]; rfl
      | succ j =>
        simp only [List.getElem?_cons_succ]
        rw [h3 j]
        by_cases hj : n ≤ j ∧ j < n + (y :: new).length
        · rw [if_pos hj, if_pos (by omega)]; congr 1; omega
        · rw [if_neg hj, if_neg (by omega)]
  | x :: r, 0, y :: new, out, h => by
    simp only [overwrite] at h
    cases hr : overwrite r 0 new with
    | none => simp [hr] at h
    | some q =>
      simp [hr] at h
      subst h
      obtain ⟨h1, h2, h3⟩ := overwrite_spec hr
      refine ⟨by simp [h1], .inr (by rcases h2 with h2 | h2 <;> simp [h2] <;> simp at h2 <;> omega), fun j => ?_⟩
      cases j with
      | zero => rw [if_pos (by simp)]; rfl
      | succ j =>
        simp only [List.getElem?_cons_succ]
        rw [h3 j]
        by_cases hj : 0 ≤ j ∧ j < 0 + new.length
        · rw [if_pos hj, if_pos (by simp; omega)]; simp
        · rw [if_neg hj, if_neg (by simp; omega)]

/-- One block has turned, and what it stands for. -/
theorem HR.turn {ρ : Rho} {s : S} {w w' : World} (h : HR ρ s w) {f v : Nat} {l : Loc} (hl : ρ f v = some l) {B0 : Blk} (hB0 : s.get f = some B0) (hnr : ∀ vers, B0 ≠ .ro vers) (hb : But w w' l.b) (B : Blk) (hB : BlkR ρ w' f B) :
    HR ρ (s.put f B) w' ∧ FR ρ w ρ w' := by
  refine ⟨⟨fun g u hg => h.fresh g u (by rw [S.next_put] at hg; exact hg), h.inj, fun g u x hx => by rw [hb.size]; exact h.low g u x hx, fun g B' hg => ?_, fun g B' hg => ?_, fun g B' hg hnr' u x hx => ?_⟩,
    ⟨ρ.le_refl, by rw [hb.size]; exact Nat.le_refl _, hb.os, hb.tape, hb.output, fun k hk hn => hb.other k (fun e => hn _ _ _ hl (h.rw f B0 hB0 hnr _ _ hl) e.symm), fun g u x hx _ => ⟨g, u, x, hx, rfl, id⟩⟩⟩
  · rw [S.get_put] at hg
    split at hg
    · rename_i e; cases hg; subst e; exact hB
    · rename_i hne
      exact (h.blk g B' hg).keep ρ.le_refl (fun _ hv => hv) (fun u x hx => hb.other _ (fun e => hne (h.inj _ _ _ _ _ _ hl hx e.symm).1))
  · rw [S.get_put] at hg
    rw [S.next_put]
    split at hg
    · rename_i e; subst e
      exact Nat.lt_of_not_le fun hc => by have := h.fresh f v hc; rw [hl] at this; cases this
    · exact h.dom g B' hg
  · rw [S.get_put] at hg
    split at hg
    · rename_i e; subst e; exact h.rw f B0 hB0 hnr u x hx
    · exact h.rw g B' hg hnr' u x hx

theorem storeCells_sound {ρ : Rho} {s s' : S} {w : World} (P : Program) (h : HR ρ s w) {a : Ad} {new : List V} {ys : List Value} (e : storeCells s a new = some s') (hd : denL ρ new = some ys) :
    ∃ ad w', denA ρ a = some ad ∧ (Go.storeCells ad ys).run P w = .ok () w' ∧ HR ρ s' w' ∧ FR ρ w ρ w' := by
  unfold storeCells at e
  split at e
  · rename_i el sb nv vers hg
    split at e
    · rename_i u hu
      cases hb : (Nat.ble u.lo a.c && new.all V.one) with
      | false => simp [hb] at e
      | true =>
        simp only [hb, cond_true] at e
        simp only [Bool.and_eq_true] at hb
        have hle := Nat.le_of_ble_eq_true hb.1
        split at e
        · rename_i cs hcs
          cases e
          obtain ⟨⟨l, c, el', fz, h1, h2, h3, h4, h5, h6⟩, hmem, hv⟩ := h.ver hg hu
          have h1' := h1
          rw [hv] at h1
          obtain ⟨hlen, hfit, hget⟩ := overwrite_spec hcs
          have hyl := denL_length hd
          have hone : ∀ y ∈ ys, y.oneCell' = true := fun y hy => by
            obtain ⟨i, hi⟩ := List.getElem?_of_mem hy
            have hi2 : i < new.length := by have := (List.getElem?_eq_some_iff.1 hi).1; omega
            obtain ⟨z, hz, hz'⟩ := denL_get i hd (List.getElem?_eq_getElem hi2)
            rw [hi] at hz'; cases hz'
            exact one_of_den hz (List.all_eq_true.1 hb.2 _ (List.getElem_mem hi2))
          have hroom : new = [] ∨ a.c - l.base + 0 + ys.length ≤ c.size := by
            rcases hfit with h0 | hfit
            · exact .inl h0
            · rcases Nat.eq_zero_or_pos new.length with h0 | h0
              · exact .inl (List.length_eq_zero_iff.1 h0)
              · right
                have hlast : (a.c - u.lo) + (new.length - 1) < u.cells.length := by omega
                obtain ⟨y, _, hy'⟩ := h6 _ _ (List.getElem?_eq_getElem hlast)
                have := (Array.getElem?_eq_some_iff.1 hy').1
                omega
          have hden : denA ρ a = some ⟨l.b, a.c - l.base, none⟩ := by simp [denA, h1]; omega
          rcases hroom with h0 | hroom
          · subst h0
            have : ys = [] := by cases hd; rfl
            subst this
            have hsame : cs = u.cells := List.ext_getElem? fun j => by rw [hget j, if_neg (by simp)]
            refine ⟨_, w, hden, rfl, ?_⟩
            refine h.turn h1 hg (fun _ h => by cases h) ⟨rfl, rfl, rfl, rfl, fun _ _ => rfl⟩ _ ⟨(h.blk _ _ hg).1, fun u' hu' => ?_⟩
            simp at hu'; subst hu'
            exact ⟨((h.blk _ _ hg).2 u hmem).1, l, c, el', fz, h1', h2, h3, h4, h5, by rw [hsame]; exact h6⟩
          · obtain ⟨w', c', g1, g2, g3, g4, g5⟩ := store_run P l.b (a.c - l.base) el' fz ys 0 c w h2 h5.2 hroom hone
            refine ⟨_, w', hden, g1, h.turn h1 hg (fun _ h => by cases h) g2 _ ⟨(h.blk _ _ hg).1, fun u' hu' => ?_⟩⟩
            simp at hu'; subst hu'
            refine ⟨((h.blk _ _ hg).2 u hmem).1, l, c', el', fz, h1', g3, h3, by rw [g4]; exact h4, by rw [g4]; exact h5, fun i x hx => ?_⟩
            simp only at hx ⊢
            rw [hget i] at hx
            rw [g5]
            by_cases hj : a.c - u.lo ≤ i ∧ i < a.c - u.lo + new.length
            · rw [if_pos hj] at hx
              rw [if_pos (by omega)]
              obtain ⟨y, hy, hy'⟩ := denL_get _ hd hx
              exact ⟨y, hy, by rw [← hy']; congr 1; omega⟩
            · rw [if_neg hj] at hx
              rw [if_neg (by omega)]
              exact h6 i x hx
        · cases e
    · cases e
  · cases e

end Go.AI
