/- From the row to the evaluator: part 1. No conditions beyond those of the row. -/
import Derived.Test.YtkeaedhoaamfnaaGreatDoorL9
import Derived.Deep.Slices
import GoSem.ClaimJoined
import Derived.ChangeArms
import Derived.DataReads
import Derived.OpenShut
import Derived.Test.YtkeaedhoaamfnaaGreatDoorRows
import Derived.WalkKit
import Derived.ProofKit
import Derived.Lay
import Derived.Deep.DeepHandedRow
set_option linter.unusedVariables false
set_option linter.unusedSimpArgs false
noncomputable section
namespace Go.AI.Inf
open Go.Proofs Go.AI.Lx
inductive Ck where
 | bool | int | str | sl (t : Nat)
def NQ : Nat → List Ck
 | 22 => [.str]
 | 23 => [.str, .sl 23]
 | 36 => [.str, .str, .sl 23]
 | _ => []
def JT : List Nat := [22, 23, 36]
def rL (t i : Nat) : Ck := (NQ t).getD (i % (NQ t).length) .bool
def bytesOf (s : ByteArray) : List Nat := s.data.toList.map UInt8.toNat
theorem Ju (s : ByteArray) : ar (bytesOf s) = s := by
 obtain ⟨a⟩ := s
 simp only [ar, bytesOf, List.map_map]
 congr 1
 have : (UInt8.ofNat ∘ UInt8.toNat) = id := by funext x; simp
 rw [this, List.map_id]
theorem DD (s : ByteArray) : Bytes (bytesOf s) := by
 intro b hb
 simp only [bytesOf, List.mem_map] at hb
 obtain ⟨x, _, rfl⟩ := hb
 exact x.toNat_lt
def EI : Option Nat → Nat
 | none => 0
 | some n => n + 1
theorem Fa (o : Option Nat) : Hj (EI o) = o := by cases o <;> rfl
def DP (N t : Nat) (a : Addr) (len cap : Nat) : Option V :=
 if cap = 0 then (if len = 0 then some (.slice ⟨a.block, EI a.spot, a.off⟩ 0 0 (some 0) 0) else none)
 else if a.spot = none ∧ len ≤ cap ∧ a.block < N ∧ 0 < (NQ t).length then some (.slice ⟨a.block, a.off * 128 + t, 1 + a.off⟩ 0 len (some cap) (NQ t).length) else none
def ov (N : Nat) : Ck → Value → Option V
 | .bool, .bool b => some (.bool b)
 | .int, .int .i64 n => some (.int .i64 n)
 | .str, .string s => some (.str (bytesOf s))
 | .sl _, .slice none 0 0 => some .nilslice
 | .sl t, .slice (some a) len cap => DP N t a len cap
 | _, _ => none
def Ro (N : Nat) : aq := fun f _ => if f < N then some ⟨f, 1, 0⟩ else none
theorem Dm {N : Nat} {k : Ck} {v : Value} {x : V} (h : ov N k v = some x) : den (Ro N) x = some v := by
 unfold ov at h
 split at h
 ·cases h; rfl
 ·cases h; rfl
 ·cases h; simp only [den, Ju]
 ·cases h; rfl
 ·rename_i t a len cap
  unfold DP at h
  split at h
  ·rename_i hc
   split at h
   ·rename_i hl
    cases h; subst hc; subst hl
    simp only [den, jW, if_true, and_self, Fa]
   ·cases h
  ·split at h
   ·rename_i hc
    obtain ⟨h1, h2, h3, h4⟩ := hc
    cases h
    have hr : Ro N a.block (a.off * 128 + t) = some ⟨a.block, 1, 0⟩ := by simp [Ro, h3]
    have := dN (ρ := Ro N) (a := ⟨a.block, a.off * 128 + t, 1 + a.off⟩) (z := 0) (len := len) (cap := some cap) (sz := (NQ t).length) hr (by simp [bm]) (by simp) (by simpa [cC] using h2) h4
    rw [this]
    obtain ⟨b, o, sp⟩ := a
    simp only at h1
    subst h1
    simp [bm, cC]
   ·cases h
 ·cases h
def iX (N t : Nat) : Nat → List Value → List V
 | _, [] => []
 | i, c :: r => match ov N (rL t i) c with
  | some x => x :: iX N t (i + 1) r
  | none => []
theorem wu {N t : Nat} : ∀ (i : Nat) (cs : List Value) (j : Nat) (x : V), (iX N t i cs)[j]? = some x → ∃ y, den (Ro N) x = some y ∧ cs[j]? = some y
 | i, [], j, x, h => by simp [iX] at h
 | i, c :: r, j, x, h => by
  simp only [iX] at h
  split at h
  ·rename_i x' hx
   cases j with
   | zero => simp at h; subst h; exact ⟨c, Dm hx, rfl⟩
   | succ j => exact wu (i + 1) r j x (by simpa using h)
  ·simp at h
def Jy (N : Nat) : Value → Option V
 | .int k n => some (.int k n)
 | .nilIface => some .nilIface
 | .iface te (.pointer (some ⟨b, off, none⟩)) => if b < N then some (.iface te (.ptr ⟨b, 0, 1 + off⟩)) else none
 | _ => none
theorem Ma {N : Nat} {v : Value} {x : V} (h : Jy N v = some x) : den (Ro N) x = some v := by
 unfold Jy at h
 split at h
 ·cases h; rfl
 ·cases h; rfl
 ·rename_i te b off
  split at h
  ·rename_i hb
   cases h
   have hr : Ro N b 0 = some ⟨b, 1, 0⟩ := by simp [Ro, hb]
   simp only [den, iq, hr]
   simp
  ·cases h
 ·cases h
def jZ (N : Nat) : List Value → Option (List V)
 | [] => some []
 | c :: r => match Jy N c with
  | some x => match jZ N r with
   | some l => some (x :: l)
   | none => none
  | none => none
theorem ww {N : Nat} : ∀ {l : List Value} {m : List V}, jZ N l = some m → m.length = l.length ∧ ∀ (i : Nat) (x : V), m[i]? = some x → ∃ y, den (Ro N) x = some y ∧ l[i]? = some y
 | [], m, h => by cases h; exact ⟨rfl, fun i x h => by simp at h⟩
 | c :: r, m, h => by
  simp only [jZ] at h
  split at h
  ·rename_i x hx
   split at h
   ·rename_i l hl
    cases h
    obtain ⟨h1, h2⟩ := ww hl
    refine ⟨by simp [h1], fun i z hz => ?_⟩
    cases i with
    | zero => simp at hz; subst hz; exact ⟨c, Ma hx, rfl⟩
    | succ i => simpa using h2 i z (by simpa using hz)
   ·cases h
  ·cases h
def ub (N : Nat) (c : List Value) : List mH := match jZ N c with
 | some l => [⟨127, 1, l⟩]
 | none => []
def rb (N : Nat) (c : List Value) : List mH := ub N c ++ (List.range c.length).flatMap fun off => JT.map fun t => ⟨off * 128 + t, 1 + off, iX N t 0 (c.drop off)⟩
def zf (N : Nat) : Option Obj → bP
 | some (.cells c _ _) => .ro (rb N c.toList)
 | _ => .ro []
theorem vI {v : Nat} {u : mH} : ∀ {vers : List mH}, u ∈ vers → u.v = v → (∀ u' ∈ vers, u'.v = v → u' = u) → bg vers v = some u
 | [], h, _, _ => by cases h
 | w :: r, h, hv, hu => by
  simp only [bg]
  cases hb : Nat.beq w.v v with
  | true => rw [hu w (by simp) (Nat.eq_of_beq_eq_true hb)]; rfl
  | false =>
   rcases List.mem_cons.1 h with rfl | h
   ·rw [hv, Nat.beq_refl] at hb; cases hb
   ·exact vI h hv fun u' hu' => hu u' (List.mem_cons_of_mem _ hu')
theorem JS {t : Nat} (h : t ∈ JT) : t < 128 := by
 simp [JT] at h; omega
theorem GL {N : Nat} {c : List Value} {u : mH} (h : u ∈ ub N c) : u.v = 127 ∧ u.lo = 1 ∧ jZ N c = some u.cells := by
 unfold ub at h
 split at h
 ·rename_i l hl
  simp at h; subst h; exact ⟨rfl, rfl, hl⟩
 ·cases h
theorem KT {N : Nat} {c : List Value} {u : mH} (h : u ∈ (List.range c.length).flatMap fun off => JT.map fun t => (⟨off * 128 + t, 1 + off, iX N t 0 (c.drop off)⟩ : mH)) : ∃ off t, off < c.length ∧ t ∈ JT ∧ u = ⟨off * 128 + t, 1 + off, iX N t 0 (c.drop off)⟩ := by
 simp only [List.mem_flatMap, List.mem_range, List.mem_map] at h
 obtain ⟨o, h1, t, h2, rfl⟩ := h
 exact ⟨o, t, h1, h2, rfl⟩
theorem JR {t off : Nat} (h : t ∈ JT) : off * 128 + t ≠ 127 := by
 simp [JT] at h; omega
theorem AB {N : Nat} {c : List Value} {off t : Nat} (h : off < c.length) (ht : t ∈ JT) : bg (rb N c) (off * 128 + t) = some ⟨off * 128 + t, 1 + off, iX N t 0 (c.drop off)⟩ := by
 refine vI (List.mem_append_right _ ?_) rfl ?_
 ·simp only [List.mem_flatMap, List.mem_range, List.mem_map]
  exact ⟨off, h, t, ht, rfl⟩
 ·intro u' hu' hv
  rcases List.mem_append.1 hu' with hu' | hu'
  ·rw [(GL hu').1] at hv
   exact absurd hv.symm (JR ht)
  ·obtain ⟨o, t', ho, ht', rfl⟩ := KT hu'
   simp only at hv
   have h1 := JS ht
   have h2 := JS ht'
   obtain rfl : o = off := by omega
   obtain rfl : t' = t := by omega
   rfl
theorem xd {N : Nat} {c : List Value} {l : List V} (h : jZ N c = some l) : bg (rb N c) 127 = some ⟨127, 1, l⟩ := by
 have : ub N c = [⟨127, 1, l⟩] := by unfold ub; rw [h]
 unfold rb
 rw [this]
 rfl
def Qf (N : Nat) (W : World) : Nat → S
 | 0 => ⟨.leaf, 0⟩
 | n + 1 => (Qf N W n).alloc (zf N W.heap[n]?)
theorem qp (N : Nat) (W : World) : ∀ n, (Qf N W n).next = n
 | 0 => rfl
 | n + 1 => by simp only [Qf, S.next_alloc, qp N W n]
theorem tH (N : Nat) (W : World) : ∀ n f, (Qf N W n).get f = if f < n then some (zf N W.heap[f]?) else none
 | 0, f => by simp only [Qf, S.get_eq, T.get_leaf]; simp
 | n + 1, f => by
  simp only [Qf, S.get_alloc, qp, tH N W n f]
  by_cases hf : n = f
  ·subst hf; simp
  ·by_cases h2 : f < n
   ·simp [hf, h2, show f < n + 1 by omega]
   ·simp [hf, h2, show ¬ f < n + 1 by omega]
def cD (W : World) : S := Qf W.heap.size W W.heap.size
theorem uu {W : World} {f : Nat} {B : bP} (h : (cD W).get f = some B) : f < W.heap.size ∧ B = zf W.heap.size W.heap[f]? := by
 unfold cD at h
 rw [tH] at h
 split at h
 ·rename_i hf; exact ⟨hf, by cases h; rfl⟩
 ·cases h
theorem Mu (N : Nat) (o : Option Obj) : ∃ vs, zf N o = .ro vs := by
 unfold zf
 split
 ·exact ⟨_, rfl⟩
 ·exact ⟨_, rfl⟩
theorem GT (W : World) : HR (Ro W.heap.size) (cD W) W := by
 refine ⟨?_, ?_, ?_, ?_, ?_, ?_⟩
 ·intro f v hf
  unfold cD at hf
  rw [qp] at hf
  simp [Ro, show ¬ f < W.heap.size by omega]
 ·intro f v l f' v' l' e e' hb
  unfold Ro at e e'
  split at e
  ·split at e'
   ·cases e; cases e'; exact ⟨hb, rfl⟩
   ·cases e'
  ·cases e
 ·intro f v l e
  unfold Ro at e
  split at e
  ·rename_i hf; cases e; exact hf
  ·cases e
 ·intro f B hB
  obtain ⟨hf, rfl⟩ := uu hB
  unfold zf
  split
  ·rename_i c e fz ho
   intro u hu
   have hr : ∀ v, Ro W.heap.size f v = some ⟨f, 1, 0⟩ := fun v => by simp [Ro, hf]
   rcases List.mem_append.1 hu with hu | hu
   ·obtain ⟨h1, h2, h3⟩ := GL hu
    obtain ⟨h4, h5⟩ := ww h3
    refine ⟨⟨⟨f, 1, 0⟩, c, e, fz, hr _, ho, by simp [h2], fun i x hx => ?_⟩, ⟨⟨f, 1, 0⟩, c, e, fz, hr _, rfl, ho, fun _ => ⟨h2.symm, by rw [h4, Array.length_toList]⟩⟩⟩
    obtain ⟨y, h6, h7⟩ := h5 i x hx
    refine ⟨y, h6, ?_⟩
    rw [Array.getElem?_toList] at h7
    rw [h2]
    simpa using h7
   ·obtain ⟨off, t, hoff, ht, rfl⟩ := KT hu
    refine ⟨⟨⟨f, 1, 0⟩, c, e, fz, hr _, ho, by simp, fun i x hx => ?_⟩, ⟨⟨f, 1, 0⟩, c, e, fz, hr _, rfl, ho, fun hv => absurd hv (JR ht)⟩⟩
    obtain ⟨y, h1, h2⟩ := wu 0 _ i x hx
    refine ⟨y, h1, ?_⟩
    rw [List.getElem?_drop, Array.getElem?_toList] at h2
    simp only
    rw [show 1 + off - 1 + i = off + i by omega]
    exact h2
  ·intro u hu; cases hu
 ·intro f B hB
  have := (uu hB).1
  unfold cD
  rw [qp]; exact this
 ·intro f B hB hn
  obtain ⟨_, rfl⟩ := uu hB
  obtain ⟨vs, hv⟩ := Mu W.heap.size W.heap[f]?
  exact absurd hv (hn vs)
theorem Nw (W : World) : WF (cD W) := (GT W).dom
end Go.AI.Inf
namespace Go.AI.Inf
open Go.Proofs Go.Proofs.YtkeaedhoaamfnaaGreatDoor Go.AI.Lx Go.ChangeShapes
def gy (N : Nat) : List Ck → List Value → List V → Prop
 | [], [], [] => True
 | k :: ks, c :: cs, x :: xs => ov N k c = some x ∧ gy N ks cs xs
 | _, _, _ => False
theorem gy.get {N : Nat} : ∀ {ks : List Ck} {cs : List Value} {l : List V}, gy N ks cs l → ks.length = l.length ∧ cs.length = l.length ∧ ∀ (j : Nat) (x : V), l[j]? = some x → ∃ y, cs[j]? = some y ∧ ov N (ks.getD j .bool) y = some x
 | [], [], [], _ => ⟨rfl, rfl, fun j x h => by simp at h⟩
 | k :: ks, c :: cs, x :: xs, h => by
  obtain ⟨h1, h2, h3⟩ := gy.get h.2
  refine ⟨by simp [h1], by simp [h2], fun j z hz => ?_⟩
  cases j with
  | zero => simp at hz; subst hz; exact ⟨c, rfl, h.1⟩
  | succ j => simpa using h3 j z (by simpa using hz)
 | [], [], _ :: _, h => h.elim
 | [], _ :: _, _, h => h.elim
 | _ :: _, [], _, h => h.elim
 | _ :: _, _ :: _, [], h => h.elim
theorem gy.den {N : Nat} : ∀ {ks : List Ck} {cs : List Value} {l : List V}, gy N ks cs l → aY (Ro N) l = some cs
 | [], [], [], _ => rfl
 | k :: ks, c :: cs, x :: xs, h => by simp only [aY, Dm h.1, gy.den h.2]
 | [], [], _ :: _, h => h.elim
 | [], _ :: _, _, h => h.elim
 | _ :: _, [], _, h => h.elim
 | _ :: _, _ :: _, [], h => h.elim
theorem MI {N : Nat} {k : Ck} {v : Value} {x : V} (h : ov N k v = some x) : x.one = true := by
 unfold ov at h
 split at h
 ·cases h; rfl
 ·cases h; rfl
 ·cases h; rfl
 ·cases h; rfl
 ·unfold DP at h
  (repeat' split at h) <;> first | (cases h; done) | (cases h; rfl)
 ·cases h
theorem gy.one {N : Nat} : ∀ {ks : List Ck} {cs : List Value} {l : List V}, gy N ks cs l → l.all V.one = true
 | [], [], [], _ => rfl
 | k :: ks, c :: cs, x :: xs, h => by simp only [List.all_cons, MI h.1, gy.one h.2, Bool.and_self]
 | [], [], _ :: _, h => h.elim
 | [], _ :: _, _, h => h.elim
 | _ :: _, [], _, h => h.elim
 | _ :: _, _ :: _, [], h => h.elim
section
variable {H : Type} {enc : TypeId × Value → H} {W : World} {fuel : Nat} {t : TypeId} {cs : List Value} {x : DataW H × List MemPlace}
abbrev Td (enc : TypeId × Value → H) (W : World) (fuel : Nat) (t : TypeId) (cs : List Value) : Option (DataW H × List MemPlace) := DataW.trod enc Tryz.prog W 0 (fun _ => true) true fuel t cs
theorem Qm (ht : Tryz.prog.underlying t = some .string) (h : Td enc W fuel t cs = some x) : ∃ b, cs = [.string b] := by
 cases fuel with
 | zero => simp [Td, DataW.trod] at h
 | succ n =>
  unfold Td DataW.trod at h
  rw [ht] at h
  split at h <;> simp_all
theorem wk {α : Type} {Q : Nat → α → Prop} : ∀ (n : Nat), (∀ k, k < n → ∃ z, Q k z) → ∃ xs : List α, xs.length = n ∧ ∀ k z, xs[k]? = some z → Q k z
 | 0, _ => ⟨[], rfl, fun k z h => by simp at h⟩
 | n + 1, h => by
  obtain ⟨xs, h1, h2⟩ := wk n fun k hk => h k (by omega)
  obtain ⟨z, hz⟩ := h n (by omega)
  refine ⟨xs ++ [z], by simp [h1], fun k y hy => ?_⟩
  by_cases hk : k < n
  ·rw [List.getElem?_append_left (by omega)] at hy; exact h2 k y hy
  ·have hk : k = n := by
    have := (List.getElem?_eq_some_iff.1 hy).1
    simp at this; omega
   subst hk
   rw [List.getElem?_append_right (by omega)] at hy
   simp [h1] at hy; subst hy; exact hz
end
section
variable {H : Type} {enc : TypeId × Value → H} {W : World}
def Wt (t : TypeId) (d : DataW H) : Prop := ∀ n ∈ DataW.weights Tryz.prog t d, n ≤ reachBytes
theorem mO {e : TypeId} : ∀ {ds : List (DataW H)} {d : DataW H}, d ∈ ds → ∀ n ∈ DataW.weights Tryz.prog e d, n ∈ DataW.weightsAll Tryz.prog e ds
 | [], _, h, _, _ => by cases h
 | x :: r, d, h, n, hn => by
  rw [DataW.weightsAll]
  rcases List.mem_cons.1 h with rfl | h
  ·exact List.mem_append_left _ hn
  ·exact List.mem_append_right _ (mO h n hn)
theorem jz : ∀ {ts : List TypeId} {ds : List (DataW H)} {i : Nat} {t : TypeId} {d : DataW H}, ts[i]? = some t → ds[i]? = some d → ∀ n ∈ DataW.weights Tryz.prog t d, n ∈ DataW.weightsEach Tryz.prog ts ds
 | [], _, i, _, _, h, _, _, _ => by simp at h
 | _ :: _, [], i, _, _, _, h, _, _ => by simp at h
 | t :: ts, d :: ds, 0, _, _, h, k, n, hn => by
  simp at h k; subst h; subst k
  rw [DataW.weightsEach]
  exact List.mem_append_left _ hn
 | t :: ts, d :: ds, i + 1, _, _, h, k, n, hn => by
  rw [DataW.weightsEach]
  exact List.mem_append_right _ (jz (ts := ts) (ds := ds) (i := i) (by simpa using h) (by simpa using k) n hn)
theorem zh {N t : Nat} : ∀ (m i : Nat) (cs : List Value), (∀ j, j < m → ∃ y x, cs[j]? = some y ∧ ov N (rL t (i + j)) y = some x) →
 ∀ j, j < m → ∀ y x, cs[j]? = some y → ov N (rL t (i + j)) y = some x → (iX N t i cs)[j]? = some x
 | 0, i, cs, _, j, hj, _, _, _, _ => by omega
 | m + 1, i, [], h, j, hj, _, _, e, _ => by simp at e
 | m + 1, i, c :: cs, h, j, hj, y, x, e, k => by
  obtain ⟨y0, x0, h1, h2⟩ := h 0 (by omega)
  simp at h1; subst h1
  simp only [Nat.add_zero] at h2
  simp only [iX, h2]
  cases j with
  | zero =>
   simp at e; subst e
   simp only [Nat.add_zero] at k
   rw [h2] at k; cases k; rfl
  | succ j =>
   have ih := zh m (i + 1) cs (fun j hj => by
    obtain ⟨y, x, h3, h4⟩ := h (j + 1) (by omega)
    exact ⟨y, x, by simpa using h3, by rw [show i + 1 + j = i + (j + 1) by omega]; exact h4⟩) j (by omega) y x (by simpa using e) (by rw [show i + 1 + j = i + (j + 1) by omega]; exact k)
   simpa using ih
theorem DA {w : World} {a : Addr} {v : Value} (h : w.cell? a = some v) : ∃ c e fz, w.heap[a.block]? = some (.cells c e fz) ∧ a.spot = none ∧ c[a.off]? = some v := by
 unfold World.cell? at h
 split at h
 ·rename_i c e fz hh
  split at h
  ·cases h
  ·rename_i hs
   refine ⟨c, e, fz, hh, ?_, h⟩
   cases hsp : a.spot with
   | none => rfl
   | some n => rw [hsp] at hs; simp at hs
 ·cases h
def TS {α : Type} (rd : α → List V → Prop) (xs : List α) (css : List (List V)) : Prop := css.length = xs.length ∧ ∀ (i : Nat) (x : α) (l : List V), xs[i]? = some x → css[i]? = some l → rd x l
theorem mP : ∀ (l : List V) (n : Nat), n ≤ l.length → aO n l = some (l.take n)
 | l, 0, _ => by cases l <;> rfl
 | [], n + 1, h => by simp at h
 | x :: r, n + 1, h => by simp only [aO, mP r n (by simpa using h), Option.map, List.take_succ_cons]
theorem Hh {α : Type} {ty e sz : Nat} {rd : α → List V → Prop} (hu : Tryz.prog.underlying ty = some (.slice e)) (hc : Tryz.prog.cellsOf e = sz) (hs : size Tryz.prog e = some sz) (hty : ty ∈ JT)
 (hl : (NQ ty).length = sz) (h0 : 0 < sz) (hb : 0 < Tryz.prog.bytesOf e) {fuel : Nat} {cs : List Value} {x : DataW H × List MemPlace} (h : Td enc W fuel ty cs = some x) (hw : Wt ty x.1)
 (hel : ∀ n cells y, fuel = n + 1 → Td enc W n e cells = some y → Wt e y.1 → ∃ (a : α) (l : List V), gy W.heap.size (NQ ty) cells l ∧ rd a l) :
 ∃ c v xs css, cs = [c] ∧ ov W.heap.size (.sl ty) c = some v ∧ jq (Ex (cD W)) sz v css ∧ TS rd xs css := by
 rcases DataW.trod_slice hu h with ⟨rfl, _⟩ | ⟨a, len, cap, elems, rest, n, hn, rfl, hx, _, hle, _, hlen, hel', hsp, _⟩
 ·exact ⟨_, .nilslice, [], [], rfl, rfl, .nil, rfl, fun i x l h => by simp at h⟩
 ·subst hn
  by_cases hcap : cap = 0
  ·obtain rfl : len = 0 := by omega
   subst hcap
   exact ⟨_, .slice ⟨a.block, EI a.spot, a.off⟩ 0 0 (some 0) 0, [], [], rfl, by simp [ov, DP], .zero _ _ _, rfl, fun i x l h => by simp at h⟩
  ·obtain ⟨hrl, hre⟩ := hsp rfl
   have hwe : ∀ y, y ∈ elems → Wt e y.1 := fun y hy m hm => by
    refine hw m ?_
    rw [hx]
    simp only [DataW.weights, hu]
    exact List.mem_cons_of_mem _ (List.mem_append_left _ (mO (List.mem_map_of_mem hy) m hm))
   have hbn : len * Tryz.prog.bytesOf e ≤ reachBytes := by
    have := hw ((elems.length + rest.length) * Tryz.prog.bytesOf e) (by rw [hx]; simp only [DataW.weights, hu, List.length_map]; exact List.mem_cons_self)
    refine Nat.le_trans (Nat.mul_le_mul_right _ ?_) this
    omega
   have hfirst : ∃ cells, W.cells? 0 (a.add 0) sz = some cells := by
    by_cases h1 : 0 < len
    ·have := hel' 0 h1
     rw [Nat.zero_mul, hc, List.getElem?_eq_getElem (by omega)] at this
     obtain ⟨cells, h2, _⟩ := Option.bind_eq_some_iff.1 this
     exact ⟨cells, h2⟩
    ·have := hre 0 (by omega)
     rw [show (len + 0) * Tryz.prog.cellsOf e = 0 by rw [show len = 0 by omega]; simp, hc, List.getElem?_eq_getElem (by omega)] at this
     obtain ⟨cells, h2, _⟩ := Option.bind_eq_some_iff.1 this
     exact ⟨cells, h2⟩
   obtain ⟨c0, hc0⟩ := hfirst
   obtain ⟨_, hc1, hc2⟩ := World.cells?_some hc0
   have hcell := hc2 0 h0
   rw [List.getElem?_eq_getElem (by omega)] at hcell
   simp only [Addr.add, if_true] at hcell
   obtain ⟨carr, e', fz, hheap, hspot, hcell⟩ := DA hcell
   obtain ⟨b, off, spot⟩ := a
   simp only at hspot hheap hcell
   subst hspot
   have hblk : b < W.heap.size := by
    have := (Array.getElem?_eq_some_iff.1 hheap).1
    exact this
   have hoff : off < carr.size := (Array.getElem?_eq_some_iff.1 hcell).1
   obtain ⟨zs, hzl, hz⟩ := wk (Q := fun k (z : α × List V) => ∃ cells, W.cells? 0 ((⟨b, off, none⟩ : Addr).add (k * sz)) sz = some cells ∧ gy W.heap.size (NQ ty) cells z.2 ∧ rd z.1 z.2) len (fun k hk => by
    have := hel' k hk
    rw [hc, List.getElem?_eq_getElem (by omega)] at this
    obtain ⟨cells, h2, h3⟩ := Option.bind_eq_some_iff.1 this
    obtain ⟨z, l, h4, h5⟩ := hel n cells _ rfl h3 (hwe _ (List.getElem_mem _))
    exact ⟨(z, l), cells, h2, h4, h5⟩)
   have hcellat : ∀ k, k < len → ∀ cells, W.cells? 0 ((⟨b, off, none⟩ : Addr).add (k * sz)) sz = some cells → ∀ i, i < sz → carr.toList[off + (k * sz + i)]? = cells[i]? := fun k hk cells hcl i hi => by
    obtain ⟨_, h1, h2⟩ := World.cells?_some hcl
    have h3 := h2 i hi
    have h4 : ((⟨b, off, none⟩ : Addr).add (k * sz)).add i = ⟨b, off + (k * sz + i), none⟩ := by
     simp only [Addr.add]
     by_cases hk0 : k * sz = 0
     ·by_cases hi0 : i = 0
      ·simp [hk0, hi0]
      ·simp [hk0, hi0]
     ·by_cases hi0 : i = 0
      ·simp [hk0, hi0]
      ·simp [hk0, hi0]; omega
    rw [h4] at h3
    simp only [World.cell?, hheap] at h3
    rw [Array.getElem?_toList]
    simpa using h3
   have hrow : ∀ k, k < len → ∀ cells l, W.cells? 0 ((⟨b, off, none⟩ : Addr).add (k * sz)) sz = some cells → gy W.heap.size (NQ ty) cells l → ∀ i, i < sz → ∃ y x, (carr.toList.drop off)[k * sz + i]? = some y ∧ l[i]? = some x ∧ ov W.heap.size (rL ty (0 + (k * sz + i))) y = some x := fun k hk cells l hcl hab i hi => by
    obtain ⟨h1, h2, h3⟩ := gy.get hab
    have hi' : i < l.length := by omega
    obtain ⟨y, hy1, hy2⟩ := h3 i l[i] (List.getElem?_eq_getElem hi')
    refine ⟨y, l[i], ?_, List.getElem?_eq_getElem hi', ?_⟩
    ·rw [List.getElem?_drop, hcellat k hk cells hcl i hi]; exact hy1
    ·unfold rL
     rw [hl, Nat.zero_add, Nat.add_comm, Nat.add_mul_mod_self_right, Nat.mod_eq_of_lt hi]
     exact hy2
   have hall : ∀ j, j < len * sz → ∃ y x, (carr.toList.drop off)[j]? = some y ∧ ov W.heap.size (rL ty (0 + j)) y = some x := fun j hj => by
    have hk : j / sz < len := Nat.div_lt_of_lt_mul (by rw [Nat.mul_comm]; exact hj)
    obtain ⟨cells, h1, h2, _⟩ := hz (j / sz) _ (List.getElem?_eq_getElem (by omega))
    obtain ⟨y, x, h3, _, h4⟩ := hrow _ hk cells _ h1 h2 (j % sz) (Nat.mod_lt _ h0)
    have hj2 : j / sz * sz + j % sz = j := by rw [Nat.mul_comm]; exact Nat.div_add_mod j sz
    rw [hj2] at h3 h4
    exact ⟨y, x, h3, h4⟩
   refine ⟨_, .slice ⟨b, off * 128 + ty, 1 + off⟩ 0 len (some cap) sz, zs.map (·.1), zs.map (·.2), rfl, ?_, ?_, by simp, fun i x l hx hl' => ?_⟩
   ·simp [ov, DP, hcap, hle, hblk, hl, h0]
   ·refine .row _ _ _ _ (by simp [hzl]) ?_ fun k l0 hk s hK => ?_
    ·have : len ≤ reachBytes := Nat.le_trans (Nat.le_mul_of_pos_right _ hb) hbn
     unfold reachBytes at this
     omega
    rw [List.getElem?_map] at hk
    obtain ⟨z, hkz, hz0⟩ : ∃ z, zs[k]? = some z ∧ z.2 = l0 := by
     cases hh : zs[k]? with
     | none => rw [hh] at hk; cases hk
     | some z => rw [hh] at hk; cases hk; exact ⟨z, rfl, rfl⟩
    have hkl : k < len := by rw [← hzl]; exact (List.getElem?_eq_some_iff.1 hkz).1
    obtain ⟨cells, h1, h2, h3⟩ := hz k z hkz
    obtain ⟨_, l⟩ := z
    simp only at hz0 h2
    subst hz0
    ·have hst : (cD W).get b = some (.ro (rb W.heap.size carr.toList)) := by
      unfold cD
      rw [tH, if_pos hblk, hheap]
      rfl
     have hg := hK b _ hst
     simp only [loadCells, eK, hg, AB (N := W.heap.size) (c := carr.toList) (off := off) (t := ty) (by simpa using hoff) hty]
     rw [Nat.ble_eq_true_of_le (show 1 + off ≤ 1 + off + k * sz by omega), cond_true, show 1 + off + k * sz - (1 + off) = k * sz by omega]
     obtain ⟨k1, k2, k3⟩ := gy.get h2
     have hget : ∀ i, i < sz → ((iX W.heap.size ty 0 (carr.toList.drop off)).drop (k * sz))[i]? = l[i]? := fun i hi => by
      obtain ⟨y, x, h4, h5, h6⟩ := hrow k hkl cells l h1 h2 i hi
      rw [List.getElem?_drop, h5]
      refine zh (len * sz) 0 _ hall _ ?_ y x h4 h6
      calc k * sz + i < k * sz + sz := by omega
       _ = (k + 1) * sz := by rw [Nat.succ_mul]
       _ ≤ len * sz := Nat.mul_le_mul_right _ hkl
     have hlen2 : sz ≤ ((iX W.heap.size ty 0 (carr.toList.drop off)).drop (k * sz)).length := by
      have := hget (sz - 1) (by omega)
      rw [List.getElem?_eq_getElem (show sz - 1 < l.length by omega)] at this
      have := (List.getElem?_eq_some_iff.1 this).1
      omega
     rw [mP _ _ hlen2]
     refine congrArg some ?_
     refine List.ext_getElem? fun i => ?_
     by_cases hi : i < sz
     ·rw [List.getElem?_take_of_lt hi, hget i hi]
     ·rw [List.getElem?_eq_none (by rw [List.length_take]; omega), List.getElem?_eq_none (by omega)]
   ·rw [List.getElem?_map] at hx hl'
    cases hh : zs[i]? with
    | none => rw [hh] at hx; cases hx
    | some z =>
     rw [hh] at hx hl'
     cases hx; cases hl'
     obtain ⟨cells, _, _, h3⟩ := hz i z hh
     exact h3
end
theorem gy.app {N : Nat} : ∀ {ks : List Ck} {cs : List Value} {l : List V} {ks' : List Ck} {cs' : List Value} {l' : List V}, gy N ks cs l → gy N ks' cs' l' → gy N (ks ++ ks') (cs ++ cs') (l ++ l')
 | [], [], [], _, _, _, _, h => h
 | k :: ks, c :: cs, x :: xs, _, _, _, h, h' => ⟨h.1, gy.app h.2 h'⟩
 | [], [], _ :: _, _, _, _, h, _ => h.elim
 | [], _ :: _, _, _, _, _, h, _ => h.elim
 | _ :: _, [], _, _, _, _, h, _ => h.elim
 | _ :: _, _ :: _, [], _, _, _, h, _ => h.elim
theorem gy.cons {N : Nat} {k : Ck} {c : Value} {x : V} {ks : List Ck} {cs : List Value} {l : List V} (h : ov N k c = some x) (h' : gy N ks cs l) : gy N (k :: ks) (c :: cs) (x :: l) := ⟨h, h'⟩
theorem gy.nil {N : Nat} : gy N [] [] [] := trivial
section
variable {H : Type} {enc : TypeId × Value → H} {W : World}
theorem sm {t : TypeId} {fs : Array Field} {fuel : Nat} {cs : List Value} {x : DataW H × List MemPlace} (ht : Tryz.prog.underlying t = some (.struct fs)) (h : Td enc W fuel t cs = some x) :
 cs.length = Tryz.prog.cellsOf t ∧ ∃ n, fuel = n + 1 ∧ ∀ (i : Nat) (f : Field), fs[i]? = some f → ∃ y, Td enc W n f.type ((cs.drop f.offset).take (Tryz.prog.cellsOf f.type)) = some y ∧ (Wt t x.1 → Wt f.type y.1) := by
 obtain ⟨xs, n, hn, hx, hl, hsz, hf⟩ := DataW.trod_struct ht h
 refine ⟨hl, n, hn, fun i f hi => ?_⟩
 have hi2 : i < xs.length := by rw [hsz]; exact (Array.getElem?_eq_some_iff.1 hi).1
 have := hf i f hi
 rw [List.getElem?_eq_getElem hi2] at this
 refine ⟨_, this, fun hw m hm => hw m ?_⟩
 rw [hx]
 simp only [DataW.weights, ht]
 refine jz (i := i) (t := f.type) (d := xs[i].1) ?_ ?_ m hm
 ·rw [List.getElem?_map, Array.getElem?_toList, hi]; rfl
 ·rw [List.getElem?_map, List.getElem?_eq_getElem hi2]; rfl
theorem Ml : Tryz.prog.cellsOf 9 = 1 := by kernel_rfl
theorem On : Tryz.prog.cellsOf 22 = 1 := by kernel_rfl
theorem Om : Tryz.prog.cellsOf 23 = 1 := by kernel_rfl
theorem AZ : Tryz.prog.cellsOf 25 = 2 := by kernel_rfl
theorem Ol : Tryz.prog.cellsOf 27 = 3 := by kernel_rfl
theorem Rr : 0 < Tryz.prog.bytesOf 9 := of_decide_eq_true (by kernel_rfl)
theorem Oq : 0 < Tryz.prog.bytesOf 25 := of_decide_eq_true (by kernel_rfl)
theorem RY {α : Type} {l : List α} (h : l.length = 2) : ∃ a b, l = [a, b] := by
 match l, h with
 | [a, b], _ => exact ⟨a, b, rfl⟩
theorem RX {α : Type} {l : List α} (h : l.length = 3) : ∃ a b c, l = [a, b, c] := by
 match l, h with
 | [a, b, c], _ => exact ⟨a, b, c, rfl⟩
abbrev Kw (W : World) : S → Prop := Ex (cD W)
theorem Lz {t : TypeId} {fuel : Nat} {cs : List Value} {x : DataW H × List MemPlace} (ht : Tryz.prog.underlying t = some .string) (h : Td enc W fuel t cs = some x) (hw : Wt t x.1) : ∃ b, cs = [.string b] ∧ (bytesOf b).length < 4611686018427387904 := by
 cases fuel with
 | zero => simp [Td, DataW.trod] at h
 | succ n =>
  obtain ⟨b, rfl⟩ := Qm ht h
  refine ⟨b, rfl, ?_⟩
  unfold Td DataW.trod at h
  rw [ht] at h
  dsimp only at h
  split at h
  ·rename_i hs
   cases h
   have h1 := hw b.data.toList.length (by simp [DataW.weights])
   have hl : (bytesOf b).length = b.data.toList.length := by simp only [bytesOf, List.length_map]
   rw [hl]
   unfold reachBytes at h1
   omega
  ·cases h
theorem PW {fuel : Nat} {cs : List Value} {x : DataW H × List MemPlace} (h : Td enc W fuel 22 cs = some x) (hw : Wt 22 x.1) : ∃ c v l, cs = [c] ∧ ov W.heap.size (.sl 22) c = some v ∧ DV (Kw W) v l := by
 obtain ⟨c, v, xs, css, h1, h2, h3, h4⟩ := Hh (α := List Nat) (rd := fun x l => l = [.str x] ∧ Lx.Bytes x) JP Ml BH (by simp [JT]) rfl (by omega) Rr h hw (fun n cells y _ hy hwy => by
  obtain ⟨b, rfl, _⟩ := Lz Tryz.underlying9 hy hwy
  exact ⟨bytesOf b, [.str (bytesOf b)], .cons rfl .nil, rfl, DD b⟩)
 refine ⟨c, v, xs, h1, h2, ?_, fun x hx => ?_⟩
 ·have : css = xs.map fun x => [.str x] := by
   refine List.ext_getElem (by rw [List.length_map]; exact h4.1) fun i hi hi' => ?_
   rw [List.length_map] at hi'
   have := (h4.2 i xs[i] css[i] (List.getElem?_eq_getElem hi') (List.getElem?_eq_getElem hi)).1
   rw [List.getElem_map]; exact this
  rw [← this]; exact h3
 ·obtain ⟨i, hi, rfl⟩ := List.mem_iff_getElem.1 hx
  have hi2 : i < css.length := by rw [h4.1]; exact hi
  exact (h4.2 i xs[i] css[i] (List.getElem?_eq_getElem hi) (List.getElem?_eq_getElem hi2)).2
theorem PV : ∀ (N : Nat) {fuel : Nat} {cs : List Value} {x : DataW H × List MemPlace}, fuel ≤ N → Td enc W fuel 25 cs = some x → Wt 25 x.1 → ∃ (t : Ty) (l : List V), gy W.heap.size [.str, .sl 23] cs l ∧ ∃ nm rw, l = [nm, rw] ∧ gY (Kw W) t nm rw := by
 intro N
 induction N with
 | zero =>
  intro fuel cs x hN h hw
  obtain rfl : fuel = 0 := by omega
  simp [Td, DataW.trod] at h
 | succ N ih =>
  intro fuel cs x hN h hw
  obtain ⟨hl, n, hn, hf⟩ := sm Tryz.underlying25 h
  subst hn
  rw [AZ] at hl
  obtain ⟨c0, c1, rfl⟩ := RY hl
  obtain ⟨_, h0, w0⟩ := hf 0 _ rfl
  obtain ⟨_, h1, w1⟩ := hf 1 _ rfl
  simp only [List.getElem_toArray, List.getElem_cons_zero, List.getElem_cons_succ, Ml, Om, List.drop_succ_cons, List.drop_zero, List.take_succ_cons, List.take_zero] at h0 h1 w0 w1
  obtain ⟨b, e0, hb⟩ := Lz Tryz.underlying9 h0 (w0 hw)
  cases e0
  obtain ⟨c, v, ts, css, e1, e2, e3, e4⟩ := Hh (α := Ty) (rd := fun t l => ∃ nm rw, l = [nm, rw] ∧ gY (Kw W) t nm rw) gz AZ fx (by simp [JT]) rfl (by omega) Oq h1 (w1 hw) (fun m cells y hm hy hwy => by
   obtain ⟨t, l, g1, g2⟩ := ih (by omega) hy hwy
   exact ⟨t, l, g1, g2⟩)
  cases e1
  have hts : dS (Kw W) ts css := by
   clear e3 e2 h1
   obtain ⟨g1, g2⟩ := e4
   induction ts generalizing css with
   | nil => cases css with
    | nil => simp only [dS]
    | cons a r => simp at g1
   | cons t r ih2 => cases css with
    | nil => simp at g1
    | cons a r2 =>
     obtain ⟨nm, rw, e5, e6⟩ := g2 0 t a rfl rfl
     simp only [dS]
     exact ⟨nm, rw, r2, by rw [e5], e6, ih2 r2 (by simpa using g1) (fun i x l hx hl => g2 (i + 1) x l (by simpa using hx) (by simpa using hl))⟩
  refine ⟨.mk (bytesOf b) ts, [.str (bytesOf b), v], .cons rfl (.cons e2 .nil), _, _, rfl, ?_⟩
  simp only [gY]
  exact ⟨trivial, DD b, hb, css, e3, hts⟩
theorem EZ {fuel : Nat} {cs : List Value} {x : DataW H × List MemPlace} (h : Td enc W fuel 27 cs = some x) (hw : Wt 27 x.1) : ∃ (vars : List (List Nat)) (t : Ty) (vr nm rw : V), gy W.heap.size [.sl 22, .str, .sl 23] cs [vr, nm, rw] ∧ DW (Kw W) vars t vr nm rw := by
 obtain ⟨hl, n, hn, hf⟩ := sm Tryz.underlying27 h
 subst hn
 rw [Ol] at hl
 obtain ⟨c0, c1, c2, rfl⟩ := RX hl
 obtain ⟨_, h0, w0⟩ := hf 0 _ rfl
 obtain ⟨_, h1, w1⟩ := hf 1 _ rfl
 simp only [List.getElem_toArray, List.getElem_cons_zero, List.getElem_cons_succ, On, AZ, List.drop_succ_cons, List.drop_zero, List.take_succ_cons, List.take_zero] at h0 h1 w0 w1
 obtain ⟨c, v, l, e1, e2, e3⟩ := PW h0 (w0 hw)
 cases e1
 obtain ⟨t, l2, g1, nm, rw, rfl, g2⟩ := PV n (Nat.le_refl _) h1 (w1 hw)
 exact ⟨l, t, v, nm, rw, .cons e2 g1, e3, g2⟩
end
end Go.AI.Inf
namespace Go.AI.Inf
open Go.Proofs Go.Proofs.YtkeaedhoaamfnaaGreatDoor Go.AI.Lx
theorem pM {W : World} {g : Nat} {c : Array Value} {e : TypeId} {fz : Nat × Nat} {l : List V} (h : W.heap[g]? = some (.cells c e fz)) (ha : jZ W.heap.size c.toList = some l) : fW (cD W) g = some l := by
 have hg : g < W.heap.size := (Array.getElem?_eq_some_iff.1 h).1
 have hst : (cD W).get g = some (.ro (rb W.heap.size c.toList)) := by
  unfold cD
  rw [tH, if_pos hg, h]; rfl
 unfold fW
 rw [hst]
 simp only [xd ha]
 try rfl
theorem wv {N : Nat} : ∀ (l : List Int), jZ N (l.map fun z => Value.int .u64 z) = some (l.map fun z => V.int .u64 z)
 | [] => rfl
 | x :: r => by simp only [List.map_cons, jZ, Jy, wv r]
structure MU (W : World) : Prop where
 mx : ∃ m e fz, W.heap[1]? = some (.cells #[.int .i64 m] e fz)
 syn : ∃ te b off e fz, W.heap[4]? = some (.cells #[.iface te (.pointer (some ⟨b, off, none⟩))] e fz) ∧ b < W.heap.size
 rng : ∃ te b off e fz, W.heap[5]? = some (.cells #[.iface te (.pointer (some ⟨b, off, none⟩))] e fz) ∧ b < W.heap.size
 pow : ∃ c e fz, W.heap[0]? = some (.cells c e fz) ∧ c.toList = Lib.pow10Tab.map fun z => Value.int .u64 z
theorem IY {W : World} (h : MU W) : cF (cD W) := by
 obtain ⟨⟨m, e1, f1, h1⟩, ⟨t2, b2, o2, e2, f2, h2, k2⟩, ⟨t3, b3, o3, e3, f3, h3, k3⟩, ⟨c, e4, f4, h4, k4⟩⟩ := h
 refine ⟨⟨[.int .i64 m], pM h1 rfl, rfl⟩, ⟨[.iface t2 (.ptr ⟨b2, 0, 1 + o2⟩)], pM h2 (by simp [jZ, Jy, k2]), rfl⟩, ⟨[.iface t3 (.ptr ⟨b3, 0, 1 + o3⟩)], pM h3 (by simp [jZ, Jy, k3]), rfl⟩, pM h4 (by rw [k4]; exact wv _)⟩
end Go.AI.Inf
namespace Go.AI.Inf
open Go.Proofs Go.Proofs.YtkeaedhoaamfnaaGreatDoor Go.AI.Lx Go.ChangeShapes
section
variable {W : World} {t : TypeId} {fuel : Nat} {cs : List Value} {ps : List MemPlace}
abbrev Tl (W : World) (fuel : Nat) (t : TypeId) (cs : List Value) : Option (DataW Unit × List MemPlace) := DataW.trod (fun _ => ()) Tryz.prog W 0 (fun _ => true) false fuel t cs
theorem PI {e n : Nat} {l : List Int} (ht : Tryz.prog.underlying t = some (.array n e)) (he : Tryz.prog.underlying e = some (.int .u64)) (hc : Tryz.prog.cellsOf e = 1) (hct : Tryz.prog.cellsOf t = n) (h : Tl W fuel t cs = some (.agg (l.map fun z => .lit (.int .u64 z)), ps)) :
 cs = l.map fun z => Value.int .u64 z := by
 obtain ⟨xs, m, _, hx, hl, hxl, hat⟩ := DataW.trod_array ht h
 have hm : xs.map (·.1) = l.map fun z => DataW.lit (.int .u64 z) := by
  have := congrArg Prod.fst hx
  simp only [DataW.agg.injEq] at this
  exact this.symm
 have hll : l.length = n := by
  have := congrArg List.length hm
  simp only [List.length_map] at this
  omega
 rw [hct] at hl
 refine List.ext_getElem (by rw [List.length_map]; omega) fun i hi hi' => ?_
 rw [List.length_map] at hi'
 have h1 := hat i (by omega)
 rw [hc, Nat.mul_one, List.drop_eq_getElem_cons hi, List.take_succ_cons, List.take_zero, List.getElem?_eq_getElem (by omega)] at h1
 obtain ⟨z, h2, h3, _⟩ := DataW.trod_int he h1
 have h4 : (xs.map (·.1))[i]'(by rw [List.length_map]; omega) = (l.map fun z => DataW.lit (H := Unit) (.int .u64 z))[i]'(by rw [List.length_map]; omega) := by
  simp only [hm]
 rw [List.getElem_map, List.getElem_map, h3] at h4
 simp only [DataW.lit.injEq, Lit.int.injEq, true_and] at h4
 rw [List.getElem_map, ← h4]
 simpa using h2
end
section
variable {W : World} {t : TypeId} {fuel : Nat} {cs : List Value} {ps : List MemPlace}
theorem Lh {s : List UInt8} (h : Tl W fuel t [] = some (.lit (.string s), ps)) : False := by
 cases fuel with
 | zero => simp [Tl, DataW.trod] at h
 | succ n =>
  unfold Tl DataW.trod at h
  split at h <;> simp_all
theorem Qa {s : List UInt8} (h : Tl W fuel t [] = some (.agg [.lit (.string s)], ps)) : False := by
 cases hu : Tryz.prog.underlying t with
 | none =>
  cases fuel with
  | zero => simp [Tl, DataW.trod] at h
  | succ n => unfold Tl DataW.trod at h; rw [hu] at h; simp at h
 | some d =>
  cases d with
  | struct fs =>
   obtain ⟨xs, n, _, hx, _, hl, hf⟩ := DataW.trod_struct hu h
   have h1 : xs.map (·.1) = [.lit (.string s)] := by
    have := congrArg Prod.fst hx
    simp only [DataW.agg.injEq] at this
    exact this.symm
   obtain ⟨x, rfl⟩ : ∃ x, xs = [x] := List.length_eq_one_iff.1 (by have := congrArg List.length h1; simpa using this)
   have hs : 0 < fs.size := by simp at hl; omega
   have h2 := hf 0 fs[0] (Array.getElem?_eq_getElem hs)
   simp only [List.drop_nil, List.take_nil, List.getElem?_cons_zero] at h2
   simp at h1
   exact Lh (W := W) (s := s) (ps := x.2) (by unfold Tl; rw [h2, ← h1])
  | array m e =>
   obtain ⟨xs, n, _, hx, _, hl, hf⟩ := DataW.trod_array hu h
   have h1 : xs.map (·.1) = [.lit (.string s)] := by
    have := congrArg Prod.fst hx
    simp only [DataW.agg.injEq] at this
    exact this.symm
   obtain ⟨x, rfl⟩ : ∃ x, xs = [x] := List.length_eq_one_iff.1 (by have := congrArg List.length h1; simpa using this)
   have hs : 0 < m := by simp at hl; omega
   have h2 := hf 0 hs
   simp only [List.drop_nil, List.take_nil, List.getElem?_cons_zero] at h2
   simp at h1
   exact Lh (W := W) (s := s) (ps := x.2) (by unfold Tl; rw [h2, ← h1])
  | _ =>
   cases fuel with
   | zero => simp [Tl, DataW.trod] at h
   | succ n => unfold Tl DataW.trod at h; rw [hu] at h; simp at h
theorem PX {s : List UInt8} (h : Tl W fuel t cs = some (.ptr (.agg [.lit (.string s)]), ps)) : ∃ a, cs = [.pointer (some a)] ∧ a.spot = none ∧ a.block < W.heap.size ∧ ∃ e, Tryz.prog.underlying t = some (.pointer e) := by
 have key : ∃ e, Tryz.prog.underlying t = some (.pointer e) := by
  cases fuel with
  | zero => simp [Tl, DataW.trod] at h
  | succ n =>
   unfold Tl DataW.trod at h
   split at h <;> simp_all
   all_goals first
    | (simp [Option.bind_eq_some_iff, Option.map_eq_some_iff] at h; done)
    | (split at h <;> simp [Option.bind_eq_some_iff, Option.map_eq_some_iff] at h; done)
    | (repeat' split at h) <;> simp_all [Option.bind_eq_some_iff, Option.map_eq_some_iff]
 obtain ⟨e, he⟩ := key
 rcases DataW.trod_pointer he h with ⟨_, h1⟩ | ⟨a, cs', y, n, _, rfl, h1, h2, h3⟩
 ·simp at h1
 ·have hy : y.1 = .agg [.lit (.string s)] := by
   have := congrArg Prod.fst h1
   simp only [DataW.ptr.injEq] at this
   exact this.symm
  have hne : cs' ≠ [] := fun hh => by
   subst hh
   exact Qa (W := W) (s := s) (ps := y.2) (by unfold Tl; rw [h3, ← hy])
  obtain ⟨_, hc1, hc2⟩ := World.cells?_some h2
  have h0 : 0 < cs'.length := List.length_pos_iff.2 hne
  have hcell := hc2 0 (by omega)
  rw [List.getElem?_eq_getElem h0] at hcell
  obtain ⟨c, e', fz, h4, h5, h6⟩ := DA hcell
  refine ⟨a, rfl, ?_, ?_, e, he⟩
  ·simpa [Addr.add] using h5
  ·have := (Array.getElem?_eq_some_iff.1 h4).1
   simpa [Addr.add] using this
theorem LJ {name : String} {ms : Array (String × TypeId)} {s : List UInt8} (ht : Tryz.prog.underlying t = some (.interface ms)) (h : Tl W fuel t cs = some (.iface name (.ptr (.agg [.lit (.string s)])), ps)) :
 ∃ u v a, cs = [.iface u v] ∧ v.cells.toList = [.pointer (some a)] ∧ a.spot = none ∧ a.block < W.heap.size ∧ ∃ e, Tryz.prog.underlying u = some (.pointer e) := by
 cases fuel with
 | zero => simp [Tl, DataW.trod] at h
 | succ n =>
  unfold Tl DataW.trod at h
  rw [ht] at h
  split at h <;> simp_all
  rename_i u v _
  split at h
  ·cases h
  ·simp only [Option.map_eq_some_iff] at h
   obtain ⟨y, hy, h1⟩ := h
   simp only [Prod.mk.injEq, DataW.iface.injEq] at h1
   obtain ⟨a, h2, h3, h4, h5⟩ := PX (W := W) (s := s) (ps := y.2) (by unfold Tl; rw [hy, ← h1.1.2])
   exact ⟨u, v, ⟨rfl, rfl⟩, a, h2, h3, h4, h5⟩
  ·cases h
end
end Go.AI.Inf
namespace Go.AI.Inf
open Go.Proofs Go.Proofs.YtkeaedhoaamfnaaGreatDoor Go.AI.Lx Go.ChangeShapes
set_option maxRecDepth 10000
theorem vn {P : Program} {w : World} : ∀ {l : List (String × DataW Unit)} {ps : List MemPlace} {n : String} {d : DataW Unit}, DataW.LaidVars P w l ps → (n, d) ∈ l →
 ∃ g t cs fuel p, P.globalNamed n = some g ∧ (P.globals[g]?).map (·.type) = some t ∧ w.var? P n = some cs ∧ DataW.trod (fun _ => ()) P w 0 (fun _ => true) false fuel t cs.toList = some (d, p) ∧ ∀ x ∈ MemPlace.row ⟨g, 0, none⟩ cs.size ++ p, x ∈ ps
 | [], ps, n, d, _, h => by cases h
 | (m, c) :: r, ps, n, d, hl, h => by
  obtain ⟨g, t, cs, fuel, p, q, e1, e2, e3, e4, hr, rfl⟩ := hl
  rcases List.mem_cons.1 h with h | h
  ·cases h
   exact ⟨g, t, cs, fuel, p, e1, e2, e3, e4, fun x hx => List.mem_append_left _ hx⟩
  ·obtain ⟨g', t', cs', fuel', p', a, b, c', d', e⟩ := vn hr h
   exact ⟨g', t', cs', fuel', p', a, b, c', d', fun x hx => List.mem_append_right _ (e x hx)⟩
theorem xI {P : Program} {w : World} {n : String} {g : Nat} {cs : Array Value} (hg : P.globalNamed n = some g) (h : w.var? P n = some cs) : ∃ e fz, w.heap[g]? = some (.cells cs e fz) := by
 unfold World.var? at h
 rw [hg] at h
 simp only [Option.bind_some] at h
 split at h
 ·rename_i c e fz hh; cases h; exact ⟨e, fz, hh⟩
 ·cases h
theorem LN : Tryz.prog.globalNamed "internal/strconv.uint64pow10" = some 0 := by kernel_rfl
theorem Qz : Tryz.prog.globalNamed "strconv.ErrSyntax" = some 4 := by kernel_rfl
theorem QA : Tryz.prog.globalNamed "strconv.ErrRange" = some 5 := by kernel_rfl
theorem HM {W : World} {l : List (String × DataW Unit)} {n : String} {g : Nat} {t : TypeId} {name : String} {ms : Array (String × TypeId)} {s : List UInt8} (hl : laidMet Tryz.prog l W) (hm : (n, .iface name (.ptr (.agg [.lit (.string s)]))) ∈ l)
 (hg : Tryz.prog.globalNamed n = some g) (ht : (Tryz.prog.globals[g]?).map (·.type) = some t) (hu : Tryz.prog.underlying t = some (.interface ms)) :
 ∃ te b off e fz, W.heap[g]? = some (.cells #[.iface te (.pointer (some ⟨b, off, none⟩))] e fz) ∧ b < W.heap.size := by
 obtain ⟨ps, hv, _, hrow⟩ := hl
 obtain ⟨g', t', cs, fuel, p, e1, e2, e3, e4, e5⟩ := vn hv hm
 rw [hg] at e1; cases e1
 rw [ht] at e2; cases e2
 obtain ⟨e, fz, hh⟩ := xI hg e3
 obtain ⟨u, v, a, h1, h2, h3, h4, e', h5⟩ := LJ hu e4
 have hcs : cs = #[.iface u v] := by
  exact Array.ext' h1
 subst hcs
 have hcell : W.cell? ⟨g, 0, none⟩ = some (.iface u v) := by
  unfold World.cell?
  simp only [hh]; rfl
 have hin : MemPlace.cell g 0 ∈ MemPlace.row ⟨g, 0, none⟩ (#[Value.iface u v]).size := by
  unfold MemPlace.row
  exact List.mem_map.2 ⟨0, List.mem_range.2 Nat.zero_lt_one, rfl⟩
 have hin2 := e5 _ (List.mem_append_left _ hin)
 have hok := (hrow g 0 hin2).2 u v hcell
 have hvp : v = .pointer (some a) := by
  unfold Value.okWide at hok
  rw [h5] at hok
  simp only [] at hok
  unfold Cell.okWide at hok
  rw [h5] at hok
  cases v with
  | agg c => simp only [Value.cells] at h2; simp [Cell.ok, h5] at hok
  | _ => simp_all [Value.cells]
 subst hvp
 obtain ⟨b, off, spot⟩ := a
 simp only at h3 h4
 subst h3
 exact ⟨u, b, off, e, fz, hh, h4⟩
theorem Qy : (Tryz.prog.globals[0]?).map (·.type) = some 325 := by kernel_rfl
theorem Qw : (Tryz.prog.globals[4]?).map (·.type) = some 335 := by kernel_rfl
theorem Qx : (Tryz.prog.globals[5]?).map (·.type) = some 335 := by kernel_rfl
end Go.AI.Inf
namespace Go.AI.Inf
open Go.Proofs Go.Proofs.YtkeaedhoaamfnaaGreatDoor Go.AI.Lx Go.ChangeShapes
end Go.AI.Inf
namespace Go.AI.Inf
open Go.Proofs Go.Proofs.YtkeaedhoaamfnaaGreatDoor Go.AI.Lx Go.ChangeShapes
set_option maxRecDepth 10000
theorem PJ {W : World} (hl : laidMet Tryz.prog Rows.inferTypesRow.laid W) : ∃ te b off e fz, W.heap[4]? = some (.cells #[.iface te (.pointer (some ⟨b, off, none⟩))] e fz) ∧ b < W.heap.size :=
 HM hl (n := "strconv.ErrSyntax") (name := "*errors.errorString") (s := [105, 110, 118, 97, 108, 105, 100, 32, 115, 121, 110, 116, 97, 120]) (List.Mem.tail _ (List.Mem.tail _ (List.Mem.tail _ (List.Mem.tail _ (List.Mem.tail _ (List.Mem.head _)))))) Qz Qw Tryz.underlying335
theorem PS {W : World} (hl : laidMet Tryz.prog Rows.inferTypesRow.laid W) : ∃ te b off e fz, W.heap[5]? = some (.cells #[.iface te (.pointer (some ⟨b, off, none⟩))] e fz) ∧ b < W.heap.size :=
 HM hl (n := "strconv.ErrRange") (name := "*errors.errorString") (s := [118, 97, 108, 117, 101, 32, 111, 117, 116, 32, 111, 102, 32, 114, 97, 110, 103, 101]) (List.Mem.tail _ (List.Mem.tail _ (List.Mem.tail _ (List.Mem.tail _ (List.Mem.head _))))) QA Qx Tryz.underlying335
theorem LA : Rows.laid_internal_strconv_uint64pow10 (H := Unit) = DataW.agg (Lib.pow10Tab.map fun z => .lit (.int .u64 z)) := by rfl
theorem PY {W : World} (hl : laidMet Tryz.prog Rows.inferTypesRow.laid W) : ∃ c e fz, W.heap[0]? = some (.cells c e fz) ∧ c.toList = Lib.pow10Tab.map fun z => Value.int .u64 z := by
 obtain ⟨ps, hv, _, _⟩ := hl
 obtain ⟨g', t', cs, fuel, p, e1, e2, e3, e4, e5⟩ := vn hv (n := "internal/strconv.uint64pow10") (d := Rows.laid_internal_strconv_uint64pow10) (List.Mem.tail _ (List.Mem.tail _ (List.Mem.head _)))
 rw [LN] at e1; cases e1
 rw [Qy] at e2; cases e2
 obtain ⟨e, fz, hh⟩ := xI LN e3
 rw [LA] at e4
 exact ⟨cs, e, fz, hh, PI Tryz.underlying325 (by kernel_rfl) (by kernel_rfl) (by kernel_rfl) e4⟩
theorem RS {W : World} (hs : W.ShapedOpen Tryz.prog) : ∃ m e fz, W.heap[1]? = some (.cells #[.int .i64 m] e fz) := by
 obtain ⟨cs, h1, h2, h3⟩ := hs.1 1 #[.int .i64 0] 3 (of_decide_eq_true (by kernel_rfl)) (by kernel_rfl)
 obtain ⟨ts, h5, _, h6⟩ := h3 (by kernel_rfl)
 have hts : Tryz.prog.cellTypes Tryz.prog.depth 3 = some [3] := by kernel_rfl
 rw [hts] at h5; cases h5
 have hsz : cs.size = 1 := h2
 have h0 : cs[0]? = some (cs[0]'(by omega)) := Array.getElem?_eq_getElem (by omega)
 obtain ⟨u, h7, h8⟩ := h6 0 _ h0
 cases h7
 unfold Cell.ok at h8
 rw [Tryz.underlying3] at h8
 have hcs : cs = #[cs[0]'(by omega)] := Array.ext (by simp [hsz]) (fun i hi hi' => by
  have : i = 0 := by omega
  subst this; rfl)
 generalize cs[0]'(by omega) = v at hcs h8
 subst hcs
 cases v <;> simp_all
 all_goals first
  | (obtain ⟨rfl, _⟩ := h8; exact ⟨_, _, _, h1⟩)
  | exact ⟨_, _, _, h1⟩
  | skip
end Go.AI.Inf
namespace Go.AI.Inf
open Go.Proofs Go.Proofs.YtkeaedhoaamfnaaGreatDoor Go.AI.Lx Go.ChangeShapes
theorem LO {W : World} (hl : laidMet Tryz.prog Rows.inferTypesRow.laid W) (hs : W.ShapedOpen Tryz.prog) : MU W := ⟨RS hs, PJ hl, PS hl, PY hl⟩
end Go.AI.Inf
namespace Go.AI.Inf
open Go.Proofs Go.Proofs.YtkeaedhoaamfnaaGreatDoor Go.AI.Lx Go.ChangeShapes Go.WideShapes Go.ChangeAt Go.RowKit
theorem So : Go.AI.Good Tryz.prog (lim au) := Ly (dB rfl rfl) Tn (bO rfl rfl)
theorem Mx {W W' : World} {ρ' : aq} (h : FR (Ro W.heap.size) W ρ' W') : Below W.heap.size W W' :=
 ⟨h.os, h.tape, h.output, h.size, fun k hk => h.same k hk fun f v l e hro => by
  unfold Ro at e
  split at e
  ·cases e; exact absurd (show (0 : Nat) < 1 from Nat.zero_lt_one) hro
  ·cases e⟩
theorem RZ (W : World) : Kn (Kw W) 0 := fun _ _ _ _ hf he => hf.ex he
theorem Jt {f : FuncId} {W : World} {args : List V} {ys : List Value} (h : Cw au f args (cD W) fun v s' => v = .bool true ∧ Fw [] (cD W) s') (hd : aY (Ro W.heap.size) args = some ys) :
 Calls Tryz.prog f ys.toArray W fun e w' => e = .returned (.bool true) ∧ Below W.heap.size W w' := by
 obtain ⟨v, s', call, rfl, _⟩ := h
 have hs : fN Tryz.prog f args none (cD W) ⟨.returned (.bool true), none, s'⟩ := So (.call f _ none) _ _ call
 refine (wh hs (GT W) hd).mono fun e w' ⟨ρ', z, he, hz, _, hfr⟩ => ?_
 simp only [den, Option.some.injEq] at hz
 subst hz
 exact ⟨he, Mx hfr⟩
theorem AQ {ρ : aq} {l : List V} {c : Array Value} (h : aY ρ l = some c.toList) : den ρ (.agg l) = some (.agg c) := by
 simp only [den, h, Array.toArray_toList]
theorem own : ownKnob Tryz.prog.godebug = none := by kernel_rfl
theorem Av : laidOutB Tryz.prog = true := by kernel_rfl
theorem KV : Tryz.prog.readableRec 27 = true := by kernel_rfl
theorem KL : 27 < Tryz.prog.types.size := of_decide_eq_true (by kernel_rfl)
end Go.AI.Inf
