/- From the row to the evaluator: part 1. No conditions beyond those of the row. -/
import Derived.Test.YtkeaedhoaamfnaaGreatDoorL10
import Derived.Deep.Slices
import GoSem.ClaimJoined
import Derived.ChangeArms
import Derived.DataReads
import Derived.OpenShut
import Derived.Test.YtkeaedhoaamfnaaGreatDoorRows
import Derived.WalkKit
import Derived.ProofKit
import Derived.Lay
import Derived.Deep.DeepHandedRow
set_option linter.unusedVariables false
set_option linter.unusedSimpArgs false
noncomputable section
namespace Go.AI.Inf
open Go.Proofs Go.AI.Lx
inductive Ck where
 | bool | int | str | sl (t : Nat)
def RD : Nat → List Ck
 | 22 => [.str]
 | 23 => [.str, .sl 23]
 | 36 => [.str, .str, .sl 23]
 | _ => []
def Of : List Nat := [22, 23, 36]
def th (t i : Nat) : Ck := (RD t).getD (i % (RD t).length) .bool
def bytesOf (s : ByteArray) : List Nat := s.data.toList.map UInt8.toNat
theorem NA (s : ByteArray) : aH (bytesOf s) = s := by
 obtain ⟨a⟩ := s
 simp only [aH, bytesOf, List.map_map]
 congr 1
 have : (UInt8.ofNat ∘ UInt8.toNat) = id := by funext x; simp
 rw [this, List.map_id]
theorem GN (s : ByteArray) : Bytes (bytesOf s) := by
 intro b hb
 simp only [bytesOf, List.mem_map] at hb
 obtain ⟨x, _, rfl⟩ := hb
 exact x.toNat_lt
def HZ : Option Nat → Nat
 | none => 0
 | some n => n + 1
theorem IB (o : Option Nat) : KP (HZ o) = o := by cases o <;> rfl
def Hd (N t : Nat) (a : Addr) (len cap : Nat) : Option V :=
 if cap = 0 then (if len = 0 then some (.slice ⟨a.block, HZ a.spot, a.off⟩ 0 0 (some 0) 0) else none)
 else if a.spot = none ∧ len ≤ cap ∧ a.block < N ∧ 0 < (RD t).length then some (.slice ⟨a.block, a.off * 128 + t, 1 + a.off⟩ 0 len (some cap) (RD t).length) else none
def pp (N : Nat) : Ck → Value → Option V
 | .bool, .bool b => some (.bool b)
 | .int, .int .i64 n => some (.int .i64 n)
 | .str, .string s => some (.str (bytesOf s))
 | .sl _, .slice none 0 0 => some .nilslice
 | .sl t, .slice (some a) len cap => Hd N t a len cap
 | _, _ => none
def Ro (N : Nat) : aE := fun f _ => if f < N then some ⟨f, 1, 0⟩ else none
theorem Gi {N : Nat} {k : Ck} {v : Value} {x : V} (h : pp N k v = some x) : den (Ro N) x = some v := by
 unfold pp at h
 split at h
 ·cases h; rfl
 ·cases h; rfl
 ·cases h; simp only [den, NA]
 ·cases h; rfl
 ·rename_i t a len cap
  unfold Hd at h
  split at h
  ·rename_i hc
   split at h
   ·rename_i hl
    cases h; subst hc; subst hl
    simp only [den, kv, if_true, and_self, IB]
   ·cases h
  ·split at h
   ·rename_i hc
    obtain ⟨h1, h2, h3, h4⟩ := hc
    cases h
    have hr : Ro N a.block (a.off * 128 + t) = some ⟨a.block, 1, 0⟩ := by simp [Ro, h3]
    have := ee (ρ := Ro N) (a := ⟨a.block, a.off * 128 + t, 1 + a.off⟩) (z := 0) (len := len) (cap := some cap) (sz := (RD t).length) hr (by simp [bA]) (by simp) (by simpa [cS] using h2) h4
    rw [this]
    obtain ⟨b, o, sp⟩ := a
    simp only at h1
    subst h1
    simp [bA, cS]
   ·cases h
 ·cases h
def jv (N t : Nat) : Nat → List Value → List V
 | _, [] => []
 | i, c :: r => match pp N (th t i) c with
  | some x => x :: jv N t (i + 1) r
  | none => []
theorem yf {N t : Nat} : ∀ (i : Nat) (cs : List Value) (j : Nat) (x : V), (jv N t i cs)[j]? = some x → ∃ y, den (Ro N) x = some y ∧ cs[j]? = some y
 | i, [], j, x, h => by simp [jv] at h
 | i, c :: r, j, x, h => by
  simp only [jv] at h
  split at h
  ·rename_i x' hx
   cases j with
   | zero => simp at h; subst h; exact ⟨c, Gi hx, rfl⟩
   | succ j => exact yf (i + 1) r j x (by simpa using h)
  ·simp at h
def NH (N : Nat) : Value → Option V
 | .int k n => some (.int k n)
 | .nilIface => some .nilIface
 | .iface te (.pointer (some ⟨b, off, none⟩)) => if b < N then some (.iface te (.ptr ⟨b, 0, 1 + off⟩)) else none
 | _ => none
theorem PV {N : Nat} {v : Value} {x : V} (h : NH N v = some x) : den (Ro N) x = some v := by
 unfold NH at h
 split at h
 ·cases h; rfl
 ·cases h; rfl
 ·rename_i te b off
  split at h
  ·rename_i hb
   cases h
   have hr : Ro N b 0 = some ⟨b, 1, 0⟩ := by simp [Ro, hb]
   simp only [den, iP, hr]
   simp
  ·cases h
 ·cases h
def ky (N : Nat) : List Value → Option (List V)
 | [] => some []
 | c :: r => match NH N c with
  | some x => match ky N r with
   | some l => some (x :: l)
   | none => none
  | none => none
theorem yh {N : Nat} : ∀ {l : List Value} {m : List V}, ky N l = some m → m.length = l.length ∧ ∀ (i : Nat) (x : V), m[i]? = some x → ∃ y, den (Ro N) x = some y ∧ l[i]? = some y
 | [], m, h => by cases h; exact ⟨rfl, fun i x h => by simp at h⟩
 | c :: r, m, h => by
  simp only [ky] at h
  split at h
  ·rename_i x hx
   split at h
   ·rename_i l hl
    cases h
    obtain ⟨h1, h2⟩ := yh hl
    refine ⟨by simp [h1], fun i z hz => ?_⟩
    cases i with
    | zero => simp at hz; subst hz; exact ⟨c, PV hx, rfl⟩
    | succ i => simpa using h2 i z (by simpa using hz)
   ·cases h
  ·cases h
def vN (N : Nat) (c : List Value) : List nh := match ky N c with
 | some l => [⟨127, 1, l⟩]
 | none => []
def sv (N : Nat) (c : List Value) : List nh := vN N c ++ (List.range c.length).flatMap fun off => Of.map fun t => ⟨off * 128 + t, 1 + off, jv N t 0 (c.drop off)⟩
def Ba (N : Nat) : Option Obj → bZ
 | some (.cells c _ _) => .ro (sv N c.toList)
 | _ => .ro []
theorem xh {v : Nat} {u : nh} : ∀ {vers : List nh}, u ∈ vers → u.v = v → (∀ u' ∈ vers, u'.v = v → u' = u) → bw vers v = some u
 | [], h, _, _ => by cases h
 | w :: r, h, hv, hu => by
  simp only [bw]
  cases hb : Nat.beq w.v v with
  | true => rw [hu w (by simp) (Nat.eq_of_beq_eq_true hb)]; rfl
  | false =>
   rcases List.mem_cons.1 h with rfl | h
   ·rw [hv, Nat.beq_refl] at hb; cases hb
   ·exact xh h hv fun u' hu' => hu u' (List.mem_cons_of_mem _ hu')
theorem Oe {t : Nat} (h : t ∈ Of) : t < 128 := by
 simp [Of] at h; omega
theorem Ky {N : Nat} {c : List Value} {u : nh} (h : u ∈ vN N c) : u.v = 127 ∧ u.lo = 1 ∧ ky N c = some u.cells := by
 unfold vN at h
 split at h
 ·rename_i l hl
  simp at h; subst h; exact ⟨rfl, rfl, hl⟩
 ·cases h
theorem OR {N : Nat} {c : List Value} {u : nh} (h : u ∈ (List.range c.length).flatMap fun off => Of.map fun t => (⟨off * 128 + t, 1 + off, jv N t 0 (c.drop off)⟩ : nh)) : ∃ off t, off < c.length ∧ t ∈ Of ∧ u = ⟨off * 128 + t, 1 + off, jv N t 0 (c.drop off)⟩ := by
 simp only [List.mem_flatMap, List.mem_range, List.mem_map] at h
 obtain ⟨o, h1, t, h2, rfl⟩ := h
 exact ⟨o, t, h1, h2, rfl⟩
theorem Od {t off : Nat} (h : t ∈ Of) : off * 128 + t ≠ 127 := by
 simp [Of] at h; omega
theorem CV {N : Nat} {c : List Value} {off t : Nat} (h : off < c.length) (ht : t ∈ Of) : bw (sv N c) (off * 128 + t) = some ⟨off * 128 + t, 1 + off, jv N t 0 (c.drop off)⟩ := by
 refine xh (List.mem_append_right _ ?_) rfl ?_
 ·simp only [List.mem_flatMap, List.mem_range, List.mem_map]
  exact ⟨off, h, t, ht, rfl⟩
 ·intro u' hu' hv
  rcases List.mem_append.1 hu' with hu' | hu'
  ·rw [(Ky hu').1] at hv
   exact absurd hv.symm (Od ht)
  ·obtain ⟨o, t', ho, ht', rfl⟩ := OR hu'
   simp only at hv
   have h1 := Oe ht
   have h2 := Oe ht'
   obtain rfl : o = off := by omega
   obtain rfl : t' = t := by omega
   rfl
theorem yU {N : Nat} {c : List Value} {l : List V} (h : ky N c = some l) : bw (sv N c) 127 = some ⟨127, 1, l⟩ := by
 have : vN N c = [⟨127, 1, l⟩] := by unfold vN; rw [h]
 unfold sv
 rw [this]
 rfl
def TT (N : Nat) (W : World) : Nat → S
 | 0 => ⟨.leaf, 0⟩
 | n + 1 => (TT N W n).alloc (Ba N W.heap[n]?)
theorem ru (N : Nat) (W : World) : ∀ n, (TT N W n).next = n
 | 0 => rfl
 | n + 1 => by simp only [TT, S.next_alloc, ru N W n]
theorem vp (N : Nat) (W : World) : ∀ n f, (TT N W n).get f = if f < n then some (Ba N W.heap[f]?) else none
 | 0, f => by simp only [TT, S.get_eq, T.get_leaf]; simp
 | n + 1, f => by
  simp only [TT, S.get_alloc, ru, vp N W n f]
  by_cases hf : n = f
  ·subst hf; simp
  ·by_cases h2 : f < n
   ·simp [hf, h2, show f < n + 1 by omega]
   ·simp [hf, h2, show ¬ f < n + 1 by omega]
def cV (W : World) : S := TT W.heap.size W W.heap.size
theorem wc {W : World} {f : Nat} {B : bZ} (h : (cV W).get f = some B) : f < W.heap.size ∧ B = Ba W.heap.size W.heap[f]? := by
 unfold cV at h
 rw [vp] at h
 split at h
 ·rename_i hf; exact ⟨hf, by cases h; rfl⟩
 ·cases h
theorem Qn (N : Nat) (o : Option Obj) : ∃ vs, Ba N o = .ro vs := by
 unfold Ba
 split
 ·exact ⟨_, rfl⟩
 ·exact ⟨_, rfl⟩
theorem KE (W : World) : HR (Ro W.heap.size) (cV W) W := by
 refine ⟨?_, ?_, ?_, ?_, ?_, ?_⟩
 ·intro f v hf
  unfold cV at hf
  rw [ru] at hf
  simp [Ro, show ¬ f < W.heap.size by omega]
 ·intro f v l f' v' l' e e' hb
  unfold Ro at e e'
  split at e
  ·split at e'
   ·cases e; cases e'; exact ⟨hb, rfl⟩
   ·cases e'
  ·cases e
 ·intro f v l e
  unfold Ro at e
  split at e
  ·rename_i hf; cases e; exact hf
  ·cases e
 ·intro f B hB
  obtain ⟨hf, rfl⟩ := wc hB
  unfold Ba
  split
  ·rename_i c e fz ho
   intro u hu
   have hr : ∀ v, Ro W.heap.size f v = some ⟨f, 1, 0⟩ := fun v => by simp [Ro, hf]
   rcases List.mem_append.1 hu with hu | hu
   ·obtain ⟨h1, h2, h3⟩ := Ky hu
    obtain ⟨h4, h5⟩ := yh h3
    refine ⟨⟨⟨f, 1, 0⟩, c, e, fz, hr _, ho, by simp [h2], fun i x hx => ?_⟩, ⟨⟨f, 1, 0⟩, c, e, fz, hr _, rfl, ho, fun _ => ⟨h2.symm, by rw [h4, Array.length_toList]⟩⟩⟩
    obtain ⟨y, h6, h7⟩ := h5 i x hx
    refine ⟨y, h6, ?_⟩
    rw [Array.getElem?_toList] at h7
    rw [h2]
    simpa using h7
   ·obtain ⟨off, t, hoff, ht, rfl⟩ := OR hu
    refine ⟨⟨⟨f, 1, 0⟩, c, e, fz, hr _, ho, by simp, fun i x hx => ?_⟩, ⟨⟨f, 1, 0⟩, c, e, fz, hr _, rfl, ho, fun hv => absurd hv (Od ht)⟩⟩
    obtain ⟨y, h1, h2⟩ := yf 0 _ i x hx
    refine ⟨y, h1, ?_⟩
    rw [List.getElem?_drop, Array.getElem?_toList] at h2
    simp only
    rw [show 1 + off - 1 + i = off + i by omega]
    exact h2
  ·intro u hu; cases hu
 ·intro f B hB
  have := (wc hB).1
  unfold cV
  rw [ru]; exact this
 ·intro f B hB hn
  obtain ⟨_, rfl⟩ := wc hB
  obtain ⟨vs, hv⟩ := Qn W.heap.size W.heap[f]?
  exact absurd hv (hn vs)
theorem Rp (W : World) : WF (cV W) := (KE W).dom
end Go.AI.Inf
namespace Go.AI.Inf
open Go.Proofs Go.Proofs.YtkeaedhoaamfnaaGreatDoor Go.AI.Lx Go.ChangeShapes
def ib (N : Nat) : List Ck → List Value → List V → Prop
 | [], [], [] => True
 | k :: ks, c :: cs, x :: xs => pp N k c = some x ∧ ib N ks cs xs
 | _, _, _ => False
theorem ib.get {N : Nat} : ∀ {ks : List Ck} {cs : List Value} {l : List V}, ib N ks cs l → ks.length = l.length ∧ cs.length = l.length ∧ ∀ (j : Nat) (x : V), l[j]? = some x → ∃ y, cs[j]? = some y ∧ pp N (ks.getD j .bool) y = some x
 | [], [], [], _ => ⟨rfl, rfl, fun j x h => by simp at h⟩
 | k :: ks, c :: cs, x :: xs, h => by
  obtain ⟨h1, h2, h3⟩ := ib.get h.2
  refine ⟨by simp [h1], by simp [h2], fun j z hz => ?_⟩
  cases j with
  | zero => simp at hz; subst hz; exact ⟨c, rfl, h.1⟩
  | succ j => simpa using h3 j z (by simpa using hz)
 | [], [], _ :: _, h => h.elim
 | [], _ :: _, _, h => h.elim
 | _ :: _, [], _, h => h.elim
 | _ :: _, _ :: _, [], h => h.elim
theorem ib.den {N : Nat} : ∀ {ks : List Ck} {cs : List Value} {l : List V}, ib N ks cs l → bj (Ro N) l = some cs
 | [], [], [], _ => rfl
 | k :: ks, c :: cs, x :: xs, h => by simp only [bj, Gi h.1, ib.den h.2]
 | [], [], _ :: _, h => h.elim
 | [], _ :: _, _, h => h.elim
 | _ :: _, [], _, h => h.elim
 | _ :: _, _ :: _, [], h => h.elim
theorem QA {N : Nat} {k : Ck} {v : Value} {x : V} (h : pp N k v = some x) : x.one = true := by
 unfold pp at h
 split at h
 ·cases h; rfl
 ·cases h; rfl
 ·cases h; rfl
 ·cases h; rfl
 ·unfold Hd at h
  (repeat' split at h) <;> first | (cases h; done) | (cases h; rfl)
 ·cases h
theorem ib.one {N : Nat} : ∀ {ks : List Ck} {cs : List Value} {l : List V}, ib N ks cs l → l.all V.one = true
 | [], [], [], _ => rfl
 | k :: ks, c :: cs, x :: xs, h => by simp only [List.all_cons, QA h.1, ib.one h.2, Bool.and_self]
 | [], [], _ :: _, h => h.elim
 | [], _ :: _, _, h => h.elim
 | _ :: _, [], _, h => h.elim
 | _ :: _, _ :: _, [], h => h.elim
section
variable {H : Type} {enc : TypeId × Value → H} {W : World} {fuel : Nat} {t : TypeId} {cs : List Value} {x : DataW H × List MemPlace}
abbrev Td (enc : TypeId × Value → H) (W : World) (fuel : Nat) (t : TypeId) (cs : List Value) : Option (DataW H × List MemPlace) := DataW.trod enc Tryz.prog W 0 (fun _ => true) true fuel t cs
theorem Ub (ht : Tryz.prog.underlying t = some .string) (h : Td enc W fuel t cs = some x) : ∃ b, cs = [.string b] := by
 cases fuel with
 | zero => simp [Td, DataW.trod] at h
 | succ n =>
  unfold Td DataW.trod at h
  rw [ht] at h
  split at h <;> simp_all
theorem xW {α : Type} {Q : Nat → α → Prop} : ∀ (n : Nat), (∀ k, k < n → ∃ z, Q k z) → ∃ xs : List α, xs.length = n ∧ ∀ k z, xs[k]? = some z → Q k z
 | 0, _ => ⟨[], rfl, fun k z h => by simp at h⟩
 | n + 1, h => by
  obtain ⟨xs, h1, h2⟩ := xW n fun k hk => h k (by omega)
  obtain ⟨z, hz⟩ := h n (by omega)
  refine ⟨xs ++ [z], by simp [h1], fun k y hy => ?_⟩
  by_cases hk : k < n
  ·rw [List.getElem?_append_left (by omega)] at hy; exact h2 k y hy
  ·have hk : k = n := by
    have := (List.getElem?_eq_some_iff.1 hy).1
    simp at this; omega
   subst hk
   rw [List.getElem?_append_right (by omega)] at hy
   simp [h1] at hy; subst hy; exact hz
end
section
variable {H : Type} {enc : TypeId × Value → H} {W : World}
def Wt (t : TypeId) (d : DataW H) : Prop := ∀ n ∈ DataW.weights Tryz.prog t d, n ≤ reachBytes
theorem nB {e : TypeId} : ∀ {ds : List (DataW H)} {d : DataW H}, d ∈ ds → ∀ n ∈ DataW.weights Tryz.prog e d, n ∈ DataW.weightsAll Tryz.prog e ds
 | [], _, h, _, _ => by cases h
 | x :: r, d, h, n, hn => by
  rw [DataW.weightsAll]
  rcases List.mem_cons.1 h with rfl | h
  ·exact List.mem_append_left _ hn
  ·exact List.mem_append_right _ (nB h n hn)
theorem jV : ∀ {ts : List TypeId} {ds : List (DataW H)} {i : Nat} {t : TypeId} {d : DataW H}, ts[i]? = some t → ds[i]? = some d → ∀ n ∈ DataW.weights Tryz.prog t d, n ∈ DataW.weightsEach Tryz.prog ts ds
 | [], _, i, _, _, h, _, _, _ => by simp at h
 | _ :: _, [], i, _, _, _, h, _, _ => by simp at h
 | t :: ts, d :: ds, 0, _, _, h, k, n, hn => by
  simp at h k; subst h; subst k
  rw [DataW.weightsEach]
  exact List.mem_append_left _ hn
 | t :: ts, d :: ds, i + 1, _, _, h, k, n, hn => by
  rw [DataW.weightsEach]
  exact List.mem_append_right _ (jV (ts := ts) (ds := ds) (i := i) (by simpa using h) (by simpa using k) n hn)
theorem Bc {N t : Nat} : ∀ (m i : Nat) (cs : List Value), (∀ j, j < m → ∃ y x, cs[j]? = some y ∧ pp N (th t (i + j)) y = some x) →
 ∀ j, j < m → ∀ y x, cs[j]? = some y → pp N (th t (i + j)) y = some x → (jv N t i cs)[j]? = some x
 | 0, i, cs, _, j, hj, _, _, _, _ => by omega
 | m + 1, i, [], h, j, hj, _, _, e, _ => by simp at e
 | m + 1, i, c :: cs, h, j, hj, y, x, e, k => by
  obtain ⟨y0, x0, h1, h2⟩ := h 0 (by omega)
  simp at h1; subst h1
  simp only [Nat.add_zero] at h2
  simp only [jv, h2]
  cases j with
  | zero =>
   simp at e; subst e
   simp only [Nat.add_zero] at k
   rw [h2] at k; cases k; rfl
  | succ j =>
   have ih := Bc m (i + 1) cs (fun j hj => by
    obtain ⟨y, x, h3, h4⟩ := h (j + 1) (by omega)
    exact ⟨y, x, by simpa using h3, by rw [show i + 1 + j = i + (j + 1) by omega]; exact h4⟩) j (by omega) y x (by simpa using e) (by rw [show i + 1 + j = i + (j + 1) by omega]; exact k)
   simpa using ih
theorem GK {w : World} {a : Addr} {v : Value} (h : w.cell? a = some v) : ∃ c e fz, w.heap[a.block]? = some (.cells c e fz) ∧ a.spot = none ∧ c[a.off]? = some v := by
 unfold World.cell? at h
 split at h
 ·rename_i c e fz hh
  split at h
  ·cases h
  ·rename_i hs
   refine ⟨c, e, fz, hh, ?_, h⟩
   cases hsp : a.spot with
   | none => rfl
   | some n => rw [hsp] at hs; simp at hs
 ·cases h
def XL {α : Type} (rd : α → List V → Prop) (xs : List α) (css : List (List V)) : Prop := css.length = xs.length ∧ ∀ (i : Nat) (x : α) (l : List V), xs[i]? = some x → css[i]? = some l → rd x l
theorem nE : ∀ (l : List V) (n : Nat), n ≤ l.length → aW n l = some (l.take n)
 | l, 0, _ => by cases l <;> rfl
 | [], n + 1, h => by simp at h
 | x :: r, n + 1, h => by simp only [aW, nE r n (by simpa using h), Option.map, List.take_succ_cons]
theorem KN {α : Type} {ty e sz : Nat} {rd : α → List V → Prop} (hu : Tryz.prog.underlying ty = some (.slice e)) (hc : Tryz.prog.cellsOf e = sz) (hs : size Tryz.prog e = some sz) (hty : ty ∈ Of)
 (hl : (RD ty).length = sz) (h0 : 0 < sz) (hb : 0 < Tryz.prog.bytesOf e) {fuel : Nat} {cs : List Value} {x : DataW H × List MemPlace} (h : Td enc W fuel ty cs = some x) (hw : Wt ty x.1)
 (hel : ∀ n cells y, fuel = n + 1 → Td enc W n e cells = some y → Wt e y.1 → ∃ (a : α) (l : List V), ib W.heap.size (RD ty) cells l ∧ rd a l) :
 ∃ c v xs css, cs = [c] ∧ pp W.heap.size (.sl ty) c = some v ∧ jO (Ex (cV W)) sz v css ∧ XL rd xs css := by
 rcases DataW.trod_slice hu h with ⟨rfl, _⟩ | ⟨a, len, cap, elems, rest, n, hn, rfl, hx, _, hle, _, hlen, hel', hsp, _⟩
 ·exact ⟨_, .nilslice, [], [], rfl, rfl, .nil, rfl, fun i x l h => by simp at h⟩
 ·subst hn
  by_cases hcap : cap = 0
  ·obtain rfl : len = 0 := by omega
   subst hcap
   exact ⟨_, .slice ⟨a.block, HZ a.spot, a.off⟩ 0 0 (some 0) 0, [], [], rfl, by simp [pp, Hd], .zero _ _ _, rfl, fun i x l h => by simp at h⟩
  ·obtain ⟨hrl, hre⟩ := hsp rfl
   have hwe : ∀ y, y ∈ elems → Wt e y.1 := fun y hy m hm => by
    refine hw m ?_
    rw [hx]
    simp only [DataW.weights, hu]
    exact List.mem_cons_of_mem _ (List.mem_append_left _ (nB (List.mem_map_of_mem hy) m hm))
   have hbn : len * Tryz.prog.bytesOf e ≤ reachBytes := by
    have := hw ((elems.length + rest.length) * Tryz.prog.bytesOf e) (by rw [hx]; simp only [DataW.weights, hu, List.length_map]; exact List.mem_cons_self)
    refine Nat.le_trans (Nat.mul_le_mul_right _ ?_) this
    omega
   have hfirst : ∃ cells, W.cells? 0 (a.add 0) sz = some cells := by
    by_cases h1 : 0 < len
    ·have := hel' 0 h1
     rw [Nat.zero_mul, hc, List.getElem?_eq_getElem (by omega)] at this
     obtain ⟨cells, h2, _⟩ := Option.bind_eq_some_iff.1 this
     exact ⟨cells, h2⟩
    ·have := hre 0 (by omega)
     rw [show (len + 0) * Tryz.prog.cellsOf e = 0 by rw [show len = 0 by omega]; simp, hc, List.getElem?_eq_getElem (by omega)] at this
     obtain ⟨cells, h2, _⟩ := Option.bind_eq_some_iff.1 this
     exact ⟨cells, h2⟩
   obtain ⟨c0, hc0⟩ := hfirst
   obtain ⟨_, hc1, hc2⟩ := World.cells?_some hc0
   have hcell := hc2 0 h0
   rw [List.getElem?_eq_getElem (by omega)] at hcell
   simp only [Addr.add, if_true] at hcell
   obtain ⟨carr, e', fz, hheap, hspot, hcell⟩ := GK hcell
   obtain ⟨b, off, spot⟩ := a
   simp only at hspot hheap hcell
   subst hspot
   have hblk : b < W.heap.size := by
    have := (Array.getElem?_eq_some_iff.1 hheap).1
    exact this
   have hoff : off < carr.size := (Array.getElem?_eq_some_iff.1 hcell).1
   obtain ⟨zs, hzl, hz⟩ := xW (Q := fun k (z : α × List V) => ∃ cells, W.cells? 0 ((⟨b, off, none⟩ : Addr).add (k * sz)) sz = some cells ∧ ib W.heap.size (RD ty) cells z.2 ∧ rd z.1 z.2) len (fun k hk => by
    have := hel' k hk
    rw [hc, List.getElem?_eq_getElem (by omega)] at this
    obtain ⟨cells, h2, h3⟩ := Option.bind_eq_some_iff.1 this
    obtain ⟨z, l, h4, h5⟩ := hel n cells _ rfl h3 (hwe _ (List.getElem_mem _))
    exact ⟨(z, l), cells, h2, h4, h5⟩)
   have hcellat : ∀ k, k < len → ∀ cells, W.cells? 0 ((⟨b, off, none⟩ : Addr).add (k * sz)) sz = some cells → ∀ i, i < sz → carr.toList[off + (k * sz + i)]? = cells[i]? := fun k hk cells hcl i hi => by
    obtain ⟨_, h1, h2⟩ := World.cells?_some hcl
    have h3 := h2 i hi
    have h4 : ((⟨b, off, none⟩ : Addr).add (k * sz)).add i = ⟨b, off + (k * sz + i), none⟩ := by
     simp only [Addr.add]
     by_cases hk0 : k * sz = 0
     ·by_cases hi0 : i = 0
      ·simp [hk0, hi0]
      ·simp [hk0, hi0]
     ·by_cases hi0 : i = 0
      ·simp [hk0, hi0]
      ·simp [hk0, hi0]; omega
    rw [h4] at h3
    simp only [World.cell?, hheap] at h3
    rw [Array.getElem?_toList]
    simpa using h3
   have hrow : ∀ k, k < len → ∀ cells l, W.cells? 0 ((⟨b, off, none⟩ : Addr).add (k * sz)) sz = some cells → ib W.heap.size (RD ty) cells l → ∀ i, i < sz → ∃ y x, (carr.toList.drop off)[k * sz + i]? = some y ∧ l[i]? = some x ∧ pp W.heap.size (th ty (0 + (k * sz + i))) y = some x := fun k hk cells l hcl hab i hi => by
    obtain ⟨h1, h2, h3⟩ := ib.get hab
    have hi' : i < l.length := by omega
    obtain ⟨y, hy1, hy2⟩ := h3 i l[i] (List.getElem?_eq_getElem hi')
    refine ⟨y, l[i], ?_, List.getElem?_eq_getElem hi', ?_⟩
    ·rw [List.getElem?_drop, hcellat k hk cells hcl i hi]; exact hy1
    ·unfold th
     rw [hl, Nat.zero_add, Nat.add_comm, Nat.add_mul_mod_self_right, Nat.mod_eq_of_lt hi]
     exact hy2
   have hall : ∀ j, j < len * sz → ∃ y x, (carr.toList.drop off)[j]? = some y ∧ pp W.heap.size (th ty (0 + j)) y = some x := fun j hj => by
    have hk : j / sz < len := Nat.div_lt_of_lt_mul (by rw [Nat.mul_comm]; exact hj)
    obtain ⟨cells, h1, h2, _⟩ := hz (j / sz) _ (List.getElem?_eq_getElem (by omega))
    obtain ⟨y, x, h3, _, h4⟩ := hrow _ hk cells _ h1 h2 (j % sz) (Nat.mod_lt _ h0)
    have hj2 : j / sz * sz + j % sz = j := by rw [Nat.mul_comm]; exact Nat.div_add_mod j sz
    rw [hj2] at h3 h4
    exact ⟨y, x, h3, h4⟩
   refine ⟨_, .slice ⟨b, off * 128 + ty, 1 + off⟩ 0 len (some cap) sz, zs.map (·.1), zs.map (·.2), rfl, ?_, ?_, by simp, fun i x l hx hl' => ?_⟩
   ·simp [pp, Hd, hcap, hle, hblk, hl, h0]
   ·refine .row _ _ _ _ (by simp [hzl]) ?_ fun k l0 hk s hK => ?_
    ·have : len ≤ reachBytes := Nat.le_trans (Nat.le_mul_of_pos_right _ hb) hbn
     unfold reachBytes at this
     omega
    rw [List.getElem?_map] at hk
    obtain ⟨z, hkz, hz0⟩ : ∃ z, zs[k]? = some z ∧ z.2 = l0 := by
     cases hh : zs[k]? with
     | none => rw [hh] at hk; cases hk
     | some z => rw [hh] at hk; cases hk; exact ⟨z, rfl, rfl⟩
    have hkl : k < len := by rw [← hzl]; exact (List.getElem?_eq_some_iff.1 hkz).1
    obtain ⟨cells, h1, h2, h3⟩ := hz k z hkz
    obtain ⟨_, l⟩ := z
    simp only at hz0 h2
    subst hz0
    ·have hst : (cV W).get b = some (.ro (sv W.heap.size carr.toList)) := by
      unfold cV
      rw [vp, if_pos hblk, hheap]
      rfl
     have hg := hK b _ hst
     simp only [loadCells, dZ, hg, CV (N := W.heap.size) (c := carr.toList) (off := off) (t := ty) (by simpa using hoff) hty]
     rw [Nat.ble_eq_true_of_le (show 1 + off ≤ 1 + off + k * sz by omega), cond_true, show 1 + off + k * sz - (1 + off) = k * sz by omega]
     obtain ⟨k1, k2, k3⟩ := ib.get h2
     have hget : ∀ i, i < sz → ((jv W.heap.size ty 0 (carr.toList.drop off)).drop (k * sz))[i]? = l[i]? := fun i hi => by
      obtain ⟨y, x, h4, h5, h6⟩ := hrow k hkl cells l h1 h2 i hi
      rw [List.getElem?_drop, h5]
      refine Bc (len * sz) 0 _ hall _ ?_ y x h4 h6
      calc k * sz + i < k * sz + sz := by omega
       _ = (k + 1) * sz := by rw [Nat.succ_mul]
       _ ≤ len * sz := Nat.mul_le_mul_right _ hkl
     have hlen2 : sz ≤ ((jv W.heap.size ty 0 (carr.toList.drop off)).drop (k * sz)).length := by
      have := hget (sz - 1) (by omega)
      rw [List.getElem?_eq_getElem (show sz - 1 < l.length by omega)] at this
      have := (List.getElem?_eq_some_iff.1 this).1
      omega
     rw [nE _ _ hlen2]
     refine congrArg some ?_
     refine List.ext_getElem? fun i => ?_
     by_cases hi : i < sz
     ·rw [List.getElem?_take_of_lt hi, hget i hi]
     ·rw [List.getElem?_eq_none (by rw [List.length_take]; omega), List.getElem?_eq_none (by omega)]
   ·rw [List.getElem?_map] at hx hl'
    cases hh : zs[i]? with
    | none => rw [hh] at hx; cases hx
    | some z =>
     rw [hh] at hx hl'
     cases hx; cases hl'
     obtain ⟨cells, _, _, h3⟩ := hz i z hh
     exact h3
end
theorem ib.app {N : Nat} : ∀ {ks : List Ck} {cs : List Value} {l : List V} {ks' : List Ck} {cs' : List Value} {l' : List V}, ib N ks cs l → ib N ks' cs' l' → ib N (ks ++ ks') (cs ++ cs') (l ++ l')
 | [], [], [], _, _, _, _, h => h
 | k :: ks, c :: cs, x :: xs, _, _, _, h, h' => ⟨h.1, ib.app h.2 h'⟩
 | [], [], _ :: _, _, _, _, h, _ => h.elim
 | [], _ :: _, _, _, _, _, h, _ => h.elim
 | _ :: _, [], _, _, _, _, h, _ => h.elim
 | _ :: _, _ :: _, [], _, _, _, h, _ => h.elim
theorem ib.cons {N : Nat} {k : Ck} {c : Value} {x : V} {ks : List Ck} {cs : List Value} {l : List V} (h : pp N k c = some x) (h' : ib N ks cs l) : ib N (k :: ks) (c :: cs) (x :: l) := ⟨h, h'⟩
theorem ib.nil {N : Nat} : ib N [] [] [] := trivial
section
variable {H : Type} {enc : TypeId × Value → H} {W : World}
theorem tM {t : TypeId} {fs : Array Field} {fuel : Nat} {cs : List Value} {x : DataW H × List MemPlace} (ht : Tryz.prog.underlying t = some (.struct fs)) (h : Td enc W fuel t cs = some x) :
 cs.length = Tryz.prog.cellsOf t ∧ ∃ n, fuel = n + 1 ∧ ∀ (i : Nat) (f : Field), fs[i]? = some f → ∃ y, Td enc W n f.type ((cs.drop f.offset).take (Tryz.prog.cellsOf f.type)) = some y ∧ (Wt t x.1 → Wt f.type y.1) := by
 obtain ⟨xs, n, hn, hx, hl, hsz, hf⟩ := DataW.trod_struct ht h
 refine ⟨hl, n, hn, fun i f hi => ?_⟩
 have hi2 : i < xs.length := by rw [hsz]; exact (Array.getElem?_eq_some_iff.1 hi).1
 have := hf i f hi
 rw [List.getElem?_eq_getElem hi2] at this
 refine ⟨_, this, fun hw m hm => hw m ?_⟩
 rw [hx]
 simp only [DataW.weights, ht]
 refine jV (i := i) (t := f.type) (d := xs[i].1) ?_ ?_ m hm
 ·rw [List.getElem?_map, Array.getElem?_toList, hi]; rfl
 ·rw [List.getElem?_map, List.getElem?_eq_getElem hi2]; rfl
theorem Qg : Tryz.prog.cellsOf 9 = 1 := by kernel_rfl
theorem Si : Tryz.prog.cellsOf 22 = 1 := by kernel_rfl
theorem Sh : Tryz.prog.cellsOf 23 = 1 := by kernel_rfl
theorem DA : Tryz.prog.cellsOf 25 = 2 := by kernel_rfl
theorem Sf : Tryz.prog.cellsOf 27 = 3 := by kernel_rfl
theorem Vh : 0 < Tryz.prog.bytesOf 9 := of_decide_eq_true (by kernel_rfl)
theorem Sk : 0 < Tryz.prog.bytesOf 25 := of_decide_eq_true (by kernel_rfl)
theorem VU {α : Type} {l : List α} (h : l.length = 2) : ∃ a b, l = [a, b] := by
 match l, h with
 | [a, b], _ => exact ⟨a, b, rfl⟩
theorem VT {α : Type} {l : List α} (h : l.length = 3) : ∃ a b c, l = [a, b, c] := by
 match l, h with
 | [a, b, c], _ => exact ⟨a, b, c, rfl⟩
abbrev Kw (W : World) : S → Prop := Ex (cV W)
theorem Pu {t : TypeId} {fuel : Nat} {cs : List Value} {x : DataW H × List MemPlace} (ht : Tryz.prog.underlying t = some .string) (h : Td enc W fuel t cs = some x) (hw : Wt t x.1) : ∃ b, cs = [.string b] ∧ (bytesOf b).length < 4611686018427387904 := by
 cases fuel with
 | zero => simp [Td, DataW.trod] at h
 | succ n =>
  obtain ⟨b, rfl⟩ := Ub ht h
  refine ⟨b, rfl, ?_⟩
  unfold Td DataW.trod at h
  rw [ht] at h
  dsimp only at h
  split at h
  ·rename_i hs
   cases h
   have h1 := hw b.data.toList.length (by simp [DataW.weights])
   have hl : (bytesOf b).length = b.data.toList.length := by simp only [bytesOf, List.length_map]
   rw [hl]
   unfold reachBytes at h1
   omega
  ·cases h
theorem TI {fuel : Nat} {cs : List Value} {x : DataW H × List MemPlace} (h : Td enc W fuel 22 cs = some x) (hw : Wt 22 x.1) : ∃ c v l, cs = [c] ∧ pp W.heap.size (.sl 22) c = some v ∧ DV (Kw W) v l := by
 obtain ⟨c, v, xs, css, h1, h2, h3, h4⟩ := KN (α := List Nat) (rd := fun x l => l = [.str x] ∧ Lx.Bytes x) Ob Qg Ep (by simp [Of]) rfl (by omega) Vh h hw (fun n cells y _ hy hwy => by
  obtain ⟨b, rfl, _⟩ := Pu Tryz.underlying9 hy hwy
  exact ⟨bytesOf b, [.str (bytesOf b)], .cons rfl .nil, rfl, GN b⟩)
 refine ⟨c, v, xs, h1, h2, ?_, fun x hx => ?_⟩
 ·have : css = xs.map fun x => [.str x] := by
   refine List.ext_getElem (by rw [List.length_map]; exact h4.1) fun i hi hi' => ?_
   rw [List.length_map] at hi'
   have := (h4.2 i xs[i] css[i] (List.getElem?_eq_getElem hi') (List.getElem?_eq_getElem hi)).1
   rw [List.getElem_map]; exact this
  rw [← this]; exact h3
 ·obtain ⟨i, hi, rfl⟩ := List.mem_iff_getElem.1 hx
  have hi2 : i < css.length := by rw [h4.1]; exact hi
  exact (h4.2 i xs[i] css[i] (List.getElem?_eq_getElem hi) (List.getElem?_eq_getElem hi2)).2
theorem OY : ∀ (N : Nat) {fuel : Nat} {cs : List Value} {x : DataW H × List MemPlace}, fuel ≤ N → Td enc W fuel 25 cs = some x → Wt 25 x.1 → ∃ (t : Ty) (l : List V), ib W.heap.size [.str, .sl 23] cs l ∧ ∃ nm rw, l = [nm, rw] ∧ ff (Kw W) t nm rw := by
 intro N
 induction N with
 | zero =>
  intro fuel cs x hN h hw
  obtain rfl : fuel = 0 := by omega
  simp [Td, DataW.trod] at h
 | succ N ih =>
  intro fuel cs x hN h hw
  obtain ⟨hl, n, hn, hf⟩ := tM Tryz.underlying25 h
  subst hn
  rw [DA] at hl
  obtain ⟨c0, c1, rfl⟩ := VU hl
  obtain ⟨_, h0, w0⟩ := hf 0 _ rfl
  obtain ⟨_, h1, w1⟩ := hf 1 _ rfl
  simp only [List.getElem_toArray, List.getElem_cons_zero, List.getElem_cons_succ, Qg, Sh, List.drop_succ_cons, List.drop_zero, List.take_succ_cons, List.take_zero] at h0 h1 w0 w1
  obtain ⟨b, e0, hb⟩ := Pu Tryz.underlying9 h0 (w0 hw)
  cases e0
  obtain ⟨c, v, ts, css, e1, e2, e3, e4⟩ := KN (α := Ty) (rd := fun t l => ∃ nm rw, l = [nm, rw] ∧ ff (Kw W) t nm rw) cX DA dj (by simp [Of]) rfl (by omega) Sk h1 (w1 hw) (fun m cells y hm hy hwy => by
   obtain ⟨t, l, g1, g2⟩ := ih (by omega) hy hwy
   exact ⟨t, l, g1, g2⟩)
  cases e1
  have hts : ea (Kw W) ts css := by
   clear e3 e2 h1
   obtain ⟨g1, g2⟩ := e4
   induction ts generalizing css with
   | nil => cases css with
    | nil => simp only [ea]
    | cons a r => simp at g1
   | cons t r ih2 => cases css with
    | nil => simp at g1
    | cons a r2 =>
     obtain ⟨nm, rw, e5, e6⟩ := g2 0 t a rfl rfl
     simp only [ea]
     exact ⟨nm, rw, r2, by rw [e5], e6, ih2 r2 (by simpa using g1) (fun i x l hx hl => g2 (i + 1) x l (by simpa using hx) (by simpa using hl))⟩
  refine ⟨.mk (bytesOf b) ts, [.str (bytesOf b), v], .cons rfl (.cons e2 .nil), _, _, rfl, ?_⟩
  simp only [ff]
  exact ⟨trivial, GN b, hb, css, e3, hts⟩
theorem OX {fuel : Nat} {cs : List Value} {x : DataW H × List MemPlace} (h : Td enc W fuel 27 cs = some x) (hw : Wt 27 x.1) : ∃ (vars : List (List Nat)) (t : Ty) (vr nm rw : V), ib W.heap.size [.sl 22, .str, .sl 23] cs [vr, nm, rw] ∧ DX (Kw W) vars t vr nm rw := by
 obtain ⟨hl, n, hn, hf⟩ := tM Tryz.underlying27 h
 subst hn
 rw [Sf] at hl
 obtain ⟨c0, c1, c2, rfl⟩ := VT hl
 obtain ⟨_, h0, w0⟩ := hf 0 _ rfl
 obtain ⟨_, h1, w1⟩ := hf 1 _ rfl
 simp only [List.getElem_toArray, List.getElem_cons_zero, List.getElem_cons_succ, Si, DA, List.drop_succ_cons, List.drop_zero, List.take_succ_cons, List.take_zero] at h0 h1 w0 w1
 obtain ⟨c, v, l, e1, e2, e3⟩ := TI h0 (w0 hw)
 cases e1
 obtain ⟨t, l2, g1, nm, rw, rfl, g2⟩ := OY n (Nat.le_refl _) h1 (w1 hw)
 exact ⟨l, t, v, nm, rw, .cons e2 g1, e3, g2⟩
end
end Go.AI.Inf
namespace Go.AI.Inf
open Go.Proofs Go.Proofs.YtkeaedhoaamfnaaGreatDoor Go.AI.Lx
theorem qP {W : World} {g : Nat} {c : Array Value} {e : TypeId} {fz : Nat × Nat} {l : List V} (h : W.heap[g]? = some (.cells c e fz)) (ha : ky W.heap.size c.toList = some l) : gz (cV W) g = some l := by
 have hg : g < W.heap.size := (Array.getElem?_eq_some_iff.1 h).1
 have hst : (cV W).get g = some (.ro (sv W.heap.size c.toList)) := by
  unfold cV
  rw [vp, if_pos hg, h]; rfl
 unfold gz
 rw [hst]
 simp only [yU ha]
 try rfl
theorem yg {N : Nat} : ∀ (l : List Int), ky N (l.map fun z => Value.int .u64 z) = some (l.map fun z => V.int .u64 z)
 | [] => rfl
 | x :: r => by simp only [List.map_cons, ky, NH, yg r]
structure QL (W : World) : Prop where
 mx : ∃ m e fz, W.heap[1]? = some (.cells #[.int .i64 m] e fz)
 syn : ∃ te b off e fz, W.heap[4]? = some (.cells #[.iface te (.pointer (some ⟨b, off, none⟩))] e fz) ∧ b < W.heap.size
 rng : ∃ te b off e fz, W.heap[5]? = some (.cells #[.iface te (.pointer (some ⟨b, off, none⟩))] e fz) ∧ b < W.heap.size
 pow : ∃ c e fz, W.heap[0]? = some (.cells c e fz) ∧ c.toList = Lib.pow10Tab.map fun z => Value.int .u64 z
theorem MY {W : World} (h : QL W) : cd (cV W) := by
 obtain ⟨⟨m, e1, f1, h1⟩, ⟨t2, b2, o2, e2, f2, h2, k2⟩, ⟨t3, b3, o3, e3, f3, h3, k3⟩, ⟨c, e4, f4, h4, k4⟩⟩ := h
 refine ⟨⟨[.int .i64 m], qP h1 rfl, rfl⟩, ⟨[.iface t2 (.ptr ⟨b2, 0, 1 + o2⟩)], qP h2 (by simp [ky, NH, k2]), rfl⟩, ⟨[.iface t3 (.ptr ⟨b3, 0, 1 + o3⟩)], qP h3 (by simp [ky, NH, k3]), rfl⟩, qP h4 (by rw [k4]; exact yg _)⟩
end Go.AI.Inf
namespace Go.AI.Inf
open Go.Proofs Go.Proofs.YtkeaedhoaamfnaaGreatDoor Go.AI.Lx Go.ChangeShapes
section
variable {W : World} {t : TypeId} {fuel : Nat} {cs : List Value} {ps : List MemPlace}
abbrev Tl (W : World) (fuel : Nat) (t : TypeId) (cs : List Value) : Option (DataW Unit × List MemPlace) := DataW.trod (fun _ => ()) Tryz.prog W 0 (fun _ => true) false fuel t cs
theorem Tw {e n : Nat} {l : List Int} (ht : Tryz.prog.underlying t = some (.array n e)) (he : Tryz.prog.underlying e = some (.int .u64)) (hc : Tryz.prog.cellsOf e = 1) (hct : Tryz.prog.cellsOf t = n) (h : Tl W fuel t cs = some (.agg (l.map fun z => .lit (.int .u64 z)), ps)) :
 cs = l.map fun z => Value.int .u64 z := by
 obtain ⟨xs, m, _, hx, hl, hxl, hat⟩ := DataW.trod_array ht h
 have hm : xs.map (·.1) = l.map fun z => DataW.lit (.int .u64 z) := by
  have := congrArg Prod.fst hx
  simp only [DataW.agg.injEq] at this
  exact this.symm
 have hll : l.length = n := by
  have := congrArg List.length hm
  simp only [List.length_map] at this
  omega
 rw [hct] at hl
 refine List.ext_getElem (by rw [List.length_map]; omega) fun i hi hi' => ?_
 rw [List.length_map] at hi'
 have h1 := hat i (by omega)
 rw [hc, Nat.mul_one, List.drop_eq_getElem_cons hi, List.take_succ_cons, List.take_zero, List.getElem?_eq_getElem (by omega)] at h1
 obtain ⟨z, h2, h3, _⟩ := DataW.trod_int he h1
 have h4 : (xs.map (·.1))[i]'(by rw [List.length_map]; omega) = (l.map fun z => DataW.lit (H := Unit) (.int .u64 z))[i]'(by rw [List.length_map]; omega) := by
  simp only [hm]
 rw [List.getElem_map, List.getElem_map, h3] at h4
 simp only [DataW.lit.injEq, Lit.int.injEq, true_and] at h4
 rw [List.getElem_map, ← h4]
 simpa using h2
end
section
variable {W : World} {t : TypeId} {fuel : Nat} {cs : List Value} {ps : List MemPlace}
theorem Ph {s : List UInt8} (h : Tl W fuel t [] = some (.lit (.string s), ps)) : False := by
 cases fuel with
 | zero => simp [Tl, DataW.trod] at h
 | succ n =>
  unfold Tl DataW.trod at h
  split at h <;> simp_all
theorem TO {s : List UInt8} (h : Tl W fuel t [] = some (.agg [.lit (.string s)], ps)) : False := by
 cases hu : Tryz.prog.underlying t with
 | none =>
  cases fuel with
  | zero => simp [Tl, DataW.trod] at h
  | succ n => unfold Tl DataW.trod at h; rw [hu] at h; simp at h
 | some d =>
  cases d with
  | struct fs =>
   obtain ⟨xs, n, _, hx, _, hl, hf⟩ := DataW.trod_struct hu h
   have h1 : xs.map (·.1) = [.lit (.string s)] := by
    have := congrArg Prod.fst hx
    simp only [DataW.agg.injEq] at this
    exact this.symm
   obtain ⟨x, rfl⟩ : ∃ x, xs = [x] := List.length_eq_one_iff.1 (by have := congrArg List.length h1; simpa using this)
   have hs : 0 < fs.size := by simp at hl; omega
   have h2 := hf 0 fs[0] (Array.getElem?_eq_getElem hs)
   simp only [List.drop_nil, List.take_nil, List.getElem?_cons_zero] at h2
   simp at h1
   exact Ph (W := W) (s := s) (ps := x.2) (by unfold Tl; rw [h2, ← h1])
  | array m e =>
   obtain ⟨xs, n, _, hx, _, hl, hf⟩ := DataW.trod_array hu h
   have h1 : xs.map (·.1) = [.lit (.string s)] := by
    have := congrArg Prod.fst hx
    simp only [DataW.agg.injEq] at this
    exact this.symm
   obtain ⟨x, rfl⟩ : ∃ x, xs = [x] := List.length_eq_one_iff.1 (by have := congrArg List.length h1; simpa using this)
   have hs : 0 < m := by simp at hl; omega
   have h2 := hf 0 hs
   simp only [List.drop_nil, List.take_nil, List.getElem?_cons_zero] at h2
   simp at h1
   exact Ph (W := W) (s := s) (ps := x.2) (by unfold Tl; rw [h2, ← h1])
  | _ =>
   cases fuel with
   | zero => simp [Tl, DataW.trod] at h
   | succ n => unfold Tl DataW.trod at h; rw [hu] at h; simp at h
theorem TJ {s : List UInt8} (h : Tl W fuel t cs = some (.ptr (.agg [.lit (.string s)]), ps)) : ∃ a, cs = [.pointer (some a)] ∧ a.spot = none ∧ a.block < W.heap.size ∧ ∃ e, Tryz.prog.underlying t = some (.pointer e) := by
 have key : ∃ e, Tryz.prog.underlying t = some (.pointer e) := by
  cases fuel with
  | zero => simp [Tl, DataW.trod] at h
  | succ n =>
   unfold Tl DataW.trod at h
   split at h <;> simp_all
   all_goals first
    | (simp [Option.bind_eq_some_iff, Option.map_eq_some_iff] at h; done)
    | (split at h <;> simp [Option.bind_eq_some_iff, Option.map_eq_some_iff] at h; done)
    | (repeat' split at h) <;> simp_all [Option.bind_eq_some_iff, Option.map_eq_some_iff]
 obtain ⟨e, he⟩ := key
 rcases DataW.trod_pointer he h with ⟨_, h1⟩ | ⟨a, cs', y, n, _, rfl, h1, h2, h3⟩
 ·simp at h1
 ·have hy : y.1 = .agg [.lit (.string s)] := by
   have := congrArg Prod.fst h1
   simp only [DataW.ptr.injEq] at this
   exact this.symm
  have hne : cs' ≠ [] := fun hh => by
   subst hh
   exact TO (W := W) (s := s) (ps := y.2) (by unfold Tl; rw [h3, ← hy])
  obtain ⟨_, hc1, hc2⟩ := World.cells?_some h2
  have h0 : 0 < cs'.length := List.length_pos_iff.2 hne
  have hcell := hc2 0 (by omega)
  rw [List.getElem?_eq_getElem h0] at hcell
  obtain ⟨c, e', fz, h4, h5, h6⟩ := GK hcell
  refine ⟨a, rfl, ?_, ?_, e, he⟩
  ·simpa [Addr.add] using h5
  ·have := (Array.getElem?_eq_some_iff.1 h4).1
   simpa [Addr.add] using this
theorem PC {name : String} {ms : Array (String × TypeId)} {s : List UInt8} (ht : Tryz.prog.underlying t = some (.interface ms)) (h : Tl W fuel t cs = some (.iface name (.ptr (.agg [.lit (.string s)])), ps)) :
 ∃ u v a, cs = [.iface u v] ∧ v.cells.toList = [.pointer (some a)] ∧ a.spot = none ∧ a.block < W.heap.size ∧ ∃ e, Tryz.prog.underlying u = some (.pointer e) := by
 cases fuel with
 | zero => simp [Tl, DataW.trod] at h
 | succ n =>
  unfold Tl DataW.trod at h
  rw [ht] at h
  split at h <;> simp_all
  rename_i u v _
  split at h
  ·cases h
  ·simp only [Option.map_eq_some_iff] at h
   obtain ⟨y, hy, h1⟩ := h
   simp only [Prod.mk.injEq, DataW.iface.injEq] at h1
   obtain ⟨a, h2, h3, h4, h5⟩ := TJ (W := W) (s := s) (ps := y.2) (by unfold Tl; rw [hy, ← h1.1.2])
   exact ⟨u, v, ⟨rfl, rfl⟩, a, h2, h3, h4, h5⟩
  ·cases h
end
end Go.AI.Inf
namespace Go.AI.Inf
open Go.Proofs Go.Proofs.YtkeaedhoaamfnaaGreatDoor Go.AI.Lx Go.ChangeShapes
set_option maxRecDepth 10000
theorem wP {P : Program} {w : World} : ∀ {l : List (String × DataW Unit)} {ps : List MemPlace} {n : String} {d : DataW Unit}, DataW.LaidVars P w l ps → (n, d) ∈ l →
 ∃ g t cs fuel p, P.globalNamed n = some g ∧ (P.globals[g]?).map (·.type) = some t ∧ w.var? P n = some cs ∧ DataW.trod (fun _ => ()) P w 0 (fun _ => true) false fuel t cs.toList = some (d, p) ∧ ∀ x ∈ MemPlace.row ⟨g, 0, none⟩ cs.size ++ p, x ∈ ps
 | [], ps, n, d, _, h => by cases h
 | (m, c) :: r, ps, n, d, hl, h => by
  obtain ⟨g, t, cs, fuel, p, q, e1, e2, e3, e4, hr, rfl⟩ := hl
  rcases List.mem_cons.1 h with h | h
  ·cases h
   exact ⟨g, t, cs, fuel, p, e1, e2, e3, e4, fun x hx => List.mem_append_left _ hx⟩
  ·obtain ⟨g', t', cs', fuel', p', a, b, c', d', e⟩ := wP hr h
   exact ⟨g', t', cs', fuel', p', a, b, c', d', fun x hx => List.mem_append_right _ (e x hx)⟩
theorem zB {P : Program} {w : World} {n : String} {g : Nat} {cs : Array Value} (hg : P.globalNamed n = some g) (h : w.var? P n = some cs) : ∃ e fz, w.heap[g]? = some (.cells cs e fz) := by
 unfold World.var? at h
 rw [hg] at h
 simp only [Option.bind_some] at h
 split at h
 ·rename_i c e fz hh; cases h; exact ⟨e, fz, hh⟩
 ·cases h
theorem PG : Tryz.prog.globalNamed "internal/strconv.uint64pow10" = some 0 := by kernel_rfl
theorem Up : Tryz.prog.globalNamed "strconv.ErrSyntax" = some 4 := by kernel_rfl
theorem Uq : Tryz.prog.globalNamed "strconv.ErrRange" = some 5 := by kernel_rfl
theorem Lu {W : World} {l : List (String × DataW Unit)} {n : String} {g : Nat} {t : TypeId} {name : String} {ms : Array (String × TypeId)} {s : List UInt8} (hl : laidMet Tryz.prog l W) (hm : (n, .iface name (.ptr (.agg [.lit (.string s)]))) ∈ l)
 (hg : Tryz.prog.globalNamed n = some g) (ht : (Tryz.prog.globals[g]?).map (·.type) = some t) (hu : Tryz.prog.underlying t = some (.interface ms)) :
 ∃ te b off e fz, W.heap[g]? = some (.cells #[.iface te (.pointer (some ⟨b, off, none⟩))] e fz) ∧ b < W.heap.size := by
 obtain ⟨ps, hv, _, hrow⟩ := hl
 obtain ⟨g', t', cs, fuel, p, e1, e2, e3, e4, e5⟩ := wP hv hm
 rw [hg] at e1; cases e1
 rw [ht] at e2; cases e2
 obtain ⟨e, fz, hh⟩ := zB hg e3
 obtain ⟨u, v, a, h1, h2, h3, h4, e', h5⟩ := PC hu e4
 have hcs : cs = #[.iface u v] := by
  exact Array.ext' h1
 subst hcs
 have hcell : W.cell? ⟨g, 0, none⟩ = some (.iface u v) := by
  unfold World.cell?
  simp only [hh]; rfl
 have hin : MemPlace.cell g 0 ∈ MemPlace.row ⟨g, 0, none⟩ (#[Value.iface u v]).size := by
  unfold MemPlace.row
  exact List.mem_map.2 ⟨0, List.mem_range.2 Nat.zero_lt_one, rfl⟩
 have hin2 := e5 _ (List.mem_append_left _ hin)
 have hok := (hrow g 0 hin2).2 u v hcell
 have hvp : v = .pointer (some a) := by
  unfold Value.okWide at hok
  rw [h5] at hok
  simp only [] at hok
  unfold Cell.okWide at hok
  rw [h5] at hok
  cases v with
  | agg c => simp only [Value.cells] at h2; simp [Cell.ok, h5] at hok
  | _ => simp_all [Value.cells]
 subst hvp
 obtain ⟨b, off, spot⟩ := a
 simp only at h3 h4
 subst h3
 exact ⟨u, b, off, e, fz, hh, h4⟩
theorem Uo : (Tryz.prog.globals[0]?).map (·.type) = some 325 := by kernel_rfl
theorem Ul : (Tryz.prog.globals[4]?).map (·.type) = some 335 := by kernel_rfl
theorem Um : (Tryz.prog.globals[5]?).map (·.type) = some 335 := by kernel_rfl
end Go.AI.Inf
namespace Go.AI.Inf
open Go.Proofs Go.Proofs.YtkeaedhoaamfnaaGreatDoor Go.AI.Lx Go.ChangeShapes
end Go.AI.Inf
namespace Go.AI.Inf
open Go.Proofs Go.Proofs.YtkeaedhoaamfnaaGreatDoor Go.AI.Lx Go.ChangeShapes
set_option maxRecDepth 10000
theorem Tx {W : World} (hl : laidMet Tryz.prog Rows.inferTypesRow.laid W) : ∃ te b off e fz, W.heap[4]? = some (.cells #[.iface te (.pointer (some ⟨b, off, none⟩))] e fz) ∧ b < W.heap.size :=
 Lu hl (n := "strconv.ErrSyntax") (name := "*errors.errorString") (s := [105, 110, 118, 97, 108, 105, 100, 32, 115, 121, 110, 116, 97, 120]) (List.Mem.tail _ (List.Mem.tail _ (List.Mem.tail _ (List.Mem.tail _ (List.Mem.tail _ (List.Mem.head _)))))) Up Ul Tryz.underlying335
theorem TH {W : World} (hl : laidMet Tryz.prog Rows.inferTypesRow.laid W) : ∃ te b off e fz, W.heap[5]? = some (.cells #[.iface te (.pointer (some ⟨b, off, none⟩))] e fz) ∧ b < W.heap.size :=
 Lu hl (n := "strconv.ErrRange") (name := "*errors.errorString") (s := [118, 97, 108, 117, 101, 32, 111, 117, 116, 32, 111, 102, 32, 114, 97, 110, 103, 101]) (List.Mem.tail _ (List.Mem.tail _ (List.Mem.tail _ (List.Mem.tail _ (List.Mem.head _))))) Uq Um Tryz.underlying335
theorem Pv : Rows.laid_internal_strconv_uint64pow10 (H := Unit) = DataW.agg (Lib.pow10Tab.map fun z => .lit (.int .u64 z)) := by rfl
theorem TM {W : World} (hl : laidMet Tryz.prog Rows.inferTypesRow.laid W) : ∃ c e fz, W.heap[0]? = some (.cells c e fz) ∧ c.toList = Lib.pow10Tab.map fun z => Value.int .u64 z := by
 obtain ⟨ps, hv, _, _⟩ := hl
 obtain ⟨g', t', cs, fuel, p, e1, e2, e3, e4, e5⟩ := wP hv (n := "internal/strconv.uint64pow10") (d := Rows.laid_internal_strconv_uint64pow10) (List.Mem.tail _ (List.Mem.tail _ (List.Mem.head _)))
 rw [PG] at e1; cases e1
 rw [Uo] at e2; cases e2
 obtain ⟨e, fz, hh⟩ := zB PG e3
 rw [Pv] at e4
 exact ⟨cs, e, fz, hh, Tw Tryz.underlying325 (by kernel_rfl) (by kernel_rfl) (by kernel_rfl) e4⟩
theorem VM {W : World} (hs : W.ShapedOpen Tryz.prog) : ∃ m e fz, W.heap[1]? = some (.cells #[.int .i64 m] e fz) := by
 obtain ⟨cs, h1, h2, h3⟩ := hs.1 1 #[.int .i64 0] 3 (of_decide_eq_true (by kernel_rfl)) (by kernel_rfl)
 obtain ⟨ts, h5, _, h6⟩ := h3 (by kernel_rfl)
 have hts : Tryz.prog.cellTypes Tryz.prog.depth 3 = some [3] := by kernel_rfl
 rw [hts] at h5; cases h5
 have hsz : cs.size = 1 := h2
 have h0 : cs[0]? = some (cs[0]'(by omega)) := Array.getElem?_eq_getElem (by omega)
 obtain ⟨u, h7, h8⟩ := h6 0 _ h0
 cases h7
 unfold Cell.ok at h8
 rw [Tryz.underlying3] at h8
 have hcs : cs = #[cs[0]'(by omega)] := Array.ext (by simp [hsz]) (fun i hi hi' => by
  have : i = 0 := by omega
  subst this; rfl)
 generalize cs[0]'(by omega) = v at hcs h8
 subst hcs
 cases v <;> simp_all
 all_goals first
  | (obtain ⟨rfl, _⟩ := h8; exact ⟨_, _, _, h1⟩)
  | exact ⟨_, _, _, h1⟩
  | skip
end Go.AI.Inf
namespace Go.AI.Inf
open Go.Proofs Go.Proofs.YtkeaedhoaamfnaaGreatDoor Go.AI.Lx Go.ChangeShapes
theorem PH {W : World} (hl : laidMet Tryz.prog Rows.inferTypesRow.laid W) (hs : W.ShapedOpen Tryz.prog) : QL W := ⟨VM hs, Tx hl, TH hl, TM hl⟩
end Go.AI.Inf
namespace Go.AI.Inf
open Go.Proofs Go.Proofs.YtkeaedhoaamfnaaGreatDoor Go.AI.Lx Go.ChangeShapes Go.WideShapes Go.ChangeAt Go.RowKit
theorem Wj : Go.AI.Good Tryz.prog (lim aq) := Pt (dO rfl rfl) Xm (bY rfl rfl)
theorem Qq {W W' : World} {ρ' : aE} (h : FR (Ro W.heap.size) W ρ' W') : Below W.heap.size W W' :=
 ⟨h.os, h.tape, h.output, h.size, fun k hk => h.same k hk fun f v l e hro => by
  unfold Ro at e
  split at e
  ·cases e; exact absurd (show (0 : Nat) < 1 from Nat.zero_lt_one) hro
  ·cases e⟩
theorem VV (W : World) : Kn (Kw W) 0 := fun _ _ _ _ hf he => hf.ex he
theorem Nz {f : FuncId} {W : World} {args : List V} {ys : List Value} (h : Cw aq f args (cV W) fun v s' => v = .bool true ∧ Fw [] (cV W) s') (hd : bj (Ro W.heap.size) args = some ys) :
 Calls Tryz.prog f ys.toArray W fun e w' => e = .returned (.bool true) ∧ Below W.heap.size W w' := by
 obtain ⟨v, s', call, rfl, _⟩ := h
 have hs : gk Tryz.prog f args none (cV W) ⟨.returned (.bool true), none, s'⟩ := Wj (.call f _ none) _ _ call
 refine (xR hs (KE W) hd).mono fun e w' ⟨ρ', z, he, hz, _, hfr⟩ => ?_
 simp only [den, Option.some.injEq] at hz
 subst hz
 exact ⟨he, Qq hfr⟩
theorem Dj {ρ : aE} {l : List V} {c : Array Value} (h : bj ρ l = some c.toList) : den ρ (.agg l) = some (.agg c) := by
 simp only [den, h, Array.toArray_toList]
theorem own : ownKnob Tryz.prog.godebug = none := by kernel_rfl
theorem CL : laidOutB Tryz.prog = true := by kernel_rfl
theorem SL : Tryz.prog.readableRec 27 = true := by kernel_rfl
theorem SJ : 27 < Tryz.prog.types.size := of_decide_eq_true (by kernel_rfl)
end Go.AI.Inf
