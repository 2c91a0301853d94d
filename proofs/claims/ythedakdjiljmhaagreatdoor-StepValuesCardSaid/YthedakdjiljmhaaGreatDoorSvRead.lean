/- The arguments as a state of the evaluator. No conditions. -/
import Derived.Test.YthedakdjiljmhaaGreatDoorSvLaw
import Derived.Test.YthedakdjiljmhaaGreatDoorA12
import Derived.Deep.Slices
import GoSem.ClaimJoined
import Derived.ChangeArms
import Derived.DataReads
set_option linter.unusedVariables false
set_option linter.unusedSimpArgs false
noncomputable section
/- A world as an abstract state of blocks that are only read. -/
namespace Go.AI.Sv
open Go.Proofs

inductive Ck where
  | bool | int | str | sl (t : Nat)

/-- The cells of an element of the rows of a type. -/
def lay : Nat → List Ck
  | 24 => [.int, .int, .sl 73]
  | 25 => [.int, .str, .int, .sl 73, .int]
  | 26 => [.str, .bool, .int]
  | 27 => [.str, .str, .int, .sl 31]
  | 31 => [.str, .int, .sl 31]
  | 73 => [.bool, .int]
  | _ => []
def tys : List Nat := [24, 25, 26, 27, 31, 73]
def kindAt (t i : Nat) : Ck := (lay t).getD (i % (lay t).length) .bool

def bytesOf (s : ByteArray) : List Nat := s.data.toList.map UInt8.toNat
theorem bytesV_of (s : ByteArray) : bytesV (bytesOf s) = s := by
  obtain ⟨a⟩ := s
  simp only [bytesV, bytesOf, List.map_map]
  congr 1
  have : (UInt8.ofNat ∘ UInt8.toNat) = id := by funext x; simp
  rw [this, List.map_id]
theorem bytes_of (s : ByteArray) : Bytes (bytesOf s) := by
  intro b hb
  simp only [bytesOf, List.mem_map] at hb
  obtain ⟨x, _, rfl⟩ := hb
  exact x.toNat_lt

def spotNo : Option Nat → Nat
  | none => 0
  | some n => n + 1
theorem rawSpot_no (o : Option Nat) : rawSpot (spotNo o) = o := by cases o <;> rfl

def absSl (N t : Nat) (a : Addr) (len cap : Nat) : Option V :=
  if cap = 0 then (if len = 0 then some (.slice ⟨a.block, spotNo a.spot, a.off⟩ 0 0 (some 0) 0) else none)
  else if a.spot = none ∧ len ≤ cap ∧ a.block < N ∧ 0 < (lay t).length then some (.slice ⟨a.block, a.off * 128 + t, 1 + a.off⟩ 0 len (some cap) (lay t).length) else none
def absC (N : Nat) : Ck → Value → Option V
  | .bool, .bool b => some (.bool b)
  | .int, .int .i64 n => some (.int .i64 n)
  | .str, .string s => some (.str (bytesOf s))
  | .sl _, .slice none 0 0 => some .nilslice
  | .sl t, .slice (some a) len cap => absSl N t a len cap
  | _, _ => none

def Ro (N : Nat) : Rho := fun f _ => if f < N then some ⟨f, 1, 0⟩ else none

theorem den_absC {N : Nat} {k : Ck} {v : Value} {x : V} (h : absC N k v = some x) : den (Ro N) x = some v := by
  unfold absC at h
  split at h
  · cases h; rfl
  · cases h; rfl
  · cases h; simp only [den, bytesV_of]
  · cases h; rfl
  · rename_i t a len cap
    unfold absSl at h
    split at h
    · rename_i hc
      split at h
      · rename_i hl
        cases h; subst hc; subst hl
        simp only [den, denSl, if_true, and_self, rawSpot_no]
      · cases h
    · split at h
      · rename_i hc
        obtain ⟨h1, h2, h3, h4⟩ := hc
        cases h
        have hr : Ro N a.block (a.off * 128 + t) = some ⟨a.block, 1, 0⟩ := by simp [Ro, h3]
        have := slice_mk (ρ := Ro N) (a := ⟨a.block, a.off * 128 + t, 1 + a.off⟩) (z := 0) (len := len) (cap := some cap) (sz := (lay t).length) hr (by simp [coordOf]) (by simp) (by simpa [capOf] using h2) h4
        rw [this]
        obtain ⟨b, o, sp⟩ := a
        simp only at h1
        subst h1
        simp [coordOf, capOf]
      · cases h
  · cases h

def absRow (N t : Nat) : Nat → List Value → List V
  | _, [] => []
  | i, c :: r => match absC N (kindAt t i) c with
    | some x => x :: absRow N t (i + 1) r
    | none => []
theorem absRow_den {N t : Nat} : ∀ (i : Nat) (cs : List Value) (j : Nat) (x : V), (absRow N t i cs)[j]? = some x → ∃ y, den (Ro N) x = some y ∧ cs[j]? = some y
  | i, [], j, x, h => by simp [absRow] at h
  | i, c :: r, j, x, h => by
    simp only [absRow] at h
    split at h
    · rename_i x' hx
      cases j with
      | zero => simp at h; subst h; exact ⟨c, den_absC hx, rfl⟩
      | succ j => exact absRow_den (i + 1) r j x (by simpa using h)
    · simp at h
theorem absRow_get {N t : Nat} : ∀ (m i : Nat) (cs : List Value) (xs : List V), xs.length = m → (∀ j x, xs[j]? = some x → ∃ y, cs[j]? = some y ∧ absC N (kindAt t (i + j)) y = some x) → (absRow N t i cs).take m = xs
  | 0, i, cs, xs, hl, _ => by simp at hl; subst hl; simp
  | m + 1, i, cs, [], hl, _ => by simp at hl
  | m + 1, i, [], x :: xs, hl, h => by obtain ⟨y, hy, _⟩ := h 0 x rfl; simp at hy
  | m + 1, i, c :: cs, x :: xs, hl, h => by
    obtain ⟨y, hy, hx⟩ := h 0 x rfl
    simp at hy; subst hy
    have ih := absRow_get m (i + 1) cs xs (by simpa using hl) (fun j z hz => by
      obtain ⟨y, h1, h2⟩ := h (j + 1) z (by simpa using hz)
      exact ⟨y, by simpa using h1, by rw [show i + 1 + j = i + (j + 1) by omega]; exact h2⟩)
    simp only [Nat.add_zero] at hx
    simp only [absRow, hx, List.take_succ_cons, ih]

def versOf (N : Nat) (c : List Value) : List Ver := (List.range c.length).flatMap fun off => tys.map fun t => ⟨off * 128 + t, 1 + off, absRow N t 0 (c.drop off)⟩
def blkOf (N : Nat) : Option Obj → Blk
  | some (.cells c _ _) => .ro (versOf N c.toList)
  | _ => .ro []

theorem findVer_of {v : Nat} {u : Ver} : ∀ {vers : List Ver}, u ∈ vers → u.v = v → (∀ u' ∈ vers, u'.v = v → u' = u) → findVer vers v = some u
  | [], h, _, _ => by cases h
  | w :: r, h, hv, hu => by
    simp only [findVer]
    cases hb : Nat.beq w.v v with
    | true => rw [hu w (by simp) (Nat.eq_of_beq_eq_true hb)]; rfl
    | false =>
      rcases List.mem_cons.1 h with rfl | h
      · rw [hv, Nat.beq_refl] at hb; cases hb
      · exact findVer_of h hv fun u' hu' => hu u' (List.mem_cons_of_mem _ hu')
theorem tys_lt {t : Nat} (h : t ∈ tys) : t < 128 := by
  simp [tys] at h; omega
theorem findVer_vers {N : Nat} {c : List Value} {off t : Nat} (h : off < c.length) (ht : t ∈ tys) : findVer (versOf N c) (off * 128 + t) = some ⟨off * 128 + t, 1 + off, absRow N t 0 (c.drop off)⟩ := by
  refine findVer_of ?_ rfl ?_
  · simp only [versOf, List.mem_flatMap, List.mem_range, List.mem_map]
    exact ⟨off, h, t, ht, rfl⟩
  · intro u' hu' hv
    simp only [versOf, List.mem_flatMap, List.mem_range, List.mem_map] at hu'
    obtain ⟨o, _, t', ht', rfl⟩ := hu'
    simp only at hv
    have h1 := tys_lt ht
    have h2 := tys_lt ht'
    obtain rfl : o = off := by omega
    obtain rfl : t' = t := by omega
    rfl

def mkS (N : Nat) (W : World) : Nat → S
  | 0 => ⟨.leaf, 0⟩
  | n + 1 => (mkS N W n).alloc (blkOf N W.heap[n]?)
theorem mkS_next (N : Nat) (W : World) : ∀ n, (mkS N W n).next = n
  | 0 => rfl
  | n + 1 => by simp only [mkS, S.next_alloc, mkS_next N W n]
theorem mkS_get (N : Nat) (W : World) : ∀ n f, (mkS N W n).get f = if f < n then some (blkOf N W.heap[f]?) else none
  | 0, f => by simp only [mkS, S.get_eq, T.get_leaf]; simp
  | n + 1, f => by
    simp only [mkS, S.get_alloc, mkS_next, mkS_get N W n f]
    by_cases hf : n = f
    · subst hf; simp
    · by_cases h2 : f < n
      · simp [hf, h2, show f < n + 1 by omega]
      · simp [hf, h2, show ¬ f < n + 1 by omega]

/-- The state of a world. -/
def stOf (W : World) : S := mkS W.heap.size W W.heap.size

theorem stOf_get {W : World} {f : Nat} {B : Blk} (h : (stOf W).get f = some B) : f < W.heap.size ∧ B = blkOf W.heap.size W.heap[f]? := by
  unfold stOf at h
  rw [mkS_get] at h
  split at h
  · rename_i hf; exact ⟨hf, by cases h; rfl⟩
  · cases h
theorem blkOf_ro (N : Nat) (o : Option Obj) : ∃ vs, blkOf N o = .ro vs := by
  unfold blkOf
  split
  · exact ⟨_, rfl⟩
  · exact ⟨_, rfl⟩

theorem stOf_HR (W : World) : HR (Ro W.heap.size) (stOf W) W := by
  refine ⟨?_, ?_, ?_, ?_, ?_, ?_⟩
  · intro f v hf
    unfold stOf at hf
    rw [mkS_next] at hf
    simp [Ro, show ¬ f < W.heap.size by omega]
  · intro f v l f' v' l' e e' hb
    unfold Ro at e e'
    split at e
    · split at e'
      · cases e; cases e'; exact ⟨hb, rfl⟩
      · cases e'
    · cases e
  · intro f v l e
    unfold Ro at e
    split at e
    · rename_i hf; cases e; exact hf
    · cases e
  · intro f B hB
    obtain ⟨hf, rfl⟩ := stOf_get hB
    unfold blkOf
    split
    · rename_i c e fz ho
      intro u hu
      simp only [versOf, List.mem_flatMap, List.mem_range, List.mem_map] at hu
      obtain ⟨off, hoff, t, ht, rfl⟩ := hu
      refine ⟨⟨f, 1, 0⟩, c, e, fz, by simp [Ro, hf], ho, by simp, fun i x hx => ?_⟩
      obtain ⟨y, h1, h2⟩ := absRow_den 0 _ i x hx
      refine ⟨y, h1, ?_⟩
      rw [List.getElem?_drop, Array.getElem?_toList] at h2
      simp only
      rw [show 1 + off - 1 + i = off + i by omega]
      exact h2
    · intro u hu; cases hu
  · intro f B hB
    have := (stOf_get hB).1
    unfold stOf
    rw [mkS_next]; exact this
  · intro f B hB hn
    obtain ⟨_, rfl⟩ := stOf_get hB
    obtain ⟨vs, hv⟩ := blkOf_ro W.heap.size W.heap[f]?
    exact absurd hv (hn vs)
theorem stOf_WF (W : World) : WF (stOf W) := (stOf_HR W).dom
end Go.AI.Sv
/- From the kit's reading of the arguments to the evaluator's. -/
namespace Go.AI.Sv
open Go.Proofs Go.ChangeShapes

def AbsL (N : Nat) : List Ck → List Value → List V → Prop
  | [], [], [] => True
  | k :: ks, c :: cs, x :: xs => absC N k c = some x ∧ AbsL N ks cs xs
  | _, _, _ => False

theorem AbsL.get {N : Nat} : ∀ {ks : List Ck} {cs : List Value} {l : List V}, AbsL N ks cs l → ks.length = l.length ∧ cs.length = l.length ∧ ∀ (j : Nat) (x : V), l[j]? = some x → ∃ y, cs[j]? = some y ∧ absC N (ks.getD j .bool) y = some x
  | [], [], [], _ => ⟨rfl, rfl, fun j x h => by simp at h⟩
  | k :: ks, c :: cs, x :: xs, h => by
    obtain ⟨h1, h2, h3⟩ := AbsL.get h.2
    refine ⟨by simp [h1], by simp [h2], fun j z hz => ?_⟩
    cases j with
    | zero => simp at hz; subst hz; exact ⟨c, rfl, h.1⟩
    | succ j => simpa using h3 j z (by simpa using hz)
  | [], [], _ :: _, h => h.elim
  | [], _ :: _, _, h => h.elim
  | _ :: _, [], _, h => h.elim
  | _ :: _, _ :: _, [], h => h.elim
theorem AbsL.den {N : Nat} : ∀ {ks : List Ck} {cs : List Value} {l : List V}, AbsL N ks cs l → denL (Ro N) l = some cs
  | [], [], [], _ => rfl
  | k :: ks, c :: cs, x :: xs, h => by simp only [denL, den_absC h.1, AbsL.den h.2]
  | [], [], _ :: _, h => h.elim
  | [], _ :: _, _, h => h.elim
  | _ :: _, [], _, h => h.elim
  | _ :: _, _ :: _, [], h => h.elim
theorem absC_one {N : Nat} {k : Ck} {v : Value} {x : V} (h : absC N k v = some x) : x.one = true := by
  unfold absC at h
  split at h
  · cases h; rfl
  · cases h; rfl
  · cases h; rfl
  · cases h; rfl
  · unfold absSl at h
    (repeat' split at h) <;> first | (cases h; done) | (cases h; rfl)
  · cases h
theorem AbsL.one {N : Nat} : ∀ {ks : List Ck} {cs : List Value} {l : List V}, AbsL N ks cs l → l.all V.one = true
  | [], [], [], _ => rfl
  | k :: ks, c :: cs, x :: xs, h => by simp only [List.all_cons, absC_one h.1, AbsL.one h.2, Bool.and_self]
  | [], [], _ :: _, h => h.elim
  | [], _ :: _, _, h => h.elim
  | _ :: _, [], _, h => h.elim
  | _ :: _, _ :: _, [], h => h.elim

section
variable {H : Type} {enc : TypeId × Value → H} {W : World} {fuel : Nat} {t : TypeId} {cs : List Value} {x : DataW H × List MemPlace}
noncomputable abbrev Td (enc : TypeId × Value → H) (W : World) (fuel : Nat) (t : TypeId) (cs : List Value) : Option (DataW H × List MemPlace) := DataW.trod enc Tryz.prog W 0 (fun _ => true) true fuel t cs

theorem lf_int (ht : Tryz.prog.underlying t = some (.int .i64)) (h : Td enc W fuel t cs = some x) : ∃ n, cs = [.int .i64 n] := by
  cases fuel with
  | zero => simp [Td, DataW.trod] at h
  | succ n =>
    unfold Td DataW.trod at h
    rw [ht] at h
    split at h <;> simp_all
theorem lf_bool (ht : Tryz.prog.underlying t = some .bool) (h : Td enc W fuel t cs = some x) : ∃ b, cs = [.bool b] := by
  cases fuel with
  | zero => simp [Td, DataW.trod] at h
  | succ n =>
    unfold Td DataW.trod at h
    rw [ht] at h
    split at h <;> simp_all
theorem lf_str (ht : Tryz.prog.underlying t = some .string) (h : Td enc W fuel t cs = some x) : ∃ b, cs = [.string b] := by
  cases fuel with
  | zero => simp [Td, DataW.trod] at h
  | succ n =>
    unfold Td DataW.trod at h
    rw [ht] at h
    split at h <;> simp_all

theorem build_list {α : Type} {Q : Nat → α → Prop} : ∀ (n : Nat), (∀ k, k < n → ∃ z, Q k z) → ∃ xs : List α, xs.length = n ∧ ∀ k z, xs[k]? = some z → Q k z
  | 0, _ => ⟨[], rfl, fun k z h => by simp at h⟩
  | n + 1, h => by
    obtain ⟨xs, h1, h2⟩ := build_list n fun k hk => h k (by omega)
    obtain ⟨z, hz⟩ := h n (by omega)
    refine ⟨xs ++ [z], by simp [h1], fun k y hy => ?_⟩
    by_cases hk : k < n
    · rw [List.getElem?_append_left (by omega)] at hy; exact h2 k y hy
    · have hk : k = n := by
        have := (List.getElem?_eq_some_iff.1 hy).1
        simp at this; omega
      subst hk
      rw [List.getElem?_append_right (by omega)] at hy
      simp [h1] at hy; subst hy; exact hz
end
end Go.AI.Sv
/- Rows, records and states, from the kit's reading to the evaluator's. -/
namespace Go.AI.Sv
open Go.Proofs Go.ChangeShapes

section
variable {H : Type} {enc : TypeId × Value → H} {W : World}

def Wt (t : TypeId) (d : DataW H) : Prop := ∀ n ∈ DataW.weights Tryz.prog t d, n ≤ reachBytes

theorem weightsAll_mem {e : TypeId} : ∀ {ds : List (DataW H)} {d : DataW H}, d ∈ ds → ∀ n ∈ DataW.weights Tryz.prog e d, n ∈ DataW.weightsAll Tryz.prog e ds
  | [], _, h, _, _ => by cases h
  | x :: r, d, h, n, hn => by
    rw [DataW.weightsAll]
    rcases List.mem_cons.1 h with rfl | h
    · exact List.mem_append_left _ hn
    · exact List.mem_append_right _ (weightsAll_mem h n hn)
theorem weightsEach_at : ∀ {ts : List TypeId} {ds : List (DataW H)} {i : Nat} {t : TypeId} {d : DataW H}, ts[i]? = some t → ds[i]? = some d → ∀ n ∈ DataW.weights Tryz.prog t d, n ∈ DataW.weightsEach Tryz.prog ts ds
  | [], _, i, _, _, h, _, _, _ => by simp at h
  | _ :: _, [], i, _, _, _, h, _, _ => by simp at h
  | t :: ts, d :: ds, 0, _, _, h, k, n, hn => by
    simp at h k; subst h; subst k
    rw [DataW.weightsEach]
    exact List.mem_append_left _ hn
  | t :: ts, d :: ds, i + 1, _, _, h, k, n, hn => by
    rw [DataW.weightsEach]
    exact List.mem_append_right _ (weightsEach_at (ts := ts) (ds := ds) (i := i) (by simpa using h) (by simpa using k) n hn)

theorem absRow_at {N t : Nat} : ∀ (m i : Nat) (cs : List Value), (∀ j, j < m → ∃ y x, cs[j]? = some y ∧ absC N (kindAt t (i + j)) y = some x) →
    ∀ j, j < m → ∀ y x, cs[j]? = some y → absC N (kindAt t (i + j)) y = some x → (absRow N t i cs)[j]? = some x
  | 0, i, cs, _, j, hj, _, _, _, _ => by omega
  | m + 1, i, [], h, j, hj, _, _, e, _ => by simp at e
  | m + 1, i, c :: cs, h, j, hj, y, x, e, k => by
    obtain ⟨y0, x0, h1, h2⟩ := h 0 (by omega)
    simp at h1; subst h1
    simp only [Nat.add_zero] at h2
    simp only [absRow, h2]
    cases j with
    | zero =>
      simp at e; subst e
      simp only [Nat.add_zero] at k
      rw [h2] at k; cases k; rfl
    | succ j =>
      have ih := absRow_at m (i + 1) cs (fun j hj => by
        obtain ⟨y, x, h3, h4⟩ := h (j + 1) (by omega)
        exact ⟨y, x, by simpa using h3, by rw [show i + 1 + j = i + (j + 1) by omega]; exact h4⟩) j (by omega) y x (by simpa using e) (by rw [show i + 1 + j = i + (j + 1) by omega]; exact k)
      simpa using ih

theorem cell_inv {w : World} {a : Addr} {v : Value} (h : w.cell? a = some v) : ∃ c e fz, w.heap[a.block]? = some (.cells c e fz) ∧ a.spot = none ∧ c[a.off]? = some v := by
  unfold World.cell? at h
  split at h
  · rename_i c e fz hh
    split at h
    · cases h
    · rename_i hs
      refine ⟨c, e, fz, hh, ?_, h⟩
      cases hsp : a.spot with
      | none => rfl
      | some n => rw [hsp] at hs; simp at hs
  · cases h

theorem read_sl {α : Type} {ty e sz : Nat} {rd : α → List V → Prop} (hu : Tryz.prog.underlying ty = some (.slice e)) (hc : Tryz.prog.cellsOf e = sz) (hs : size Tryz.prog e = some sz) (hty : ty ∈ tys)
    (hl : (lay ty).length = sz) (h0 : 0 < sz) (hb : 0 < Tryz.prog.bytesOf e) {fuel : Nat} {cs : List Value} {x : DataW H × List MemPlace} (h : Td enc W fuel ty cs = some x) (hw : Wt ty x.1)
    (hel : ∀ n cells y, fuel = n + 1 → Td enc W n e cells = some y → Wt e y.1 → ∃ (a : α) (l : List V), AbsL W.heap.size (lay ty) cells l ∧ rd a l) :
    ∃ c v xs, cs = [c] ∧ absC W.heap.size (.sl ty) c = some v ∧ Sl (Ex (stOf W)) ty sz v xs rd ∧ xs.length * Tryz.prog.bytesOf e ≤ reachBytes := by
  rcases DataW.trod_slice hu h with ⟨rfl, _⟩ | ⟨a, len, cap, elems, rest, n, hn, rfl, hx, _, hle, _, hlen, hel', hsp, _⟩
  · refine ⟨_, .nilslice, [], rfl, rfl, ⟨fun s => by simp only [lenV, hu]; rfl, by simp, rfl, rfl, ⟨fun _ => ⟨0, 0, 0⟩, fun k x hk => by simp at hk⟩⟩, by simp⟩
  · subst hn
    by_cases hcap : cap = 0
    · obtain rfl : len = 0 := by omega
      subst hcap
      refine ⟨_, .slice ⟨a.block, spotNo a.spot, a.off⟩ 0 0 (some 0) 0, [], rfl, by simp [absC, absSl], ⟨fun s => by simp only [lenV, hu]; rfl, by simp, rfl, rfl, ⟨fun _ => ⟨0, 0, 0⟩, fun k x hk => by simp at hk⟩⟩, by simp⟩
    · obtain ⟨hrl, hre⟩ := hsp rfl
      have hwe : ∀ y, y ∈ elems → Wt e y.1 := fun y hy m hm => by
        refine hw m ?_
        rw [hx]
        simp only [DataW.weights, hu]
        exact List.mem_cons_of_mem _ (List.mem_append_left _ (weightsAll_mem (List.mem_map_of_mem hy) m hm))
      have hbn : len * Tryz.prog.bytesOf e ≤ reachBytes := by
        have := hw ((elems.length + rest.length) * Tryz.prog.bytesOf e) (by rw [hx]; simp only [DataW.weights, hu, List.length_map]; exact List.mem_cons_self)
        refine Nat.le_trans (Nat.mul_le_mul_right _ ?_) this
        omega
      -- the first element lies in a block of cells
      have hfirst : ∃ cells, W.cells? 0 (a.add 0) sz = some cells := by
        by_cases h1 : 0 < len
        · have := hel' 0 h1
          rw [Nat.zero_mul, hc, List.getElem?_eq_getElem (by omega)] at this
          obtain ⟨cells, h2, _⟩ := Option.bind_eq_some_iff.1 this
          exact ⟨cells, h2⟩
        · have := hre 0 (by omega)
          rw [show (len + 0) * Tryz.prog.cellsOf e = 0 by rw [show len = 0 by omega]; simp, hc, List.getElem?_eq_getElem (by omega)] at this
          obtain ⟨cells, h2, _⟩ := Option.bind_eq_some_iff.1 this
          exact ⟨cells, h2⟩
      obtain ⟨c0, hc0⟩ := hfirst
      obtain ⟨_, hc1, hc2⟩ := World.cells?_some hc0
      have hcell := hc2 0 h0
      rw [List.getElem?_eq_getElem (by omega)] at hcell
      simp only [Addr.add, if_true] at hcell
      obtain ⟨carr, e', fz, hheap, hspot, hcell⟩ := cell_inv hcell
      obtain ⟨b, off, spot⟩ := a
      simp only at hspot hheap hcell
      subst hspot
      have hblk : b < W.heap.size := by
        have := (Array.getElem?_eq_some_iff.1 hheap).1
        exact this
      have hoff : off < carr.size := (Array.getElem?_eq_some_iff.1 hcell).1
      -- the elements
      obtain ⟨zs, hzl, hz⟩ := build_list (Q := fun k (z : α) => ∃ cells l, W.cells? 0 ((⟨b, off, none⟩ : Addr).add (k * sz)) sz = some cells ∧ AbsL W.heap.size (lay ty) cells l ∧ rd z l) len (fun k hk => by
        have := hel' k hk
        rw [hc, List.getElem?_eq_getElem (by omega)] at this
        obtain ⟨cells, h2, h3⟩ := Option.bind_eq_some_iff.1 this
        obtain ⟨z, l, h4, h5⟩ := hel n cells _ rfl h3 (hwe _ (List.getElem_mem _))
        exact ⟨z, cells, l, h2, h4, h5⟩)
      have hcellat : ∀ k, k < len → ∀ cells, W.cells? 0 ((⟨b, off, none⟩ : Addr).add (k * sz)) sz = some cells → ∀ i, i < sz → carr.toList[off + (k * sz + i)]? = cells[i]? := fun k hk cells hcl i hi => by
        obtain ⟨_, h1, h2⟩ := World.cells?_some hcl
        have h3 := h2 i hi
        have h4 : ((⟨b, off, none⟩ : Addr).add (k * sz)).add i = ⟨b, off + (k * sz + i), none⟩ := by
          simp only [Addr.add]
          by_cases hk0 : k * sz = 0
          · by_cases hi0 : i = 0
            · simp [hk0, hi0]
            · simp [hk0, hi0]
          · by_cases hi0 : i = 0
            · simp [hk0, hi0]
            · simp [hk0, hi0]; omega
        rw [h4] at h3
        simp only [World.cell?, hheap] at h3
        rw [Array.getElem?_toList]
        simpa using h3
      have hrow : ∀ k, k < len → ∀ cells l, W.cells? 0 ((⟨b, off, none⟩ : Addr).add (k * sz)) sz = some cells → AbsL W.heap.size (lay ty) cells l → ∀ i, i < sz → ∃ y x, (carr.toList.drop off)[k * sz + i]? = some y ∧ l[i]? = some x ∧ absC W.heap.size (kindAt ty (0 + (k * sz + i))) y = some x := fun k hk cells l hcl hab i hi => by
        obtain ⟨h1, h2, h3⟩ := AbsL.get hab
        have hi' : i < l.length := by omega
        obtain ⟨y, hy1, hy2⟩ := h3 i l[i] (List.getElem?_eq_getElem hi')
        refine ⟨y, l[i], ?_, List.getElem?_eq_getElem hi', ?_⟩
        · rw [List.getElem?_drop, hcellat k hk cells hcl i hi]; exact hy1
        · unfold kindAt
          rw [hl, Nat.zero_add, Nat.add_comm, Nat.add_mul_mod_self_right, Nat.mod_eq_of_lt hi]
          exact hy2
      have hall : ∀ j, j < len * sz → ∃ y x, (carr.toList.drop off)[j]? = some y ∧ absC W.heap.size (kindAt ty (0 + j)) y = some x := fun j hj => by
        have hk : j / sz < len := Nat.div_lt_of_lt_mul (by rw [Nat.mul_comm]; exact hj)
        obtain ⟨cells, l, h1, h2, _⟩ := hz (j / sz) _ (List.getElem?_eq_getElem (by omega))
        obtain ⟨y, x, h3, _, h4⟩ := hrow _ hk cells l h1 h2 (j % sz) (Nat.mod_lt _ h0)
        have hj2 : j / sz * sz + j % sz = j := by rw [Nat.mul_comm]; exact Nat.div_add_mod j sz
        rw [hj2] at h3 h4
        exact ⟨y, x, h3, h4⟩
      refine ⟨_, .slice ⟨b, off * 128 + ty, 1 + off⟩ 0 len (some cap) sz, zs, rfl, ?_, ⟨fun s => ?_, ?_, rfl, rfl, ?_⟩, by rw [hzl]; exact hbn⟩
      · simp [absC, absSl, hcap, hle, hblk, hl, h0]
      · simp only [lenV, hu, hzl, mkInt_eq]
      · rw [hzl]
        have : len ≤ reachBytes := Nat.le_trans (Nat.le_mul_of_pos_right _ hb) hbn
        unfold reachBytes at this
        omega
      · refine ⟨fun k => addC ⟨b, off * 128 + ty, 1 + off⟩ (k * sz), fun k z hk => ?_⟩
        have hkl : k < len := by rw [← hzl]; exact (List.getElem?_eq_some_iff.1 hk).1
        obtain ⟨cells, l, h1, h2, h3⟩ := hz k z hk
        refine ⟨?_, l, fun s hK => ?_, ?_, AbsL.one h2, h3⟩
        · have hkb : Nat.blt k len = true := by
            unfold Nat.blt
            exact Nat.ble_eq_true_of_le hkl
          simp only [doIndexAddr, hu, hs, Nat.beq_refl, hkb, Bool.and_self, cond_true]
        · have hst : (stOf W).get b = some (.ro (versOf W.heap.size carr.toList)) := by
            unfold stOf
            rw [mkS_get, if_pos hblk, hheap]
            rfl
          have hg := hK b _ hst
          simp only [loadCells, addC, hg, findVer_vers (N := W.heap.size) (c := carr.toList) (off := off) (t := ty) (by simpa using hoff) hty]
          rw [Nat.ble_eq_true_of_le (show 1 + off ≤ 1 + off + k * sz by omega), cond_true, show 1 + off + k * sz - (1 + off) = k * sz by omega]
          obtain ⟨k1, k2, k3⟩ := AbsL.get h2
          have hget : ∀ i, i < sz → ((absRow W.heap.size ty 0 (carr.toList.drop off)).drop (k * sz))[i]? = l[i]? := fun i hi => by
            obtain ⟨y, x, h4, h5, h6⟩ := hrow k hkl cells l h1 h2 i hi
            rw [List.getElem?_drop, h5]
            refine absRow_at (len * sz) 0 _ hall _ ?_ y x h4 h6
            calc k * sz + i < k * sz + sz := by omega
              _ = (k + 1) * sz := by rw [Nat.succ_mul]
              _ ≤ len * sz := Nat.mul_le_mul_right _ hkl
          have hlen2 : sz ≤ ((absRow W.heap.size ty 0 (carr.toList.drop off)).drop (k * sz)).length := by
            have := hget (sz - 1) (by omega)
            rw [List.getElem?_eq_getElem (show sz - 1 < l.length by omega)] at this
            have := (List.getElem?_eq_some_iff.1 this).1
            omega
          rw [takeExact_take _ _ hlen2]
          refine congrArg some ?_
          refine List.ext_getElem? fun i => ?_
          by_cases hi : i < sz
          · rw [List.getElem?_take_of_lt hi, hget i hi]
          · rw [List.getElem?_eq_none (by rw [List.length_take]; omega), List.getElem?_eq_none (by omega)]
        · obtain ⟨k1, k2, k3⟩ := AbsL.get h2
          omega
end
end Go.AI.Sv
