/- What the functions answer in the evaluator: part 2. No conditions beyond those of the row. -/
import Derived.Test.YtkeaedhoaamfnaaGreatDoorL1
import Derived.Test.YtkeaedhoaamfnaaGreatDoorA8
set_option linter.unusedVariables false
set_option linter.unusedSimpArgs false
noncomputable section
namespace Go.AI
open Go.RowKit
theorem zJ {P : Program} {f : FuncId} {args : List V} {s : S} {v : V} (he : ∀ ρ w ys, HR ρ s w → aY ρ args = some ys → (∀ w, (callFunc f ys.toArray).run P w = .ok (.enter f ys.toArray) w) ∧
 Calls P f ys.toArray w fun e w' => ∃ y, e = .returned y ∧ (∀ ρ, den ρ v = some y) ∧ Below w.heap.size w w') : fN P f args none s ⟨.returned v, none, s⟩ := by
 intro ρ w ys hr hd
 obtain ⟨h1, h2⟩ := he ρ w ys hr hd
 refine ⟨h1, fun cs hup => ?_⟩
 obtain ⟨e, w', fr, ⟨y, rfl, h3, h4⟩, h5, h6, h7⟩ := h2 cs
 exact ⟨ρ, w', hr.frame h4.size h4.block, ⟨ρ.le_refl, h4.size, h4.os, h4.tape, h4.output, fun b hb _ => h4.block b hb, fun f v l e _ => ⟨f, v, l, e, rfl, id⟩⟩, fr, .returned y, h3 ρ, h5, h6, h7⟩
def fW (s : S) (g : Nat) : Option (List V) := match s.get g with
 | some (.ro vers) => match bg vers 127 with
  | some u => some u.cells
  | none => none
 | _ => none
theorem lF {ρ : aq} {s : S} {w : World} (h : HR ρ s w) {g : Nat} {cs : List V} (hc : fW s g = some cs) : ∃ (c : Array Value) (e : TypeId) (fz : Nat × Nat), w.heap[g]? = some (.cells c e fz) ∧ aY ρ cs = some c.toList := by
 unfold fW at hc
 split at hc
 ·rename_i vers hg
  split at hc
  ·rename_i u hu
   cases hc
   obtain ⟨hm, hv⟩ := gR hu
   obtain ⟨⟨l, c, e, fz, h1, h2, h3, h4⟩, l', c', e', fz', g1, g2, g3, g4⟩ := h.blk _ _ hg u hm
   rw [h1] at g1; cases g1
   rw [g2, g3] at h2; cases h2
   obtain ⟨k1, k2⟩ := g4 hv
   refine ⟨c, e, fz, g3, kL (by rw [← k2]; simp) fun i x hx => ?_⟩
   obtain ⟨y, hy, hy'⟩ := h4 i x hx
   refine ⟨y, hy, ?_⟩
   rw [k1] at hy'
   rw [Array.getElem?_toList]
   simpa using hy'
  ·cases hc
 ·cases hc
theorem lG {F : List Nat} {s s' : S} {g : Nat} {cs : List V} (h : fW s g = some cs) (hf : ∀ vs, s.get g = some (.ro vs) → s'.get g = some (.ro vs)) : fW s' g = some cs := by
 unfold fW at h ⊢
 split at h
 ·rename_i vers hg; rw [hf _ hg]; exact h
 ·cases h
end Go.AI
namespace Go.Proofs.YtkeaedhoaamfnaaGreatDoor
open Go.AI Go.RowKit
def tO : List V → Bool
 | [.nilIface] => true
 | [.iface _ _] => true
 | _ => false
def HC : List V → Bool
 | [.int .i64 _] => true
 | _ => false
def CA : List V := Lib.pow10Tab.map fun z => .int .u64 z
structure cF (s : S) : Prop where
 mx : ∃ c, fW s 1 = some c ∧ HC c = true
 syn : ∃ c, fW s 4 = some c ∧ tO c = true
 rng : ∃ c, fW s 5 = some c ∧ tO c = true
 pow : fW s 0 = some CA
theorem cF.keep {s s' : S} (h : cF s) (hf : ∀ g vs, s.get g = some (.ro vs) → s'.get g = some (.ro vs)) : cF s' := by
 obtain ⟨⟨c1, h1, k1⟩, ⟨c2, h2, k2⟩, ⟨c3, h3, k3⟩, h4⟩ := h
 exact ⟨⟨c1, lG (F := []) h1 (hf 1), k1⟩, ⟨c2, lG (F := []) h2 (hf 4), k2⟩, ⟨c3, lG (F := []) h3 (hf 5), k3⟩, lG (F := []) h4 (hf 0)⟩
theorem Mm {w : World} {g : Nat} {c : Array Value} {e : TypeId} {fz : Nat × Nat} {v : Value} (h : w.heap[g]? = some (.cells c e fz)) (hc : c.toList = [v]) : w.cell? ⟨g, 0, none⟩ = some v := by
 unfold World.cell?
 simp only [h]
 have : c[0]? = some v := by rw [← Array.getElem?_toList, hc]; rfl
 simpa using this
theorem LZ {ρ : aq} {s : S} {w : World} (h : HR ρ s w) {g : Nat} (hc : ∃ c, fW s g = some c ∧ tO c = true) : ∃ ev, w.cell? ⟨g, 0, none⟩ = some ev ∧ (ev = .nilIface ∨ ∃ te pe, ev = .iface te pe) := by
 obtain ⟨c, h1, h2⟩ := hc
 obtain ⟨ca, e, fz, h3, h4⟩ := lF h h1
 unfold tO at h2
 split at h2
 ·simp only [aY, den] at h4
  exact ⟨_, Mm h3 (Option.some.inj h4).symm, .inl rfl⟩
 ·rename_i t v
  obtain ⟨y, q, k1, k2, k3⟩ := aW.1 h4
  simp only [aY] at k2; cases k2
  simp only [den] at k1
  split at k1
  ·rename_i x hx; cases k1; exact ⟨_, Mm h3 k3, .inr ⟨_, _, rfl⟩⟩
  ·cases k1
 ·cases h2
theorem Ok (ρ : aq) : aY ρ CA = some (Lib.pow10Tab.map fun z => Value.int .u64 z) := by rfl
theorem Fc {ρ : aq} {s : S} {w : World} (h : HR ρ s w) (hg : cF s) : ou w := by
 have htab : ∀ w' : World, w'.heap[0]? = w.heap[0]? → Lib.TabIs Tryz.prog w' "internal/strconv.uint64pow10" .u64 Lib.pow10Tab := by
  intro w' hw'
  obtain ⟨c, e, fz, h1, h2⟩ := lF h hg.pow
  rw [Ok] at h2
  unfold Lib.TabIs World.var?
  have hn : Tryz.prog.globalNamed "internal/strconv.uint64pow10" = some 0 := by kernel_rfl
  rw [hn]
  simp only [Option.bind, hw', h1]
  rw [Option.some.inj h2]
 have hsz : 6 ≤ w.heap.size := by
  obtain ⟨c, h1, _⟩ := hg.rng
  obtain ⟨ca, e, fz, h3, _⟩ := lF h h1
  have := (Array.getElem?_eq_some_iff.1 h3).1
  omega
 refine ⟨?_, LZ h hg.syn, LZ h hg.rng, htab w rfl, hsz, fun w' b => htab w' (b.block 0 (by omega))⟩
 obtain ⟨c, h1, h2⟩ := hg.mx
 obtain ⟨ca, e, fz, h3, h4⟩ := lF h h1
 unfold HC at h2
 split at h2
 ·simp only [aY, den] at h4
  exact ⟨_, Mm h3 (Option.some.inj h4).symm⟩
 ·cases h2
open Classical in
def Ao (args : List V) (s : S) : Option (V × S) := match args with
 | [.str l] => if cF s ∧ l.length ≤ 1000 then some (.tuple [.int .i64 (tf (ar l)).1, .int .i64 (tf (ar l)).2], s) else none
 | _ => none
theorem An {args : List V} {s : S} {v : V} {s' : S} (h : Ao args s = some (v, s')) : fN Tryz.prog 272 args none s ⟨.returned v, none, s'⟩ := by
 unfold Ao at h
 split at h
 ·rename_i l
  split at h
  ·rename_i hg
   cases h
   refine zJ fun ρ w ys hr hd => ?_
   simp only [aY, den] at hd
   cases hd
   refine ⟨fun w => enters_of Tryz.func272 (by kernel_rfl) rfl _ w, (Am (ar l) ?_ w (Fc hr hg.1)).mono ?_⟩
   ·have : (ar l).size = l.length := by unfold ar ByteArray.size; simp
    omega
   ·rintro e w' ⟨rfl, hb⟩
    exact ⟨_, rfl, fun ρ => rfl, hb⟩
  ·cases h
 ·cases h
end Go.Proofs.YtkeaedhoaamfnaaGreatDoor
