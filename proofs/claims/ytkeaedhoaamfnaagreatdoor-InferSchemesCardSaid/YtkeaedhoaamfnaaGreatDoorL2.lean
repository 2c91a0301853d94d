/- What the functions answer in the evaluator: part 2. No conditions beyond those of the row. -/
import Derived.Test.YtkeaedhoaamfnaaGreatDoorL1
import Derived.Test.YtkeaedhoaamfnaaGreatDoorA8
set_option linter.unusedVariables false
set_option linter.unusedSimpArgs false
noncomputable section
namespace Go.AI
open Go.RowKit
theorem BR {P : Program} {f : FuncId} {args : List V} {s : S} {v : V} (he : ∀ ρ w ys, HR ρ s w → bj ρ args = some ys → (∀ w, (callFunc f ys.toArray).run P w = .ok (.enter f ys.toArray) w) ∧
 Calls P f ys.toArray w fun e w' => ∃ y, e = .returned y ∧ (∀ ρ, den ρ v = some y) ∧ Below w.heap.size w w') : gk P f args none s ⟨.returned v, none, s⟩ := by
 intro ρ w ys hr hd
 obtain ⟨h1, h2⟩ := he ρ w ys hr hd
 refine ⟨h1, fun cs hup => ?_⟩
 obtain ⟨e, w', fr, ⟨y, rfl, h3, h4⟩, h5, h6, h7⟩ := h2 cs
 exact ⟨ρ, w', hr.frame h4.size h4.block, ⟨ρ.le_refl, h4.size, h4.os, h4.tape, h4.output, fun b hb _ => h4.block b hb, fun f v l e _ => ⟨f, v, l, e, rfl, id⟩⟩, fr, .returned y, h3 ρ, h5, h6, h7⟩
def gz (s : S) (g : Nat) : Option (List V) := match s.get g with
 | some (.ro vers) => match bw vers 127 with
  | some u => some u.cells
  | none => none
 | _ => none
theorem me {ρ : aE} {s : S} {w : World} (h : HR ρ s w) {g : Nat} {cs : List V} (hc : gz s g = some cs) : ∃ (c : Array Value) (e : TypeId) (fz : Nat × Nat), w.heap[g]? = some (.cells c e fz) ∧ bj ρ cs = some c.toList := by
 unfold gz at hc
 split at hc
 ·rename_i vers hg
  split at hc
  ·rename_i u hu
   cases hc
   obtain ⟨hm, hv⟩ := iy hu
   obtain ⟨⟨l, c, e, fz, h1, h2, h3, h4⟩, l', c', e', fz', g1, g2, g3, g4⟩ := h.blk _ _ hg u hm
   rw [h1] at g1; cases g1
   rw [g2, g3] at h2; cases h2
   obtain ⟨k1, k2⟩ := g4 hv
   refine ⟨c, e, fz, g3, kZ (by rw [← k2]; simp) fun i x hx => ?_⟩
   obtain ⟨y, hy, hy'⟩ := h4 i x hx
   refine ⟨y, hy, ?_⟩
   rw [k1] at hy'
   rw [Array.getElem?_toList]
   simpa using hy'
  ·cases hc
 ·cases hc
theorem mf {F : List Nat} {s s' : S} {g : Nat} {cs : List V} (h : gz s g = some cs) (hf : ∀ vs, s.get g = some (.ro vs) → s'.get g = some (.ro vs)) : gz s' g = some cs := by
 unfold gz at h ⊢
 split at h
 ·rename_i vers hg; rw [hf _ hg]; exact h
 ·cases h
end Go.AI
namespace Go.Proofs.YtkeaedhoaamfnaaGreatDoor
open Go.AI Go.RowKit
def vB : List V → Bool
 | [.nilIface] => true
 | [.iface _ _] => true
 | _ => false
def Ln : List V → Bool
 | [.int .i64 _] => true
 | _ => false
def Fs : List V := Lib.pow10Tab.map fun z => .int .u64 z
structure cd (s : S) : Prop where
 mx : ∃ c, gz s 1 = some c ∧ Ln c = true
 syn : ∃ c, gz s 4 = some c ∧ vB c = true
 rng : ∃ c, gz s 5 = some c ∧ vB c = true
 pow : gz s 0 = some Fs
theorem cd.keep {s s' : S} (h : cd s) (hf : ∀ g vs, s.get g = some (.ro vs) → s'.get g = some (.ro vs)) : cd s' := by
 obtain ⟨⟨c1, h1, k1⟩, ⟨c2, h2, k2⟩, ⟨c3, h3, k3⟩, h4⟩ := h
 exact ⟨⟨c1, mf (F := []) h1 (hf 1), k1⟩, ⟨c2, mf (F := []) h2 (hf 4), k2⟩, ⟨c3, mf (F := []) h3 (hf 5), k3⟩, mf (F := []) h4 (hf 0)⟩
theorem Qh {w : World} {g : Nat} {c : Array Value} {e : TypeId} {fz : Nat × Nat} {v : Value} (h : w.heap[g]? = some (.cells c e fz)) (hc : c.toList = [v]) : w.cell? ⟨g, 0, none⟩ = some v := by
 unfold World.cell?
 simp only [h]
 have : c[0]? = some v := by rw [← Array.getElem?_toList, hc]; rfl
 simpa using this
theorem PQ {ρ : aE} {s : S} {w : World} (h : HR ρ s w) {g : Nat} (hc : ∃ c, gz s g = some c ∧ vB c = true) : ∃ ev, w.cell? ⟨g, 0, none⟩ = some ev ∧ (ev = .nilIface ∨ ∃ te pe, ev = .iface te pe) := by
 obtain ⟨c, h1, h2⟩ := hc
 obtain ⟨ca, e, fz, h3, h4⟩ := me h h1
 unfold vB at h2
 split at h2
 ·simp only [bj, den] at h4
  exact ⟨_, Qh h3 (Option.some.inj h4).symm, .inl rfl⟩
 ·rename_i t v
  obtain ⟨y, q, k1, k2, k3⟩ := bi.1 h4
  simp only [bj] at k2; cases k2
  simp only [den] at k1
  split at k1
  ·rename_i x hx; cases k1; exact ⟨_, Qh h3 k3, .inr ⟨_, _, rfl⟩⟩
  ·cases k1
 ·cases h2
theorem Sc (ρ : aE) : bj ρ Fs = some (Lib.pow10Tab.map fun z => Value.int .u64 z) := by rfl
theorem IE {ρ : aE} {s : S} {w : World} (h : HR ρ s w) (hg : cd s) : pj w := by
 have htab : ∀ w' : World, w'.heap[0]? = w.heap[0]? → Lib.TabIs Tryz.prog w' "internal/strconv.uint64pow10" .u64 Lib.pow10Tab := by
  intro w' hw'
  obtain ⟨c, e, fz, h1, h2⟩ := me h hg.pow
  rw [Sc] at h2
  unfold Lib.TabIs World.var?
  have hn : Tryz.prog.globalNamed "internal/strconv.uint64pow10" = some 0 := by kernel_rfl
  rw [hn]
  simp only [Option.bind, hw', h1]
  rw [Option.some.inj h2]
 have hsz : 6 ≤ w.heap.size := by
  obtain ⟨c, h1, _⟩ := hg.rng
  obtain ⟨ca, e, fz, h3, _⟩ := me h h1
  have := (Array.getElem?_eq_some_iff.1 h3).1
  omega
 refine ⟨?_, PQ h hg.syn, PQ h hg.rng, htab w rfl, hsz, fun w' b => htab w' (b.block 0 (by omega))⟩
 obtain ⟨c, h1, h2⟩ := hg.mx
 obtain ⟨ca, e, fz, h3, h4⟩ := me h h1
 unfold Ln at h2
 split at h2
 ·simp only [bj, den] at h4
  exact ⟨_, Qh h3 (Option.some.inj h4).symm⟩
 ·cases h2
open Classical in
def CC (args : List V) (s : S) : Option (V × S) := match args with
 | [.str l] => if cd s ∧ l.length ≤ 1000 then some (.tuple [.int .i64 (uJ (aH l)).1, .int .i64 (uJ (aH l)).2], s) else none
 | _ => none
theorem CB {args : List V} {s : S} {v : V} {s' : S} (h : CC args s = some (v, s')) : gk Tryz.prog 272 args none s ⟨.returned v, none, s'⟩ := by
 unfold CC at h
 split at h
 ·rename_i l
  split at h
  ·rename_i hg
   cases h
   refine BR fun ρ w ys hr hd => ?_
   simp only [bj, den] at hd
   cases hd
   refine ⟨fun w => enters_of Tryz.func272 (by kernel_rfl) rfl _ w, (CA (aH l) ?_ w (IE hr hg.1)).mono ?_⟩
   ·have : (aH l).size = l.length := by unfold aH ByteArray.size; simp
    omega
   ·rintro e w' ⟨rfl, hb⟩
    exact ⟨_, rfl, fun ρ => rfl, hb⟩
  ·cases h
 ·cases h
end Go.Proofs.YtkeaedhoaamfnaaGreatDoor
