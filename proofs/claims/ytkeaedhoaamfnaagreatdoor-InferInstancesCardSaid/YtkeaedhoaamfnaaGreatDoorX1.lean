/- Symbolic walks in the evaluator: part 1. No conditions beyond those of the row. -/
import Derived.Test.YtkeaedhoaamfnaaGreatDoorA10
set_option linter.unusedVariables false
set_option linter.unusedSimpArgs false
noncomputable section
namespace Go.AI
structure Sg where
 σ : List V
 β : List Nat
def Sg.bl (e : Sg) (f : Nat) : Nat := e.β.getD f 0
def Sg.val (e : Sg) (i : Nat) : V := e.σ.getD i .nilptr
def Sg.ok (e : Sg) : Prop := ∀ v ∈ e.σ, v.one = true
structure Sg.le (a b : Sg) : Prop where
 ps : a.σ <+: b.σ
 pb : a.β <+: b.β
 ok : b.ok
theorem Sg.le_refl {a : Sg} (h : a.ok) : a.le a := ⟨List.prefix_rfl, List.prefix_rfl, h⟩
theorem Sg.le.trans {a b c : Sg} (h : a.le b) (k : b.le c) : a.le c := ⟨h.ps.trans k.ps, h.pb.trans k.pb, k.ok⟩
structure Sg.ex (a b : Sg) : Prop where
 le : a.le b
 same : b.σ = a.σ
theorem Sg.ex_refl {a : Sg} (h : a.ok) : a.ex a := ⟨Sg.le_refl h, rfl⟩
theorem Sg.val_one {e : Sg} (h : e.ok) (i : Nat) : (e.val i).one = true := by
 unfold Sg.val
 rw [List.getD_eq_getElem?_getD]
 cases hi : e.σ[i]? with
 | none => rfl
 | some v => exact h v (List.mem_of_getElem? hi)
theorem Cz {α : Type} {a b : List α} (h : a <+: b) {i : Nat} (hi : i < a.length) (d : α) : b.getD i d = a.getD i d := by
 obtain ⟨c, rfl⟩ := h
 rw [List.getD_eq_getElem?_getD, List.getD_eq_getElem?_getD, List.getElem?_append_left hi]
theorem Sg.le.bl {a b : Sg} (h : a.le b) {f : Nat} (hf : f < a.β.length) : b.bl f = a.bl f := Cz h.pb hf 0
theorem Sg.le.val {a b : Sg} (h : a.le b) {i : Nat} (hi : i < a.σ.length) : b.val i = a.val i := Cz h.ps hi .nilptr
def ig (e : Sg) (a : Ad) : Ad := ⟨e.bl a.f, a.v, a.c⟩
def mw (e : Sg) : Fn → Fn
 | .yield l => .yield (e.bl l)
 | f => f
mutual
def sub (e : Sg) : V → V
 | .ptr a => .ptr (ig e a)
 | .slice a z n c sz => .slice (ig e a) z n c sz
 | .map r => .map (e.bl r)
 | .func fn fi ca => .func (mw e fn) (gZ e fi) (gZ e ca)
 | .iface t v => .iface t (sub e v)
 | .agg l => .agg (gZ e l)
 | .tuple l => .tuple (gZ e l)
 | .atom i => e.val i
 | .bool b => .bool b
 | .int k n => .int k n
 | .str l => .str l
 | .nilptr => .nilptr
 | .nilslice => .nilslice
 | .nilmap => .nilmap
 | .nilFunc => .nilFunc
 | .nilIface => .nilIface
def gZ (e : Sg) : List V → List V
 | [] => []
 | v :: r => sub e v :: gZ e r
end
theorem de (e : Sg) : ∀ l : List V, gZ e l = l.map (sub e)
 | [] => rfl
 | v :: r => by simp only [gZ, List.map_cons, de e r]
theorem zD {e : Sg} (h : e.ok) : ∀ v : V, (sub e v).one = v.one
 | .atom i => e.val_one h i
 | .ptr _ | .slice .. | .map _ | .func .. | .iface .. | .agg _ | .tuple _ | .bool _ | .int .. | .str _ | .nilptr | .nilslice | .nilmap | .nilFunc | .nilIface => rfl
theorem Jr : ∀ {v : V}, v.one = true → v.cells = [v]
 | .agg _, h => by cases h
 | .tuple _, h => by cases h
 | .atom _, _ | .ptr _, _ | .slice .., _ | .map _, _ | .func .., _ | .iface .., _ | .bool _, _ | .int .., _ | .str _, _ | .nilptr, _ | .nilslice, _ | .nilmap, _ | .nilFunc, _ | .nilIface, _ => rfl
theorem rf {e : Sg} (h : e.ok) : ∀ v : V, (sub e v).cells = v.cells.map (sub e)
 | .agg l => by simp only [sub, V.cells, de]
 | .tuple l => by simp only [sub, V.cells, List.map_cons, List.map_nil]
 | .atom i => by
  rw [Jr (by rw [zD h]; rfl)]; rfl
 | .ptr _ | .slice .. | .map _ | .func .. | .iface .. | .bool _ | .int .. | .str _ | .nilptr | .nilslice | .nilmap | .nilFunc | .nilIface => rfl
theorem sY {e : Sg} (h : e.ok) : ∀ l : List V, (l.map (sub e)).all V.one = l.all V.one
 | [] => rfl
 | v :: r => by simp only [List.map_cons, List.all_cons, zD h, sY h r]
mutual
theorem su (e : Sg) : ∀ {x : Value} {v : V}, V.ofCell x = some v → sub e v = v := by
 intro x v h
 unfold V.ofCell at h
 split at h
 all_goals first
  | (cases h; rfl)
  | (cases h; done)
  | (split at h <;> first | (cases h; rfl) | (cases h; done) | (split at h <;> first | (cases h; rfl) | (cases h; done)) | (revert h; cases (Nat.beq _ 0 && Nat.beq _ 0) <;> intro h <;> first | (cases h; rfl) | (cases h; done)) | (revert h; cases (_ && _) <;> intro h <;> first | (cases h; rfl) | (cases h; done)))
end
theorem sw (e : Sg) : ∀ {l : List Value} {vs : List V}, V.ofCells l = some vs → gZ e vs = vs
 | [], vs, h => by cases h; rfl
 | x :: r, vs, h => by
  simp only [V.ofCells] at h
  split at h
  ·rename_i v hv
   split at h
   ·rename_i l hl; cases h; simp only [gZ, su e hv, sw e hl]
   ·cases h
  ·cases h
theorem yO (e : Sg) {x : Value} {v : V} (h : V.ofConst x = some v) : sub e v = v := by
 unfold V.ofConst at h
 split at h
 ·split at h
  ·rename_i l hl; cases h; simp only [sub, sw e hl]
  ·cases h
 ·exact su e h
def RV (e : Sg) (v w : V) : Prop := ∀ e', e.le e' → sub e' v = w
theorem RV.mono {a b : Sg} {v w : V} (h : RV a v w) (k : a.le b) : RV b v w := fun c hc => h c (k.trans hc)
def OJ (e : Sg) (vs ws : List V) : Prop := ∀ e', e.le e' → vs.map (sub e') = ws
theorem OJ.mono {a b : Sg} {v w : List V} (h : OJ a v w) (k : a.le b) : OJ b v w := fun c hc => h c (k.trans hc)
theorem KG {e : Sg} {x : Value} {v : V} (h : V.ofConst x = some v) : RV e v v := fun _ _ => yO _ h
def RT (e : Sg) (tx t : T V) : Prop := ∀ (i : Nat) (v : V), tx.get (eT i) = some v → ∃ w, t.get (eT i) = some w ∧ RV e v w
theorem RT.mono {a b : Sg} {tx t : T V} (h : RT a tx t) (k : a.le b) : RT b tx t := fun i v hv => by
 obtain ⟨w, h1, h2⟩ := h i v hv; exact ⟨w, h1, h2.mono k⟩
theorem RT.putD {e : Sg} {tx t : T V} (h : RT e tx t) {v w : V} (hv : RV e v w) (d : Option Tmp) : RT e (Go.AI.putD tx d v) (Go.AI.putD t d w) := by
 intro i x hx
 cases d with
 | none => exact h i x hx
 | some d =>
  rw [ab] at hx ⊢
  by_cases hd : d = i
  ·rw [if_pos hd] at hx ⊢; cases hx; exact ⟨w, rfl, hv⟩
  ·rw [if_neg hd] at hx ⊢; exact h i x hx
theorem RT.evalR {e : Sg} {tx t : T V} (h : RT e tx t) {o : Operand} {v : V} (hv : eval tx o = some v) : ∃ w, eval t o = some w ∧ RV e v w := by
 cases o with
 | tmp i => exact h i v hv
 | const c => exact ⟨v, hv, KG hv⟩
 | global g => cases hv
 | func f => cases hv; exact ⟨_, rfl, fun _ _ => rfl⟩
theorem RT.evalsR {e : Sg} {tx t : T V} (h : RT e tx t) : ∀ {l : List Operand} {vs : List V}, evals tx l = some vs → ∃ ws, evals t l = some ws ∧ OJ e vs ws
 | [], vs, hv => by cases hv; exact ⟨[], rfl, fun _ _ => rfl⟩
 | o :: l, vs, hv => by
  simp only [Go.AI.evals] at hv
  split at hv
  ·rename_i v h1
   split at hv
   ·rename_i vs' h2
    cases hv
    obtain ⟨w, k1, k2⟩ := h.evalR h1
    obtain ⟨ws, k3, k4⟩ := h.evalsR h2
    exact ⟨w :: ws, by simp only [Go.AI.evals, k1, k3], fun e' he => by rw [List.map_cons, k2 e' he, k4 e' he]⟩
   ·cases hv
  ·cases hv
def eu (e : Sg) (u : mH) : mH := ⟨u.v, u.lo, u.cells.map (sub e)⟩
def EC (e : Sg) (x : pL) : pL := ⟨sub e x.key, sub e x.val, x.born⟩
def hQ (e : Sg) : bP → bP
 | .cells el sb nv vers => .cells el sb nv (vers.map (eu e))
 | .map es c => .map (es.map (EC e)) c
 | b => b
def bP.isOwn : bP → Bool
 | .cells .. => true
 | .map .. => true
 | _ => false
theorem yl (e : Sg) {B : bP} (h : B.isOwn = true) : (hQ e B).isOwn = true := by cases B <;> first | rfl | cases h
theorem CS {B : bP} (h : B.isOwn = true) (vs : List mH) : B ≠ .ro vs := by cases B <;> first | (cases h; done) | exact fun h => by cases h
structure XR (F : List Nat) (s0 : S) (e : Sg) (xs s : S) : Prop where
 ok : e.ok
 nx : xs.next = e.β.length
 wf0 : WF s0
 fw : Fw F s0 s
 dom : ∀ f B, xs.get f = some B → f < xs.next
 k : ∀ e', e.le e' → ∀ f B, xs.get f = some B → s.get (e'.bl f) = some (hQ e' B) ∧ B.isOwn = true
 inj : ∀ f g, f < xs.next → g < xs.next → e.bl f = e.bl g → f = g
 hi : ∀ f, f < xs.next → s0.next ≤ e.bl f ∨ e.bl f ∈ F
 lt : ∀ f, f < xs.next → e.bl f < s.next
theorem XR.wf {F : List Nat} {s0 : S} {e : Sg} {xs s : S} (h : XR F s0 e xs s) : WF s := h.fw.wf h.wf0
structure HK (e : Sg) (xs s : S) : Prop where
 ok : e.ok
 k : ∀ e', e.le e' → ∀ f B, xs.get f = some B → s.get (e'.bl f) = some (hQ e' B) ∧ B.isOwn = true
theorem XR.hk {F : List Nat} {s0 : S} {e : Sg} {xs s : S} (h : XR F s0 e xs s) : HK e xs s := ⟨h.ok, h.k⟩
theorem HK.mono {a b : Sg} {xs s : S} (h : HK a xs s) (k : a.le b) : HK b xs s := ⟨k.ok, fun e' he => h.k e' (k.trans he)⟩
theorem XR.more {F : List Nat} {s0 : S} {e : Sg} {xs s : S} (h : XR F s0 e xs s) {vs : List V} (hv : ∀ v ∈ vs, v.one = true) : e.le ⟨e.σ ++ vs, e.β⟩ ∧ XR F s0 ⟨e.σ ++ vs, e.β⟩ xs s := by
 have hle : e.le ⟨e.σ ++ vs, e.β⟩ := ⟨List.prefix_append _ _, List.prefix_rfl, fun v hm => by
  rcases List.mem_append.1 hm with hm | hm
  ·exact h.ok v hm
  ·exact hv v hm⟩
 exact ⟨hle, ⟨hle.ok, h.nx, h.wf0, h.fw, h.dom, fun e' he => h.k e' (hle.trans he), h.inj, h.hi, h.lt⟩⟩
theorem XR.alloc {F : List Nat} {s0 : S} {e : Sg} {xs s : S} (h : XR F s0 e xs s) {B B' : bP} (ho : B.isOwn = true) (hB : ∀ e', e.le e' → hQ e' B = B') :
 e.le ⟨e.σ, e.β ++ [s.next]⟩ ∧ XR F s0 ⟨e.σ, e.β ++ [s.next]⟩ (xs.alloc B) (s.alloc B') ∧ RV ⟨e.σ, e.β ++ [s.next]⟩ (.ptr ⟨xs.next, 0, 0⟩) (.ptr ⟨s.next, 0, 0⟩) ∧ ∀ e', Sg.le ⟨e.σ, e.β ++ [s.next]⟩ e' → e'.bl xs.next = s.next := by
 have hle : e.le ⟨e.σ, e.β ++ [s.next]⟩ := ⟨List.prefix_rfl, List.prefix_append _ _, h.ok⟩
 have hnew : ∀ e', Sg.le ⟨e.σ, e.β ++ [s.next]⟩ e' → e'.bl xs.next = s.next := by
  intro e' he
  rw [he.bl (f := xs.next) (by simp [h.nx])]
  unfold Sg.bl
  rw [List.getD_eq_getElem?_getD, List.getElem?_append_right (by rw [h.nx]; exact Nat.le_refl _), h.nx]
  simp
 have hold : ∀ f, f < xs.next → Sg.bl ⟨e.σ, e.β ++ [s.next]⟩ f = e.bl f := fun f hf => hle.bl (by rw [← h.nx]; exact hf)
 have hown : ∀ vs, B' ≠ .ro vs := by
  rw [← hB e (Sg.le_refl h.ok)]
  exact fun vs => CS (yl e ho) vs
 refine ⟨hle, ⟨hle.ok, by rw [S.next_alloc, h.nx]; simp, h.wf0, h.fw.trans (Fw.alloc F h.wf B'), fun f C hC => ?_, fun e' he f C hC => ?_, fun f g hf hg hfg => ?_, fun f hf => ?_, fun f hf => ?_⟩, fun e' he => ?_, hnew⟩
 ·rw [S.get_alloc] at hC
  rw [S.next_alloc]
  split at hC
  ·omega
  ·have := h.dom f C hC; omega
 ·rw [S.get_alloc] at hC
  split at hC
  ·rename_i hf
   cases hC
   rw [← hf, hnew e' he, S.get_alloc, if_pos rfl, hB e' (hle.trans he)]
   exact ⟨rfl, ho⟩
  ·have hd := h.dom f C hC
   obtain ⟨h1, h2⟩ := h.k e' (hle.trans he) f C hC
   refine ⟨?_, h2⟩
   have h3 : e'.bl f = e.bl f := (hle.trans he).bl (by rw [← h.nx]; exact hd)
   have h4 := h.lt f hd
   rw [S.get_alloc, if_neg (by rw [h3]; omega)]
   exact h1
 ·rw [S.next_alloc] at hf hg
  have hn := hnew _ (Sg.le_refl hle.ok)
  by_cases h1 : f = xs.next
  ·by_cases h2 : g = xs.next
   ·omega
   ·have h3 := h.lt g (by omega)
    rw [h1, hn, hold g (by omega)] at hfg
    omega
  ·by_cases h2 : g = xs.next
   ·have h3 := h.lt f (by omega)
    rw [h2, hn, hold f (by omega)] at hfg
    omega
   ·rw [hold f (by omega), hold g (by omega)] at hfg
    exact h.inj f g (by omega) (by omega) hfg
 ·rw [S.next_alloc] at hf
  by_cases h1 : f = xs.next
  ·rw [h1, hnew _ (Sg.le_refl hle.ok)]; exact .inl h.fw.next
  ·rw [hold f (by omega)]; exact h.hi f (by omega)
 ·rw [S.next_alloc] at hf ⊢
  by_cases h1 : f = xs.next
  ·rw [h1, hnew _ (Sg.le_refl hle.ok)]; omega
  ·rw [hold f (by omega)]
   have := h.lt f (by omega); omega
 ·simp only [sub, ig, hnew e' he]
theorem XR.put {F : List Nat} {s0 : S} {e : Sg} {xs s : S} (h : XR F s0 e xs s) {f : Nat} {B0 B B' : bP} (h0 : xs.get f = some B0) (ho : B.isOwn = true) (hB : ∀ e', e.le e' → hQ e' B = B') :
 XR F s0 e (xs.put f B) (s.put (e.bl f) B') := by
 have hd := h.dom f B0 h0
 obtain ⟨h1, h2⟩ := h.k e (Sg.le_refl h.ok) f B0 h0
 have hr := CS (yl e h2)
 have hfw : Fw F s0 (s.put (e.bl f) B') := by
  rcases h.hi f hd with hh | hh
  ·have h3 : Fw (e.bl f :: F) s0 (s.put (e.bl f) B') := (h.fw.mono (fun g hg => List.mem_cons_of_mem _ hg)).trans (Fw.put (by simp) h1 hr B')
   exact h3.drop hh h.wf0
  ·exact h.fw.trans (Fw.put hh h1 hr B')
 refine ⟨h.ok, by rw [S.next_put]; exact h.nx, h.wf0, hfw, fun g C hC => ?_, fun e' he g C hC => ?_, ?_, ?_, ?_⟩
 ·rw [S.get_put] at hC
  rw [S.next_put]
  split at hC
  ·rename_i hg; rw [← hg]; exact hd
  ·exact h.dom g C hC
 ·rw [S.get_put] at hC
  have hbf : e'.bl f = e.bl f := he.bl (by rw [← h.nx]; exact hd)
  split at hC
  ·rename_i hg
   cases hC
   rw [← hg, hbf, S.get_put, if_pos rfl, hB e' he]
   exact ⟨rfl, ho⟩
  ·rename_i hg
   have hdg := h.dom g C hC
   have hbg : e'.bl g = e.bl g := he.bl (by rw [← h.nx]; exact hdg)
   obtain ⟨h3, h4⟩ := h.k e' he g C hC
   refine ⟨?_, h4⟩
   rw [S.get_put, if_neg (fun hh => hg (h.inj f g hd hdg (by rw [hh, hbg])))]
   exact h3
 ·rw [S.next_put]; exact h.inj
 ·rw [S.next_put]; exact h.hi
 ·intro g hg
  rw [S.next_put] at hg ⊢
  exact h.lt g hg
structure Kp (e : Sg) (xs s : S) (e' : Sg) (xs' s' : S) : Prop where
 next : s.next ≤ s'.next
 keep : ∀ g B, (∀ f, f < xs.next → e.bl f ≠ g) → s.get g = some B → s'.get g = some B
 new : ∀ f, xs.next ≤ f → f < xs'.next → s.next ≤ e'.bl f
theorem Kp.refl {e : Sg} {xs s : S} {e' : Sg} : Kp e xs s e' xs s := ⟨Nat.le_refl _, fun _ _ _ h => h, fun f h1 h2 => by omega⟩
theorem Kp.alloc {F : List Nat} {s0 : S} {e : Sg} {xs s : S} (h : XR F s0 e xs s) (B0 B : bP) : Kp e xs s ⟨e.σ, e.β ++ [s.next]⟩ (xs.alloc B0) (s.alloc B) := by
 refine ⟨by rw [S.next_alloc]; omega, fun g C _ hC => ?_, fun f h1 h2 => ?_⟩
 ·have := h.wf g C hC
  rw [S.get_alloc, if_neg (by omega)]; exact hC
 ·rw [S.next_alloc] at h2
  have hf : f = e.β.length := by rw [← h.nx]; omega
  unfold Sg.bl
  rw [List.getD_eq_getElem?_getD, List.getElem?_append_right (by rw [hf]; exact Nat.le_refl _), hf]
  simp
theorem Kp.put {e : Sg} {xs s : S} {f : Nat} (hf : f < xs.next) (B0 B : bP) : Kp e xs s e (xs.put f B0) (s.put (e.bl f) B) := by
 refine ⟨by rw [S.next_put]; exact Nat.le_refl _, fun g C h hC => ?_, fun g h1 h2 => by rw [S.next_put] at h2; omega⟩
 rw [S.get_put, if_neg (h f hf)]; exact hC
theorem oA (g : V → V) : ∀ (n : Nat) (l : List V), aO n (l.map g) = (aO n l).map (List.map g)
 | 0, l => by simp [aO]
 | n + 1, [] => rfl
 | n + 1, x :: r => by
  simp only [List.map_cons, aO, oA g n r]
  cases aO n r <;> rfl
theorem gk (e : Sg) (v : Nat) : ∀ vers : List mH, bg (vers.map (eu e)) v = (bg vers v).map (eu e)
 | [] => rfl
 | u :: r => by
  simp only [List.map_cons, bg, gk e v r]
  show (bif Nat.beq (eu e u).v v then _ else _) = _
  simp only [eu]
  cases Nat.beq u.v v <;> rfl
theorem eP (g : V → V) : ∀ (cs : List V) (n : Nat) (new cs' : List V), bw cs n new = some cs' → bw (cs.map g) n (new.map g) = some (cs'.map g)
 | cs, n, [], cs', h => by
  have : cs = cs' := by cases cs <;> cases n <;> (simp only [bw] at h; cases h; rfl)
  subst this
  cases cs <;> cases n <;> rfl
 | [], n, y :: new, cs', h => by cases n <;> cases h
 | x :: r, n + 1, y :: new, cs', h => by
  simp only [bw] at h
  cases hr : bw r n (y :: new) with
  | none => rw [hr] at h; cases h
  | some q =>
   rw [hr] at h; cases h
   have := eP g r n (y :: new) q hr
   simp only [List.map_cons] at this
   simp only [List.map_cons, bw, this]; rfl
 | x :: r, 0, y :: new, cs', h => by
  simp only [bw] at h
  cases hr : bw r 0 new with
  | none => rw [hr] at h; cases h
  | some q =>
   rw [hr] at h; cases h
   simp only [List.map_cons, bw, eP g r 0 new q hr]; rfl
section
variable {F : List Nat} {s0 : S} {e : Sg} {xs s : S} {P : Program}
theorem HK.cells (h : HK e xs s) {f : Nat} {el : TypeId} {sb : Bool} {nv : Nat} {vers : List mH} (hg : xs.get f = some (.cells el sb nv vers)) : ∀ e', e.le e' → s.get (e'.bl f) = some (.cells el sb nv (vers.map (eu e'))) :=
 fun e' he => (h.k e' he f _ hg).1
theorem HK.noRo (h : HK e xs s) {f : Nat} {vs : List mH} (hg : xs.get f = some (.ro vs)) : False := by
 have := (h.k e (Sg.le_refl h.ok) f _ hg).2; cases this
theorem xa (h : HK e xs s) {a : Ad} {n : Nat} {l : List V} (hl : loadCells xs a n = some l) : ∀ e', e.le e' → loadCells s (ig e' a) n = some (l.map (sub e')) := by
 intro e' he
 unfold loadCells at hl
 split at hl
 ·rename_i el sb nv vers hg
  split at hl
  ·rename_i u hu
   unfold loadCells
   have h1 := h.cells hg e' he
   simp only [ig, h1, gk, hu, Option.map, eu]
   revert hl
   cases Nat.ble u.lo a.c with
   | false => intro hl; cases hl
   | true =>
    intro hl
    simp only [cond_true] at hl ⊢
    rw [← List.map_drop, oA, hl]; rfl
  ·cases hl
 ·rename_i hg; exact (h.noRo hg).elim
 ·cases hl
theorem Au (h : HK e xs s) {a : Ad} {v : V} (hl : cz xs a = some v) : ∀ e', e.le e' → cz s (ig e' a) = some (sub e' v) := by
 intro e' he
 unfold cz at hl
 split at hl
 ·rename_i el sb nv vers hg
  split at hl
  ·rename_i u hu
   unfold cz
   have h1 := h.cells hg e' he
   simp only [ig, h1, gk, hu, Option.map, eu]
   revert hl
   cases Nat.ble u.lo a.c with
   | false => intro hl; cases hl
   | true =>
    intro hl
    simp only [cond_true] at hl ⊢
    rw [List.getElem?_map, hl]; rfl
  ·cases hl
 ·rename_i hg; exact (h.noRo hg).elim
 ·cases hl
theorem nr (h : HK e xs s) {ty : TypeId} {a : Ad} {v : V} (hl : loadVar P xs ty a = some v) : ∀ e', e.le e' → loadVar P s ty (ig e' a) = some (sub e' v) := by
 intro e' he
 unfold loadVar at hl ⊢
 cases hA : fj P ty with
 | none => rw [hA] at hl; cases hl
 | some b =>
  rw [hA] at hl
  cases b with
  | true =>
   simp only at hl ⊢
   cases hs : size P ty with
   | none => rw [hs] at hl; cases hl
   | some n =>
    rw [hs] at hl
    simp only [Option.bind] at hl ⊢
    cases hc : loadCells xs a n with
    | none => rw [hc] at hl; cases hl
    | some l =>
     rw [hc] at hl; cases hl
     rw [xa h hc e' he]
     simp only [Option.map, sub, de]
  | false => exact Au h hl e' he
theorem ur (h : XR F s0 e xs s) {a : Ad} {new new' : List V} {xs' : S} (hs : storeCells xs a new = some xs') (hn : OJ e new new') :
 ∃ s', (∀ e', e.le e' → storeCells s (ig e' a) new' = some s') ∧ XR F s0 e xs' s' ∧ Kp e xs s e xs' s' := by
 unfold storeCells at hs
 split at hs
 ·rename_i el sb nv vers hg
  split at hs
  ·rename_i u hu
   revert hs
   cases hb : (Nat.ble u.lo a.c && new.all V.one) with
   | false => intro hs; cases hs
   | true =>
    intro hs
    simp only [cond_true] at hs
    split at hs
    ·rename_i cs hcs
     cases hs
     have hd := h.dom _ _ hg
     have hall : new'.all V.one = true := by
      rw [← hn e (Sg.le_refl h.ok), sY h.ok]
      exact (Bool.and_eq_true_iff.1 hb).2
     have hcell : ∀ e', e.le e' → storeCells s (ig e' a) new' = some (s.put (e.bl a.f) (hQ e' (.cells el sb nv [⟨u.v, u.lo, cs⟩]))) := by
      intro e' he
      unfold storeCells
      have hbl : e'.bl a.f = e.bl a.f := he.bl (by rw [← h.nx]; exact hd)
      have h1 := h.hk.cells hg e' he
      rw [hbl] at h1
      have h2 := eP (sub e') _ _ _ _ hcs
      rw [hn e' he] at h2
      simp only [ig, hbl, h1, gk, hu, Option.map, eu, (Bool.and_eq_true_iff.1 hb).1, hall, Bool.and_self, cond_true, h2, hQ, List.map_cons, List.map_nil]
     have hsame : ∀ e', e.le e' → hQ e' (.cells el sb nv [⟨u.v, u.lo, cs⟩]) = hQ e (.cells el sb nv [⟨u.v, u.lo, cs⟩]) := by
      intro e' he
      have h1 := eP (sub e') _ _ _ _ hcs
      have h2 := eP (sub e) _ _ _ _ hcs
      rw [hn e' he] at h1
      rw [hn e (Sg.le_refl h.ok)] at h2
      have h3 := h.hk.cells hg e' he
      have h4 := h.hk.cells hg e (Sg.le_refl h.ok)
      rw [he.bl (f := a.f) (by rw [← h.nx]; exact hd), h4] at h3
      have h5 : vers.map (eu e) = vers.map (eu e') := by
       have := Option.some.inj h3; injection this
      have h6 : (bg vers a.v).map (eu e) = (bg vers a.v).map (eu e') := by rw [← gk, ← gk, h5]
      rw [hu] at h6
      simp only [Option.map, eu, Option.some.injEq, mH.mk.injEq] at h6
      rw [h6.2.2] at h2
      rw [h1] at h2
      simp only [hQ, List.map_cons, List.map_nil, eu, Option.some.inj h2]
     refine ⟨s.put (e.bl a.f) (hQ e (.cells el sb nv [⟨u.v, u.lo, cs⟩])), fun e' he => by rw [hcell e' he, hsame e' he], h.put hg rfl hsame, Kp.put hd _ _⟩
    ·cases hs
  ·cases hs
 ·cases hs
theorem rl {v w : V} (ok : e.ok) (h : RV e v w) : OJ e v.cells w.cells := fun e' he => by rw [← h e' he, rf he.ok]
theorem zG (h : XR F s0 e xs s) {ty : TypeId} {a : Ad} {v w : V} {xs' : S} (hs : storeVar P xs ty a v = some xs') (hv : RV e v w) :
 ∃ s', (∀ e', e.le e' → storeVar P s ty (ig e' a) w = some s') ∧ XR F s0 e xs' s' ∧ Kp e xs s e xs' s' := by
 unfold storeVar at hs
 cases hn : size P ty with
 | none => rw [hn] at hs; cases hs
 | some n =>
  rw [hn] at hs
  simp only at hs
  have hl : w.cells.length = v.cells.length := by rw [← rl h.ok hv e (Sg.le_refl h.ok), List.length_map]
  revert hs
  cases hb : Nat.beq v.cells.length n with
  | false => intro hs; cases hs
  | true =>
   intro hs
   obtain ⟨s', h1, h2⟩ := ur h hs (rl h.ok hv)
   refine ⟨s', fun e' he => ?_, h2⟩
   unfold storeVar
   simp only [hn, hl, hb, cond_true]
   exact h1 e' he
theorem IK {t : TypeId} {cs : List V} {off : Nat} {v : V} (hp : qf P t cs off = some v) (e' : Sg) : qf P t (cs.map (sub e')) off = some (sub e' v) := by
 unfold qf at hp ⊢
 cases hA : fj P t with
 | none => rw [hA] at hp; cases hp
 | some b =>
  rw [hA] at hp
  cases b with
  | true =>
   simp only at hp ⊢
   cases hs : size P t with
   | none => rw [hs] at hp; cases hp
   | some n =>
    rw [hs] at hp
    cases hp
    simp only [Option.map, sub, de, List.map_take, List.map_drop]
  | false =>
   simp only at hp ⊢
   rw [List.getElem?_map, hp]; rfl
theorem ol {place : Nat → Option (Nat × Nat)} {e' : Sg} (ok : e'.ok) : ∀ (l : List (Nat × V)) (cs cs' : List V), kE place cs l = some cs' → kE place (cs.map (sub e')) (l.map fun x => (x.1, sub e' x.2)) = some (cs'.map (sub e'))
 | [], cs, cs', h => by cases h; rfl
 | (i, v) :: r, cs, cs', h => by
  simp only [kE] at h
  split at h
  ·cases h
  ·rename_i off n hp
   simp only [List.map_cons, kE, hp]
   rw [rf ok, List.length_map]
   revert h
   cases (Nat.beq v.cells.length n && Nat.blt 0 n) with
   | false => intro h; cases h
   | true =>
    intro h
    simp only [cond_true] at h ⊢
    cases ho : bw cs off v.cells with
    | none => rw [ho] at h; cases h
    | some q =>
     rw [ho] at h
     rw [eP _ _ _ _ _ ho]
     exact ol ok r q cs' h
end
inductive DS (F : List Nat) (s0 : S) (K : Sg → S → S → Prop) (X0 S0 : S) (e : Sg) : Nx → Nx → Prop where
 | val {v w : V} {xs s : S} : RV e v w → XR F s0 e xs s → K e xs s → DS F s0 K X0 S0 e (.val v xs) (.val w s)
 | skip {xs s : S} : XR F s0 e xs s → K e xs s → DS F s0 K X0 S0 e (.skip xs) (.skip s)
 | enter {f : FuncId} {a b : List V} : OJ e a b → XR F s0 e X0 S0 → DS F s0 K X0 S0 e (.enter f a X0) (.enter f b S0)
 | panic {v w : V} : RV e v w → XR F s0 e X0 S0 → DS F s0 K X0 S0 e (.panic v X0) (.panic w S0)
def AF : V → V → Bool
 | .int .., .int .. => true
 | .bool _, .bool _ => true
 | .str _, .str _ => true
 | .nilptr, .nilptr => true
 | .nilptr, .ptr _ => true
 | .ptr _, .nilptr => true
 | .nilslice, .nilslice => true
 | .nilslice, .slice .. => true
 | .slice .., .nilslice => true
 | .nilmap, .nilmap => true
 | .nilmap, .map _ => true
 | .map _, .nilmap => true
 | .nilFunc, .nilFunc => true
 | .nilFunc, .func .. => true
 | .func .., .nilFunc => true
 | .nilIface, .nilIface => true
 | .nilIface, .iface .. => true
 | .iface .., .nilIface => true
 | _, _ => false
def zo (tx : T V) : Op → Bool
 | .move _ | .assign _ | .pick .. | .alloc _ | .box .. | .build .. | .load .. | .store .. | .nilCheck _ | .unOp .. | .makeInterface .. | .makeFunc .. | .fieldAddr .. | .field .. | .indexAddr .. | .extract .. | .typeAssert .. | .panic _ | .buildSlice .. => true
 | .makeMap _ none => false
 | .binOp _ _ x y _ => match eval tx x with
  | some a => match eval tx y with
   | some b => AF a b
   | none => false
  | none => false
 | .convert _ _ x => match eval tx x with
  | some (.int ..) => true
  | _ => false
 | .call c => match c.callee with
  | .value f => match eval tx f with
   | some (.func (.func _) _ _) => true
   | _ => false
  | _ => false
 | _ => false
section
variable {F : List Nat} {s0 : S} {e : Sg} {xs s : S} {E : cg} {tx t : T V}
theorem RT.atR (h : RT e tx t) (ok : e.ok) {o : Operand} {v : V} (hv : eval tx o = some v) : eval t o = some (sub e v) := by
 obtain ⟨w, h1, h2⟩ := h.evalR hv
 rw [h1, ← h2 e (Sg.le_refl ok)]
theorem RT.rvR (h : RT e tx t) (ok : e.ok) {o : Operand} {v : V} (hv : eval tx o = some v) : RV e v (sub e v) := by
 obtain ⟨w, h1, h2⟩ := h.evalR hv
 rw [h2 e (Sg.le_refl ok)]; exact h2
theorem RT.evalsOR (h : RT e tx t) (ok : e.ok) : ∀ {l : List (Nat × Operand)} {vs : List (Nat × V)}, dR tx l = some vs → dR t l = some (vs.map fun x => (x.1, sub e x.2)) ∧ ∀ e', e.le e' → (vs.map fun x => (x.1, sub e' x.2)) = vs.map fun x => (x.1, sub e x.2)
 | [], vs, hv => by cases hv; exact ⟨rfl, fun _ _ => rfl⟩
 | (i, o) :: l, vs, hv => by
  simp only [dR] at hv
  split at hv
  ·rename_i v h1
   split at hv
   ·rename_i vs' h2
    cases hv
    obtain ⟨h3, h4⟩ := h.evalsOR ok h2
    refine ⟨by simp only [dR, h.atR ok h1, h3, List.map_cons], fun e' he => ?_⟩
    simp only [List.map_cons, h4 e' he, (h.rvR ok h1) e' he]
   ·cases hv
  ·cases hv
theorem mb {v w : V} {nx : Nx} (h : XR F s0 e xs s) (hn : bc xs (some v) = some nx) (hv : RV e v w) : ∃ e', e.ex e' ∧ ∃ nx', bc s (some w) = some nx' ∧ DS F s0 (Kp e xs s) xs s e' nx nx' := by
 cases hn; exact ⟨e, Sg.ex_refl h.ok, _, rfl, .val hv h Kp.refl⟩
abbrev SU (F : List Nat) (s0 : S) (e : Sg) (xs s : S) (t : T V) (E : cg) (op : Op) (nx : Nx) : Prop := ∃ e', e.ex e' ∧ ∃ nx', az op E t s = some nx' ∧ DS F s0 (Kp e xs s) xs s e' nx nx'
theorem Ea (h : XR F s0 e xs s) (ht : RT e tx t) {x : Operand} {nx : Nx} (hn : bc xs (eval tx x) = some nx) : ∃ e', e.ex e' ∧ ∃ nx', bc s (eval t x) = some nx' ∧ DS F s0 (Kp e xs s) xs s e' nx nx' := by
 cases hx : eval tx x with
 | none => rw [hx] at hn; cases hn
 | some v =>
  rw [hx] at hn
  rw [ht.atR h.ok hx]
  exact mb h hn (ht.rvR h.ok hx)
theorem oX (h : XR F s0 e xs s) (ht : RT e tx t) {x : Operand} {g : Option V → Option V} (hnone : g none = none) (hg : ∀ v r, g (some v) = some r → ∀ e', e.le e' → g (some (sub e' v)) = some (sub e' r)) {nx : Nx}
 (hn : bc xs (g (eval tx x)) = some nx) : ∃ e', e.ex e' ∧ ∃ nx', bc s (g (eval t x)) = some nx' ∧ DS F s0 (Kp e xs s) xs s e' nx nx' := by
 cases hx : eval tx x with
 | none => rw [hx, hnone] at hn; cases hn
 | some v =>
  rw [hx] at hn
  cases hr : g (some v) with
  | none => rw [hr] at hn; cases hn
  | some r =>
   rw [hr] at hn
   rw [ht.atR h.ok hx]
   have hrv := ht.rvR h.ok hx
   rw [hg v r hr e (Sg.le_refl h.ok)]
   refine mb h hn (fun e' he => ?_)
   have h1 := hg v r hr e' he
   rw [hrv e' he, hg v r hr e (Sg.le_refl h.ok)] at h1
   exact (Option.some.inj h1).symm
theorem PC (h : XR F s0 e xs s) (ht : RT e tx t) {c a b : Operand} {nx : Nx} (hn : ip tx xs c a b = some nx) : ∃ e', e.ex e' ∧ ∃ nx', ip t s c a b = some nx' ∧ DS F s0 (Kp e xs s) xs s e' nx nx' := by
 unfold ip at hn ⊢
 split at hn
 ·rename_i q hc
  rw [ht.atR h.ok hc]
  exact Ea h ht hn
 ·cases hn
theorem Bt {P : Program} {ty : TypeId} {z : V} (hz : zero P ty = some z) (e : Sg) : sub e z = z := by
 unfold zero at hz
 cases hi : (P.info? ty).bind (·.zero) with
 | none => rw [hi] at hz; cases hz
 | some c => rw [hi] at hz; exact yO e hz
theorem lB {P : Program} {ty : TypeId} {z : V} (hz : zero P ty = some z) {e : Sg} (ok : e.ok) : z.cells.map (sub e) = z.cells := by rw [← rf ok, Bt hz]
theorem Nf (h : XR F s0 e xs s) {el : TypeId} {nx : Nx} (hn : eJ E.P xs el = some nx) : ∃ e', e.ex e' ∧ ∃ nx', eJ E.P s el = some nx' ∧ DS F s0 (Kp e xs s) xs s e' nx nx' := by
 unfold eJ at hn ⊢
 split at hn
 ·rename_i z hz
  cases hn
  obtain ⟨h1, h2, h3, _⟩ := h.alloc (B := .cells el false 1 [⟨0, 0, z.cells⟩]) (B' := .cells el false 1 [⟨0, 0, z.cells⟩]) rfl (fun e' he => by simp only [hQ, List.map_cons, List.map_nil, eu, lB hz he.ok])
  exact ⟨_, ⟨h1, rfl⟩, _, rfl, .val h3 h2 (Kp.alloc h _ _)⟩
 ·cases hn
theorem RE (h : XR F s0 e xs s) (ht : RT e tx t) {el : TypeId} {x : Operand} {nx : Nx} (hn : nL xs el (eval tx x) = some nx) : ∃ e', e.ex e' ∧ ∃ nx', nL s el (eval t x) = some nx' ∧ DS F s0 (Kp e xs s) xs s e' nx nx' := by
 cases hx : eval tx x with
 | none => rw [hx] at hn; cases hn
 | some v =>
  rw [hx] at hn
  rw [ht.atR h.ok hx]
  have hrv := ht.rvR h.ok hx
  cases hn
  obtain ⟨h1, h2, h3, _⟩ := h.alloc (B := .cells el false 1 [⟨0, 0, v.cells⟩]) (B' := .cells el false 1 [⟨0, 0, (sub e v).cells⟩]) rfl (fun e' he => by
   simp only [hQ, List.map_cons, List.map_nil, eu]
   rw [rl h.ok hrv e' he])
  exact ⟨_, ⟨h1, rfl⟩, _, rfl, .val h3 h2 (Kp.alloc h _ _)⟩
theorem Ic (h : XR F s0 e xs s) {nx : Nx} (hn : some (Nx.val (.map xs.next) (xs.alloc (.map [] 0))) = some nx) : ∃ e', e.ex e' ∧ ∃ nx', some (Nx.val (.map s.next) (s.alloc (.map [] 0))) = some nx' ∧ DS F s0 (Kp e xs s) xs s e' nx nx' := by
 cases hn
 obtain ⟨h1, h2, _, h4⟩ := h.alloc (B := .map [] 0) (B' := .map [] 0) rfl (fun e' he => rfl)
 exact ⟨_, ⟨h1, rfl⟩, _, rfl, .val (fun e' he => by simp only [sub, h4 e' he]) h2 (Kp.alloc h _ _)⟩
theorem PD (h : XR F s0 e xs s) (ht : RT e tx t) {ty : TypeId} {x : Operand} {nx : Nx} (hn : eI E.P xs ty (eval tx x) = some nx) : ∃ e', e.ex e' ∧ ∃ nx', eI E.P s ty (eval t x) = some nx' ∧ DS F s0 (Kp e xs s) xs s e' nx nx' := by
 unfold eI at hn
 split at hn
 ·rename_i a hx
  rw [ht.atR h.ok hx]
  have hrv := ht.rvR h.ok hx
  show ∃ e', e.ex e' ∧ ∃ nx', bc s (loadVar E.P s ty (ig e a)) = some nx' ∧ _
  cases hl : loadVar E.P xs ty a with
  | none => rw [hl] at hn; cases hn
  | some v =>
   rw [hl] at hn
   have h1 := nr (P := E.P) h.hk hl
   rw [h1 e (Sg.le_refl h.ok)]
   refine mb h hn (fun e' he => ?_)
   have h2 := h1 e' he
   have h3 : ig e' a = ig e a := by have := hrv e' he; simp only [sub, V.ptr.injEq] at this; exact this
   rw [h3, h1 e (Sg.le_refl h.ok)] at h2
   exact (Option.some.inj h2).symm
 ·cases hn
theorem Nb (h : XR F s0 e xs s) (ht : RT e tx t) {ty : TypeId} {x y : Operand} {nx : Nx} (hn : kH E.P xs ty (eval tx x) (eval tx y) = some nx) : ∃ e', e.ex e' ∧ ∃ nx', kH E.P s ty (eval t x) (eval t y) = some nx' ∧ DS F s0 (Kp e xs s) xs s e' nx nx' := by
 unfold kH at hn
 split at hn
 ·rename_i a hx
  split at hn
  ·rename_i v hy
   rw [ht.atR h.ok hx, ht.atR h.ok hy]
   cases hs : storeVar E.P xs ty a v with
   | none => rw [hs] at hn; cases hn
   | some xs' =>
    rw [hs] at hn; cases hn
    obtain ⟨s', h1, h2, hkp⟩ := zG h hs (ht.rvR h.ok hy)
    refine ⟨e, Sg.ex_refl h.ok, .skip s', ?_, .skip h2 hkp⟩
    show uQ (storeVar E.P s ty (ig e a) (sub e v)) = _
    rw [h1 e (Sg.le_refl h.ok)]; rfl
  ·cases hn
 ·cases hn
end
section
variable {F : List Nat} {s0 : S} {e : Sg} {xs s : S} {E : cg} {tx t : T V} {P : Program}
theorem Ap {v r : V} (h : fo (some v) = some r) (e' : Sg) : fo (some (sub e' v)) = some (sub e' r) := by
 cases v with
 | ptr a => cases h; rfl
 | func fn fi ca =>
  cases fn with
  | func f => cases h; rfl
  | yield f => cases h; rfl
  | _ => cases h
 | _ => cases h
theorem JQ {op : UnOp} {v r : V} (h : pU op v = some r) (e' : Sg) : pU op (sub e' v) = some (sub e' r) := by
 unfold pU at h
 split at h
 ·cases h; rfl
 ·cases h; rfl
 ·cases h
theorem CJ {ty : TypeId} {v r : V} (h : eR P ty (some v) = some r) (e' : Sg) : eR P ty (some (sub e' v)) = some (sub e' r) := by
 unfold eR at h ⊢
 split at h
 ·cases h
 ·cases h; simp only [sub]
 ·cases h
theorem De {i : Nat} {v r : V} (h : fH (some v) i = some r) (e' : Sg) : fH (some (sub e' v)) i = some (sub e' r) := by
 unfold fH at h
 split at h
 ·rename_i vs hv
  cases hv
  simp only [sub, fH, de, List.getElem?_map, h, Option.map]
 ·cases h
theorem xf {ty f : Nat} {v r : V} (h : aP P ty (some v) f = some r) (e' : Sg) : aP P ty (some (sub e' v)) f = some (sub e' r) := by
 unfold aP at h ⊢
 split at h
 ·split at h
  ·rename_i a hv
   cases hv
   split at h
   ·rename_i fd hf
    revert h
    simp only [sub]
    cases kA fd P with
    | true => intro h; cases h
    | false => intro h; cases h; simp only [cond_false, sub, eK, ig]
   ·cases h
  ·cases h
 ·cases h
theorem Jd {ty f : Nat} {v r : V} (h : jo P ty (some v) f = some r) (e' : Sg) : jo P ty (some (sub e' v)) f = some (sub e' r) := by
 unfold jo at h ⊢
 split at h
 ·split at h
  ·rename_i cs hv
   cases hv
   split at h
   ·rename_i fd hf
    simp only [sub, de]
    exact IK h e'
   ·cases h
  ·cases h
 ·cases h
theorem nA {ty : TypeId} {ok : Bool} {r : V} (h : im P ty ok = some r) (e' : Sg) : sub e' r = r := by
 unfold im at h
 cases ok with
 | false => cases h
 | true =>
  simp only [cond_true] at h
  split at h
  ·rename_i z hz; cases h; simp only [sub, gZ, Bt hz]
  ·cases h
theorem Gn {ty : TypeId} {ok : Bool} {v r : V} (h : fT P (some v) ty ok = some r) (e' : Sg) : fT P (some (sub e' v)) ty ok = some (sub e' r) := by
 unfold fT at h ⊢
 split at h
 ·cases h
 ·split at h
  ·rename_i hv
   cases hv
   simp only [sub, h, nA h e']
  ·rename_i t0 v0 hv
   cases hv
   simp only [sub]
   revert h
   cases Nat.beq t0 ty with
   | true => intro h; cases h; cases ok <;> rfl
   | false => intro h; simp only [cond_false] at h ⊢; rw [h, nA h e']
  ·cases h
 ·cases h
theorem IQ {v : V} {n : Nat} (h : jL v = some n) (e' : Sg) : jL (sub e' v) = some n := by
 unfold jL at h
 split at h
 ·exact h
 ·cases h
theorem kR {ty n : Nat} {v r : V} (h : bF P ty (some v) (some n) = some r) (e' : Sg) : bF P ty (some (sub e' v)) (some n) = some (sub e' r) := by
 unfold bF at h ⊢
 simp only at h ⊢
 split at h
 ·split at h
  ·rename_i a z len c sz hv
   cases hv
   split at h
   ·rename_i m hm
    simp only [sub]
    revert h
    cases (Nat.beq m sz && Nat.blt n len) with
    | false => intro h; cases h
    | true => intro h; cases h; simp only [cond_true, sub, eK, ig]
   ·cases h
  ·cases h
 ·rename_i len el hu0
  split at h
  ·rename_i a hv
   cases hv
   split at h
   ·rename_i m hm
    simp only [sub]
    cases hb : Nat.blt n len with
    | false => rw [hb] at h; cases h
    | true => rw [hb] at h; cases h; simp only [cond_true, sub, eK, ig]
   ·cases h
  ·cases h
 ·cases h
theorem FD {ok ok' : Ad → Bool} {d : Nat} {ty : TypeId} {a b : V} (hs : AF a b = true) {q : Bool} (h : dJ P ok d ty a b = some q) (e' : Sg) : dJ P ok' d ty (sub e' a) (sub e' b) = some q := by
 cases d with
 | zero => cases h
 | succ d =>
  unfold dJ at h ⊢
  cases a <;> cases b <;> first | (cases hs; done) | skip
  all_goals
   simp only [sub]
   cases hu : P.underlying ty with
   | none => rw [hu] at h; cases h
   | some ds => rw [hu] at h; cases ds <;> first | exact h | (cases h; done)
theorem Fo {op : BinOp} {k : IntKind} {a b : Int} {r : V} (h : dI op k a b = some r) (e' : Sg) : sub e' r = r := by
 unfold dI at h
 split at h <;> first
  | (cases h; rfl)
  | (cases h; rw [aS]; rfl)
  | (cases h; done)
  | (revert h; cases (b == 0) <;> intro h <;> first | (cases h; rfl) | (cases h; done))
theorem zL {op : BinOp} {k : IntKind} {a b : Int} {r : V} (h : pW op k a b = some r) (e' : Sg) : sub e' r = r := by
 unfold pW at h
 split at h
 ·split at h <;> first | (cases h; rw [aS]; rfl) | (cases h; done)
 ·cases h
theorem EF {op : BinOp} {a b : List Nat} {r : V} (h : oB op a b = some r) (e' : Sg) : sub e' r = r := by
 unfold oB at h
 split at h
 ·revert h; cases Nat.ble (a.length + b.length) 1000000 <;> intro h <;> first | (cases h; rfl) | (cases h; done)
 ·cases hq : ia a b with
  | none => rw [hq] at h; cases h
  | some q => rw [hq] at h; cases h; rfl
 ·cases hq : ia a b with
  | none => rw [hq] at h; cases h
  | some q => rw [hq] at h; cases h; rfl
 ·cases h; rfl
 ·cases h
theorem sW {ok ok' : Ad → Bool} {op : BinOp} {ty : TypeId} {a b r : V} (hs : AF a b = true) (h : bD P ok op ty a b = some r) (e' : Sg) : bD P ok' op ty (sub e' a) (sub e' b) = some (sub e' r) := by
 have key : ∀ q : Bool → Bool, (dJ P ok 20 ty a b).map (fun x => V.bool (q x)) = some r → (dJ P ok' 20 ty (sub e' a) (sub e' b)).map (fun x => V.bool (q x)) = some (sub e' r) := by
  intro q hq
  cases hx : dJ P ok 20 ty a b with
  | none => rw [hx] at hq; cases hq
  | some x => rw [hx] at hq; cases hq; rw [FD hs hx e']; rfl
 have k1 := key id
 have k2 := key fun b => !b
 cases a <;> cases b <;> first | (cases hs; done) | skip
 case int.int j a k b =>
  simp only [bD, sub] at h ⊢
  revert h
  cases bQ op with
  | true => intro h; simp only [cond_true] at h ⊢; rw [h, zL h]
  | false =>
   cases aR j k with
   | true => intro h; simp only [cond_true, cond_false] at h ⊢; rw [h, Fo h]
   | false => intro h; cases h
 case str.str a b => simp only [bD, sub] at h ⊢; rw [h, EF h]
 all_goals
  cases op <;> first | (exact k1 h) | (exact k2 h) | (cases h; done)
theorem sH {op : BinOp} {ty : TypeId} {x y : Operand} {a b : V} (hs : AF a b = true) (e' : Sg) : bj P op ty x y (sub e' a) (sub e' b) = bj P op ty x y a b := by
 cases a <;> cases b <;> first | (cases hs; done) | rfl
end
section
variable {F : List Nat} {s0 : S} {e : Sg} {xs s : S} {E : cg} {tx t : T V} {P : Program}
theorem RD (h : XR F s0 e xs s) (ht : RT e tx t) {x y : Operand} {a b r : V} (hx : eval tx x = some a) (hy : eval tx y = some b) {g : S → Option V → Option V → Option V}
 (hr : g xs (some a) (some b) = some r) (hg : ∀ e', e.le e' → g s (some (sub e' a)) (some (sub e' b)) = some (sub e' r)) {nx : Nx} (hn : bc xs (g xs (eval tx x) (eval tx y)) = some nx) :
 ∃ e', e.ex e' ∧ ∃ nx', bc s (g s (eval t x) (eval t y)) = some nx' ∧ DS F s0 (Kp e xs s) xs s e' nx nx' := by
 rw [hx, hy, hr] at hn
 rw [ht.atR h.ok hx, ht.atR h.ok hy, hg e (Sg.le_refl h.ok)]
 refine mb h hn fun e' he => ?_
 have h1 := hg e' he
 rw [ht.rvR h.ok hx e' he, ht.rvR h.ok hy e' he, hg e (Sg.le_refl h.ok)] at h1
 exact (Option.some.inj h1).symm
theorem EP (h : XR F s0 e xs s) (ht : RT e tx t) {l : List Operand} {vs : List V} (hv : evals tx l = some vs) : evals t l = some (vs.map (sub e)) ∧ OJ e vs (vs.map (sub e)) := by
 obtain ⟨ws, h1, h2⟩ := ht.evalsR hv
 have h3 := h2 e (Sg.le_refl h.ok)
 subst h3
 exact ⟨h1, h2⟩
theorem nK {ty : TypeId} {l : List (Nat × V)} {r : V} (h : fZ P ty (some l) = some r) {e' : Sg} (ok : e'.ok) : fZ P ty (some (l.map fun x => (x.1, sub e' x.2))) = some (sub e' r) := by
 unfold fZ at h ⊢
 split at h
 ·rename_i z hz
  simp only at h ⊢
  split at h
  ·rename_i fs hu
   revert h
   cases fs.toList.all (fun f => (size P f.type).isSome) with
   | false => intro h; cases h
   | true =>
    intro h
    simp only [cond_true] at h ⊢
    cases hf : kE (nz P fs) z.cells l with
    | none => rw [hf] at h; cases h
    | some cs =>
     rw [hf] at h; cases h
     have := ol ok l z.cells cs hf
     rw [lB hz ok] at this
     rw [this]; simp only [DO, sub, de]
  ·split at h
   ·rename_i n hn
    cases hf : kE (fun i => some (i * n, n)) z.cells l with
    | none => rw [hf] at h; cases h
    | some cs =>
     rw [hf] at h; cases h
     have := ol ok l z.cells cs hf
     rw [lB hz ok] at this
     rw [this]; simp only [DO, sub, de]
   ·cases h
  ·cases h
 ·cases h
theorem tg (g : V → V) (n : Nat) (l : List V) (hl : l.map g = l) : ((List.replicate n l).flatten).map g = (List.replicate n l).flatten := by
 induction n with
 | zero => rfl
 | succ n ih => simp only [List.replicate_succ, List.flatten_cons, List.map_append, ih, hl]
theorem zn (h : XR F s0 e xs s) {ty : TypeId} {len : Nat} {l : List (Nat × V)} (hl : ∀ e', e.le e' → (l.map fun x => (x.1, sub e' x.2)) = l.map fun x => (x.1, sub e x.2)) {nx : Nx} (hn : bt P xs ty len (some l) = some nx) :
 ∃ e', e.ex e' ∧ ∃ nx', bt P s ty len (some (l.map fun x => (x.1, sub e x.2))) = some nx' ∧ DS F s0 (Kp e xs s) xs s e' nx nx' := by
 unfold bt at hn ⊢
 split at hn
 ·rename_i el hu
  simp only at hn ⊢
  split at hn
  ·rename_i z hz
   split at hn
   ·rename_i n hs
    revert hn
    cases (Nat.ble (len * n) 10000 && !(Nat.beq n 0) && Nat.beq z.cells.length n) with
    | false => intro hn; cases hn
    | true =>
     intro hn
     simp only [cond_true] at hn ⊢
     cases hf : kE (fun i => some (i * n, n)) (List.replicate len z.cells).flatten l with
     | none => rw [hf] at hn; cases hn
     | some cs =>
      rw [hf] at hn
      have hh : ∀ e', e.le e' → kE (fun i => some (i * n, n)) (List.replicate len z.cells).flatten (l.map fun x => (x.1, sub e x.2)) = some (cs.map (sub e')) := fun e' he => by
       have := ol he.ok l _ cs hf
       rw [tg _ _ _ (lB hz he.ok), hl e' he] at this
       exact this
      rw [hh e (Sg.le_refl h.ok)]
      cases hn
      obtain ⟨h1, h2, h3, h4⟩ := h.alloc (B := .cells el false 1 [⟨0, 0, cs⟩]) (B' := .cells el false 1 [⟨0, 0, cs.map (sub e)⟩]) rfl (fun e' he => by
       have := hh e' he
       rw [hh e (Sg.le_refl h.ok)] at this
       simp only [hQ, List.map_cons, List.map_nil, eu, (Option.some.inj this).symm])
      exact ⟨_, ⟨h1, rfl⟩, _, rfl, .val (fun e' he => by simp only [sub, ig, h4 e' he]) h2 (Kp.alloc h _ _)⟩
   ·cases hn
  ·cases hn
 ·cases hn
theorem Df {k : xE} {args : List V} {r : V} (h : fY k args = some r) (e' : Sg) : fY k (args.map (sub e')) = some (sub e' r) := by
 unfold fY at h
 split at h
 ·simp only [List.map_cons, List.map_nil, sub, fY]
  split at h
  ·cases h; split <;> rfl
  ·cases h; rw [aS]; rfl
 ·cases h
theorem Nd (h : XR F s0 e xs s) {g : FuncId} {args args' : List V} (ha : OJ e args args') {nx : Nx} (hn : fU E g args xs = some nx) : ∃ e', e.ex e' ∧ ∃ nx', fU E g args' s = some nx' ∧ DS F s0 (Kp e xs s) xs s e' nx nx' := by
 unfold fU at hn ⊢
 split at hn
 ·cases hn
 ·split at hn
  ·split at hn
   ·rename_i k _
    cases hv : fY k args with
    | none => rw [hv] at hn; cases hn
    | some v =>
     rw [hv] at hn
     have h1 : ∀ e', e.le e' → fY k args' = some (sub e' v) := fun e' he => by rw [← ha e' he]; exact Df hv e'
     rw [h1 e (Sg.le_refl h.ok)]
     refine mb h hn fun e' he => ?_
     have h2 := h1 e' he
     rw [h1 e (Sg.le_refl h.ok)] at h2
     exact (Option.some.inj h2).symm
   ·cases hn
  ·cases hn
   exact ⟨e, Sg.ex_refl h.ok, _, rfl, .enter ha h⟩
theorem LK {ty : TypeId} {i : Option Nat} : bF P ty none i = none := by
 unfold bF
 split
 ·split <;> rfl
 ·rfl
theorem Gl {ty : TypeId} : fZ P ty none = none := by unfold fZ; split <;> rfl
theorem tu {ty len : Nat} : bt P xs ty len none = none := by unfold bt; split <;> rfl
theorem Nc (h : XR F s0 e xs s) (ht : RT e tx t) {op : Op} (hok : zo tx op = true) {nx : Nx} (hn : az op E tx xs = some nx) : SU F s0 e xs s t E op nx := by
 unfold SU
 cases op with
 | move x => exact Ea h ht hn
 | assign x => exact Ea h ht hn
 | pick c a b => exact PC h ht hn
 | alloc el => exact Nf h hn
 | box el x => exact RE h ht hn
 | load ty x => exact PD h ht hn
 | store ty x y => exact Nb h ht hn
 | nilCheck x => exact oX h ht (g := fo) rfl (fun v r hv e' _ => Ap hv e') hn
 | unOp op ty x => exact oX h ht (g := Jh op) rfl (fun v r hv e' _ => JQ hv e') hn
 | makeInterface ty x => exact oX h ht (g := eR E.P ty) (by unfold eR; split <;> rfl) (fun v r hv e' _ => CJ hv e') hn
 | extract x i => exact oX h ht (g := fun v => fH v i) rfl (fun v r hv e' _ => De hv e') hn
 | fieldAddr ty x f => exact oX h ht (g := fun v => aP E.P ty v f) (by simp only [aP]; split <;> rfl) (fun v r hv e' _ => xf hv e') hn
 | field ty x f => exact oX h ht (g := fun v => jo E.P ty v f) (by simp only [jo]; split <;> rfl) (fun v r hv e' _ => Jd hv e') hn
 | typeAssert x a ty ok => exact oX h ht (g := fun v => fT E.P v ty ok) (by simp only [fT]; split <;> rfl) (fun v r hv e' _ => Gn hv e') hn
 | makeMap ty x =>
  cases x with
  | none => exact Ic h hn
  | some x => cases hok
 | binOp op ty x y _ =>
  simp only [zo] at hok
  split at hok
  ·rename_i a hx
   split at hok
   ·rename_i b hy
    have hn' := hn
    simp only [az, hx, hy, cS] at hn'
    cases hg : bj E.P op ty x y a b with
    | false => rw [hg] at hn'; cases hn'
    | true =>
     rw [hg] at hn'
     simp only [cond_true] at hn'
     cases hr : bD E.P (plainAt xs) op ty a b with
     | none => rw [hr] at hn'; cases hn'
     | some r =>
      exact RD h ht hx hy (g := fun s a b => cS E.P s op ty x y a b) (r := r) (by simp only [cS, hg, cond_true, hr]) (fun e' he => by
       simp only [cS, sH hok, hg, cond_true]
       exact sW hok hr e') hn
   ·cases hok
  ·cases hok
 | convert src dst x =>
  simp only [zo] at hok
  split at hok
  ·rename_i k n hx
   have h1 := ht.atR h.ok hx
   simp only [sub] at h1
   simp only [az, hx, h1] at hn ⊢
   unfold fp iN at hn ⊢
   simp only at hn ⊢
   cases hsrc : E.P.underlying src with
   | none => rw [hsrc] at hn; simp only [ff] at hn; cases hn
   | some ds =>
    rw [hsrc] at hn
    simp only at hn ⊢
    cases hdst : E.P.underlying dst with
    | none => rw [hdst] at hn; cases hn
    | some dd =>
     rw [hdst] at hn
     cases dd with
     | int kk => cases hn; exact ⟨e, Sg.ex_refl h.ok, _, rfl, .val (fun e' _ => by rw [aS]; rfl) h Kp.refl⟩
     | string => cases hn; exact ⟨e, Sg.ex_refl h.ok, _, rfl, .val (fun e' _ => rfl) h Kp.refl⟩
     | slice el => cases hn
     | _ => cases hn
  ·cases hok
 | makeFunc fn a b =>
  simp only [az] at hn ⊢
  cases ha : evals tx a.toList with
  | none => rw [ha] at hn; unfold nI at hn; split at hn <;> cases hn
  | some va =>
   cases hb : evals tx b.toList with
   | none => rw [ha, hb] at hn; unfold nI at hn; split at hn <;> cases hn
   | some vb =>
    rw [ha, hb] at hn
    obtain ⟨h1, h2⟩ := EP h ht ha
    obtain ⟨h3, h4⟩ := EP h ht hb
    rw [h1, h3]
    cases fn with
    | yield l => cases hn
    | _ => cases hn; exact ⟨e, Sg.ex_refl h.ok, _, rfl, .val (fun e' he => by simp only [sub, mw, de, h2 e' he, h4 e' he]) h Kp.refl⟩
 | indexAddr ty x i =>
  simp only [az] at hn ⊢
  cases hx : eval tx x with
  | none => rw [hx] at hn; rw [LK] at hn; cases hn
  | some v =>
   cases hi : eval tx i with
   | none => rw [hi] at hn; cases hn
   | some vi =>
    cases hni : jL vi with
    | none => rw [hi] at hn; simp only [eU, hni] at hn; cases hn
    | some n =>
     rw [hx, hi] at hn
     simp only [eU, hni] at hn
     cases hr : bF E.P ty (some v) (some n) with
     | none => rw [hr] at hn; cases hn
     | some r =>
      rw [hr] at hn
      rw [ht.atR h.ok hx, ht.atR h.ok hi]
      simp only [eU, IQ hni]
      have hrv := ht.rvR h.ok hx
      rw [kR hr e]
      refine mb h hn fun e' he => ?_
      have h1 := kR hr e'
      rw [hrv e' he, kR hr e] at h1
      exact (Option.some.inj h1).symm
 | build ty parts =>
  simp only [az] at hn ⊢
  cases hl : dR tx parts.toList with
  | none => rw [hl] at hn; rw [Gl] at hn; cases hn
  | some l =>
   rw [hl] at hn
   obtain ⟨h1, h2⟩ := ht.evalsOR h.ok hl
   rw [h1]
   cases hr : fZ E.P ty (some l) with
   | none => rw [hr] at hn; cases hn
   | some r =>
    rw [hr] at hn
    rw [nK hr h.ok]
    refine mb h hn fun e' he => ?_
    have h3 := nK hr he.ok
    rw [h2 e' he, nK hr h.ok] at h3
    exact (Option.some.inj h3).symm
 | buildSlice ty len parts =>
  simp only [az] at hn ⊢
  cases hl : dR tx parts.toList with
  | none => rw [hl] at hn; rw [tu] at hn; cases hn
  | some l =>
   rw [hl] at hn
   obtain ⟨h1, h2⟩ := ht.evalsOR h.ok hl
   rw [h1]
   exact zn h h2 hn
 | panic x =>
  simp only [az] at hn ⊢
  unfold qH at hn
  split at hn
  ·rename_i ty v hx
   have h1 := ht.atR h.ok hx
   have h2 := ht.rvR h.ok hx
   simp only [sub] at h1 h2
   cases hn
   rw [h1]
   exact ⟨e, Sg.ex_refl h.ok, _, rfl, .panic h2 h⟩
  ·cases hn
 | call c =>
  simp only [az] at hn ⊢
  simp only [zo] at hok
  split at hok
  ·rename_i f hc
   split at hok
   ·rename_i g fi ca hf
    rw [hc] at hn ⊢
    unfold bx at hn ⊢
    cases ha : evals tx c.args.toList with
    | none => rw [ha] at hn; cases hn
    | some args =>
     rw [ha] at hn
     obtain ⟨h1, h2⟩ := EP h ht ha
     rw [h1]
     simp only [ft, hf] at hn
     have h3 := ht.atR h.ok hf
     have h4 := ht.rvR h.ok hf
     simp only [sub, mw, de] at h3
     simp only [ft, h3]
     refine Nd h (fun e' he => ?_) hn
     have h5 := h4 e' he
     simp only [sub, mw, de, V.func.injEq, true_and] at h5
     simp only [List.map_append, h2 e' he, h5.1, h5.2]
   ·cases hok
  ·cases hok
 | _ => cases hok
end
end Go.AI
