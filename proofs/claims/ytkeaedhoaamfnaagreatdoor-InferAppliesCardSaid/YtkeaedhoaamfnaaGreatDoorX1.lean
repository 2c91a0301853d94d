/- Symbolic walks in the evaluator: part 1. No conditions beyond those of the row. -/
import Derived.Test.YtkeaedhoaamfnaaGreatDoorA10
set_option linter.unusedVariables false
set_option linter.unusedSimpArgs false
noncomputable section
/- Symbolic walks: values with atoms, what they stand for. -/
namespace Go.AI
structure Sg where
  σ : List V
  β : List Nat
def Sg.bl (e : Sg) (f : Nat) : Nat := e.β.getD f 0
def Sg.val (e : Sg) (i : Nat) : V := e.σ.getD i .nilptr
def Sg.ok (e : Sg) : Prop := ∀ v ∈ e.σ, v.one = true
structure Sg.le (a b : Sg) : Prop where
  ps : a.σ <+: b.σ
  pb : a.β <+: b.β
  ok : b.ok
theorem Sg.le_refl {a : Sg} (h : a.ok) : a.le a := ⟨List.prefix_rfl, List.prefix_rfl, h⟩
theorem Sg.le.trans {a b c : Sg} (h : a.le b) (k : b.le c) : a.le c := ⟨h.ps.trans k.ps, h.pb.trans k.pb, k.ok⟩
structure Sg.ex (a b : Sg) : Prop where
  le : a.le b
  same : b.σ = a.σ
theorem Sg.ex_refl {a : Sg} (h : a.ok) : a.ex a := ⟨Sg.le_refl h, rfl⟩
theorem Sg.val_one {e : Sg} (h : e.ok) (i : Nat) : (e.val i).one = true := by
  unfold Sg.val
  rw [List.getD_eq_getElem?_getD]
  cases hi : e.σ[i]? with
  | none => rfl
  | some v => exact h v (List.mem_of_getElem? hi)
theorem pre_getD {α : Type} {a b : List α} (h : a <+: b) {i : Nat} (hi : i < a.length) (d : α) : b.getD i d = a.getD i d := by
  obtain ⟨c, rfl⟩ := h
  rw [List.getD_eq_getElem?_getD, List.getD_eq_getElem?_getD, List.getElem?_append_left hi]
theorem Sg.le.bl {a b : Sg} (h : a.le b) {f : Nat} (hf : f < a.β.length) : b.bl f = a.bl f := pre_getD h.pb hf 0
theorem Sg.le.val {a b : Sg} (h : a.le b) {i : Nat} (hi : i < a.σ.length) : b.val i = a.val i := pre_getD h.ps hi .nilptr
def subA (e : Sg) (a : Ad) : Ad := ⟨e.bl a.f, a.v, a.c⟩
def subFn (e : Sg) : Fn → Fn
  | .yield l => .yield (e.bl l)
  | f => f
mutual
def sub (e : Sg) : V → V
  | .ptr a => .ptr (subA e a)
  | .slice a z n c sz => .slice (subA e a) z n c sz
  | .map r => .map (e.bl r)
  | .func fn fi ca => .func (subFn e fn) (subL e fi) (subL e ca)
  | .iface t v => .iface t (sub e v)
  | .agg l => .agg (subL e l)
  | .tuple l => .tuple (subL e l)
  | .atom i => e.val i
  | .bool b => .bool b
  | .int k n => .int k n
  | .str l => .str l
  | .nilptr => .nilptr
  | .nilslice => .nilslice
  | .nilmap => .nilmap
  | .nilFunc => .nilFunc
  | .nilIface => .nilIface
def subL (e : Sg) : List V → List V
  | [] => []
  | v :: r => sub e v :: subL e r
end
theorem subL_map (e : Sg) : ∀ l : List V, subL e l = l.map (sub e)
  | [] => rfl
  | v :: r => by simp only [subL, List.map_cons, subL_map e r]
theorem sub_one {e : Sg} (h : e.ok) : ∀ v : V, (sub e v).one = v.one
  | .atom i => e.val_one h i
  | .ptr _ | .slice .. | .map _ | .func .. | .iface .. | .agg _ | .tuple _ | .bool _ | .int .. | .str _ | .nilptr | .nilslice | .nilmap | .nilFunc | .nilIface => rfl
theorem cells_one : ∀ {v : V}, v.one = true → v.cells = [v]
  | .agg _, h => by cases h
  | .tuple _, h => by cases h
  | .atom _, _ | .ptr _, _ | .slice .., _ | .map _, _ | .func .., _ | .iface .., _ | .bool _, _ | .int .., _ | .str _, _ | .nilptr, _ | .nilslice, _ | .nilmap, _ | .nilFunc, _ | .nilIface, _ => rfl
theorem sub_cells {e : Sg} (h : e.ok) : ∀ v : V, (sub e v).cells = v.cells.map (sub e)
  | .agg l => by simp only [sub, V.cells, subL_map]
  | .tuple l => by simp only [sub, V.cells, List.map_cons, List.map_nil]
  | .atom i => by
    rw [cells_one (by rw [sub_one h]; rfl)]; rfl
  | .ptr _ | .slice .. | .map _ | .func .. | .iface .. | .bool _ | .int .. | .str _ | .nilptr | .nilslice | .nilmap | .nilFunc | .nilIface => rfl
theorem all_one_map {e : Sg} (h : e.ok) : ∀ l : List V, (l.map (sub e)).all V.one = l.all V.one
  | [] => rfl
  | v :: r => by simp only [List.map_cons, List.all_cons, sub_one h, all_one_map h r]
mutual
theorem ofConst_sub (e : Sg) : ∀ {x : Value} {v : V}, V.ofCell x = some v → sub e v = v := by
  intro x v h
  unfold V.ofCell at h
  split at h
  all_goals first
    | (cases h; rfl)
    | (cases h; done)
    | (split at h <;> first | (cases h; rfl) | (cases h; done) | (split at h <;> first | (cases h; rfl) | (cases h; done)) | (revert h; cases (Nat.beq _ 0 && Nat.beq _ 0) <;> intro h <;> first | (cases h; rfl) | (cases h; done)) | (revert h; cases (_ && _) <;> intro h <;> first | (cases h; rfl) | (cases h; done)))
end
theorem ofCells_sub (e : Sg) : ∀ {l : List Value} {vs : List V}, V.ofCells l = some vs → subL e vs = vs
  | [], vs, h => by cases h; rfl
  | x :: r, vs, h => by
    simp only [V.ofCells] at h
    split at h
    · rename_i v hv
      split at h
      · rename_i l hl; cases h; simp only [subL, ofConst_sub e hv, ofCells_sub e hl]
      · cases h
    · cases h
theorem const_sub (e : Sg) {x : Value} {v : V} (h : V.ofConst x = some v) : sub e v = v := by
  unfold V.ofConst at h
  split at h
  · split at h
    · rename_i l hl; cases h; simp only [sub, ofCells_sub e hl]
    · cases h
  · exact ofConst_sub e h
def RV (e : Sg) (v w : V) : Prop := ∀ e', e.le e' → sub e' v = w
theorem RV.mono {a b : Sg} {v w : V} (h : RV a v w) (k : a.le b) : RV b v w := fun c hc => h c (k.trans hc)
def RVs (e : Sg) (vs ws : List V) : Prop := ∀ e', e.le e' → vs.map (sub e') = ws
theorem RVs.mono {a b : Sg} {v w : List V} (h : RVs a v w) (k : a.le b) : RVs b v w := fun c hc => h c (k.trans hc)
theorem rv_const {e : Sg} {x : Value} {v : V} (h : V.ofConst x = some v) : RV e v v := fun _ _ => const_sub _ h
def RT (e : Sg) (tx t : T V) : Prop := ∀ (i : Nat) (v : V), tx.get (pth i) = some v → ∃ w, t.get (pth i) = some w ∧ RV e v w
theorem RT.mono {a b : Sg} {tx t : T V} (h : RT a tx t) (k : a.le b) : RT b tx t := fun i v hv => by
  obtain ⟨w, h1, h2⟩ := h i v hv; exact ⟨w, h1, h2.mono k⟩
theorem RT.putD {e : Sg} {tx t : T V} (h : RT e tx t) {v w : V} (hv : RV e v w) (d : Option Tmp) : RT e (Go.AI.putD tx d v) (Go.AI.putD t d w) := by
  intro i x hx
  cases d with
  | none => exact h i x hx
  | some d =>
    rw [get_putN] at hx ⊢
    by_cases hd : d = i
    · rw [if_pos hd] at hx ⊢; cases hx; exact ⟨w, rfl, hv⟩
    · rw [if_neg hd] at hx ⊢; exact h i x hx
theorem RT.evalR {e : Sg} {tx t : T V} (h : RT e tx t) {o : Operand} {v : V} (hv : eval tx o = some v) : ∃ w, eval t o = some w ∧ RV e v w := by
  cases o with
  | tmp i => exact h i v hv
  | const c => exact ⟨v, hv, rv_const hv⟩
  | global g => cases hv
  | func f => cases hv; exact ⟨_, rfl, fun _ _ => rfl⟩
theorem RT.evalsR {e : Sg} {tx t : T V} (h : RT e tx t) : ∀ {l : List Operand} {vs : List V}, evals tx l = some vs → ∃ ws, evals t l = some ws ∧ RVs e vs ws
  | [], vs, hv => by cases hv; exact ⟨[], rfl, fun _ _ => rfl⟩
  | o :: l, vs, hv => by
    simp only [Go.AI.evals] at hv
    split at hv
    · rename_i v h1
      split at hv
      · rename_i vs' h2
        cases hv
        obtain ⟨w, k1, k2⟩ := h.evalR h1
        obtain ⟨ws, k3, k4⟩ := h.evalsR h2
        exact ⟨w :: ws, by simp only [Go.AI.evals, k1, k3], fun e' he => by rw [List.map_cons, k2 e' he, k4 e' he]⟩
      · cases hv
    · cases hv
/- ---- blocks ---- -/
def subVer (e : Sg) (u : Ver) : Ver := ⟨u.v, u.lo, u.cells.map (sub e)⟩
def subEnt (e : Sg) (x : Ent) : Ent := ⟨sub e x.key, sub e x.val, x.born⟩
def subB (e : Sg) : Blk → Blk
  | .cells el sb nv vers => .cells el sb nv (vers.map (subVer e))
  | .map es c => .map (es.map (subEnt e)) c
  | b => b
def Blk.isOwn : Blk → Bool
  | .cells .. => true
  | .map .. => true
  | _ => false
theorem isOwn_sub (e : Sg) {B : Blk} (h : B.isOwn = true) : (subB e B).isOwn = true := by cases B <;> first | rfl | cases h
theorem isOwn_ro {B : Blk} (h : B.isOwn = true) (vs : List Ver) : B ≠ .ro vs := by cases B <;> first | (cases h; done) | exact fun h => by cases h
structure XR (F : List Nat) (s0 : S) (e : Sg) (xs s : S) : Prop where
  ok : e.ok
  nx : xs.next = e.β.length
  wf0 : WF s0
  fw : Fw F s0 s
  dom : ∀ f B, xs.get f = some B → f < xs.next
  k : ∀ e', e.le e' → ∀ f B, xs.get f = some B → s.get (e'.bl f) = some (subB e' B) ∧ B.isOwn = true
  inj : ∀ f g, f < xs.next → g < xs.next → e.bl f = e.bl g → f = g
  hi : ∀ f, f < xs.next → s0.next ≤ e.bl f ∨ e.bl f ∈ F
  lt : ∀ f, f < xs.next → e.bl f < s.next
theorem XR.wf {F : List Nat} {s0 : S} {e : Sg} {xs s : S} (h : XR F s0 e xs s) : WF s := h.fw.wf h.wf0
structure HK (e : Sg) (xs s : S) : Prop where
  ok : e.ok
  k : ∀ e', e.le e' → ∀ f B, xs.get f = some B → s.get (e'.bl f) = some (subB e' B) ∧ B.isOwn = true
theorem XR.hk {F : List Nat} {s0 : S} {e : Sg} {xs s : S} (h : XR F s0 e xs s) : HK e xs s := ⟨h.ok, h.k⟩
theorem HK.mono {a b : Sg} {xs s : S} (h : HK a xs s) (k : a.le b) : HK b xs s := ⟨k.ok, fun e' he => h.k e' (k.trans he)⟩
theorem XR.more {F : List Nat} {s0 : S} {e : Sg} {xs s : S} (h : XR F s0 e xs s) {vs : List V} (hv : ∀ v ∈ vs, v.one = true) : e.le ⟨e.σ ++ vs, e.β⟩ ∧ XR F s0 ⟨e.σ ++ vs, e.β⟩ xs s := by
  have hle : e.le ⟨e.σ ++ vs, e.β⟩ := ⟨List.prefix_append _ _, List.prefix_rfl, fun v hm => by
    rcases List.mem_append.1 hm with hm | hm
    · exact h.ok v hm
    · exact hv v hm⟩
  exact ⟨hle, ⟨hle.ok, h.nx, h.wf0, h.fw, h.dom, fun e' he => h.k e' (hle.trans he), h.inj, h.hi, h.lt⟩⟩
theorem XR.alloc {F : List Nat} {s0 : S} {e : Sg} {xs s : S} (h : XR F s0 e xs s) {B B' : Blk} (ho : B.isOwn = true) (hB : ∀ e', e.le e' → subB e' B = B') :
    e.le ⟨e.σ, e.β ++ [s.next]⟩ ∧ XR F s0 ⟨e.σ, e.β ++ [s.next]⟩ (xs.alloc B) (s.alloc B') ∧ RV ⟨e.σ, e.β ++ [s.next]⟩ (.ptr ⟨xs.next, 0, 0⟩) (.ptr ⟨s.next, 0, 0⟩) ∧ ∀ e', Sg.le ⟨e.σ, e.β ++ [s.next]⟩ e' → e'.bl xs.next = s.next := by
  have hle : e.le ⟨e.σ, e.β ++ [s.next]⟩ := ⟨List.prefix_rfl, List.prefix_append _ _, h.ok⟩
  have hnew : ∀ e', Sg.le ⟨e.σ, e.β ++ [s.next]⟩ e' → e'.bl xs.next = s.next := by
    intro e' he
    rw [he.bl (f := xs.next) (by simp [h.nx])]
    unfold Sg.bl
    rw [List.getD_eq_getElem?_getD, List.getElem?_append_right (by rw [h.nx]; exact Nat.le_refl _), h.nx]
    simp
  have hold : ∀ f, f < xs.next → Sg.bl ⟨e.σ, e.β ++ [s.next]⟩ f = e.bl f := fun f hf => hle.bl (by rw [← h.nx]; exact hf)
  have hown : ∀ vs, B' ≠ .ro vs := by
    rw [← hB e (Sg.le_refl h.ok)]
    exact fun vs => isOwn_ro (isOwn_sub e ho) vs
  refine ⟨hle, ⟨hle.ok, by rw [S.next_alloc, h.nx]; simp, h.wf0, h.fw.trans (Fw.alloc F h.wf B'), fun f C hC => ?_, fun e' he f C hC => ?_, fun f g hf hg hfg => ?_, fun f hf => ?_, fun f hf => ?_⟩, fun e' he => ?_, hnew⟩
  · rw [S.get_alloc] at hC
    rw [S.next_alloc]
    split at hC
    · omega
    · have := h.dom f C hC; omega
  · rw [S.get_alloc] at hC
    split at hC
    · rename_i hf
      cases hC
      rw [← hf, hnew e' he, S.get_alloc, if_pos rfl, hB e' (hle.trans he)]
      exact ⟨rfl, ho⟩
    · have hd := h.dom f C hC
      obtain ⟨h1, h2⟩ := h.k e' (hle.trans he) f C hC
      refine ⟨?_, h2⟩
      have h3 : e'.bl f = e.bl f := (hle.trans he).bl (by rw [← h.nx]; exact hd)
      have h4 := h.lt f hd
      rw [S.get_alloc, if_neg (by rw [h3]; omega)]
      exact h1
  · rw [S.next_alloc] at hf hg
    have hn := hnew _ (Sg.le_refl hle.ok)
    by_cases h1 : f = xs.next
    · by_cases h2 : g = xs.next
      · omega
      · have h3 := h.lt g (by omega)
        rw [h1, hn, hold g (by omega)] at hfg
        omega
    · by_cases h2 : g = xs.next
      · have h3 := h.lt f (by omega)
        rw [h2, hn, hold f (by omega)] at hfg
        omega
      · rw [hold f (by omega), hold g (by omega)] at hfg
        exact h.inj f g (by omega) (by omega) hfg
  · rw [S.next_alloc] at hf
    by_cases h1 : f = xs.next
    · rw [h1, hnew _ (Sg.le_refl hle.ok)]; exact .inl h.fw.next
    · rw [hold f (by omega)]; exact h.hi f (by omega)
  · rw [S.next_alloc] at hf ⊢
    by_cases h1 : f = xs.next
    · rw [h1, hnew _ (Sg.le_refl hle.ok)]; omega
    · rw [hold f (by omega)]
      have := h.lt f (by omega); omega
  · simp only [sub, subA, hnew e' he]
theorem XR.put {F : List Nat} {s0 : S} {e : Sg} {xs s : S} (h : XR F s0 e xs s) {f : Nat} {B0 B B' : Blk} (h0 : xs.get f = some B0) (ho : B.isOwn = true) (hB : ∀ e', e.le e' → subB e' B = B') :
    XR F s0 e (xs.put f B) (s.put (e.bl f) B') := by
  have hd := h.dom f B0 h0
  obtain ⟨h1, h2⟩ := h.k e (Sg.le_refl h.ok) f B0 h0
  have hr := isOwn_ro (isOwn_sub e h2)
  have hfw : Fw F s0 (s.put (e.bl f) B') := by
    rcases h.hi f hd with hh | hh
    · have h3 : Fw (e.bl f :: F) s0 (s.put (e.bl f) B') := (h.fw.mono (fun g hg => List.mem_cons_of_mem _ hg)).trans (Fw.put (by simp) h1 hr B')
      exact h3.drop hh h.wf0
    · exact h.fw.trans (Fw.put hh h1 hr B')
  refine ⟨h.ok, by rw [S.next_put]; exact h.nx, h.wf0, hfw, fun g C hC => ?_, fun e' he g C hC => ?_, ?_, ?_, ?_⟩
  · rw [S.get_put] at hC
    rw [S.next_put]
    split at hC
    · rename_i hg; rw [← hg]; exact hd
    · exact h.dom g C hC
  · rw [S.get_put] at hC
    have hbf : e'.bl f = e.bl f := he.bl (by rw [← h.nx]; exact hd)
    split at hC
    · rename_i hg
      cases hC
      rw [← hg, hbf, S.get_put, if_pos rfl, hB e' he]
      exact ⟨rfl, ho⟩
    · rename_i hg
      have hdg := h.dom g C hC
      have hbg : e'.bl g = e.bl g := he.bl (by rw [← h.nx]; exact hdg)
      obtain ⟨h3, h4⟩ := h.k e' he g C hC
      refine ⟨?_, h4⟩
      rw [S.get_put, if_neg (fun hh => hg (h.inj f g hd hdg (by rw [hh, hbg])))]
      exact h3
  · rw [S.next_put]; exact h.inj
  · rw [S.next_put]; exact h.hi
  · intro g hg
    rw [S.next_put] at hg ⊢
    exact h.lt g hg
structure Kp (e : Sg) (xs s : S) (e' : Sg) (xs' s' : S) : Prop where
  next : s.next ≤ s'.next
  keep : ∀ g B, (∀ f, f < xs.next → e.bl f ≠ g) → s.get g = some B → s'.get g = some B
  new : ∀ f, xs.next ≤ f → f < xs'.next → s.next ≤ e'.bl f
theorem Kp.refl {e : Sg} {xs s : S} {e' : Sg} : Kp e xs s e' xs s := ⟨Nat.le_refl _, fun _ _ _ h => h, fun f h1 h2 => by omega⟩
theorem Kp.alloc {F : List Nat} {s0 : S} {e : Sg} {xs s : S} (h : XR F s0 e xs s) (B0 B : Blk) : Kp e xs s ⟨e.σ, e.β ++ [s.next]⟩ (xs.alloc B0) (s.alloc B) := by
  refine ⟨by rw [S.next_alloc]; omega, fun g C _ hC => ?_, fun f h1 h2 => ?_⟩
  · have := h.wf g C hC
    rw [S.get_alloc, if_neg (by omega)]; exact hC
  · rw [S.next_alloc] at h2
    have hf : f = e.β.length := by rw [← h.nx]; omega
    unfold Sg.bl
    rw [List.getD_eq_getElem?_getD, List.getElem?_append_right (by rw [hf]; exact Nat.le_refl _), hf]
    simp
theorem Kp.put {e : Sg} {xs s : S} {f : Nat} (hf : f < xs.next) (B0 B : Blk) : Kp e xs s e (xs.put f B0) (s.put (e.bl f) B) := by
  refine ⟨by rw [S.next_put]; exact Nat.le_refl _, fun g C h hC => ?_, fun g h1 h2 => by rw [S.next_put] at h2; omega⟩
  rw [S.get_put, if_neg (h f hf)]; exact hC
end Go.AI
/- Symbolic walks: memory. -/
namespace Go.AI
theorem takeExact_map (g : V → V) : ∀ (n : Nat) (l : List V), takeExact n (l.map g) = (takeExact n l).map (List.map g)
  | 0, l => by simp [takeExact]
  | n + 1, [] => rfl
  | n + 1, x :: r => by
    simp only [List.map_cons, takeExact, takeExact_map g n r]
    cases takeExact n r <;> rfl
theorem findVer_map (e : Sg) (v : Nat) : ∀ vers : List Ver, findVer (vers.map (subVer e)) v = (findVer vers v).map (subVer e)
  | [] => rfl
  | u :: r => by
    simp only [List.map_cons, findVer, findVer_map e v r]
    show (bif Nat.beq (subVer e u).v v then _ else _) = _
    simp only [subVer]
    cases Nat.beq u.v v <;> rfl
theorem overwrite_map (g : V → V) : ∀ (cs : List V) (n : Nat) (new cs' : List V), overwrite cs n new = some cs' → overwrite (cs.map g) n (new.map g) = some (cs'.map g)
  | cs, n, [], cs', h => by
    have : cs = cs' := by cases cs <;> cases n <;> (simp only [overwrite] at h; cases h; rfl)
    subst this
    cases cs <;> cases n <;> rfl
  | [], n, y :: new, cs', h => by cases n <;> cases h
  | x :: r, n + 1, y :: new, cs', h => by
    simp only [overwrite] at h
    cases hr : overwrite r n (y :: new) with
    | none => rw [hr] at h; cases h
    | some q =>
      rw [hr] at h; cases h
      have := overwrite_map g r n (y :: new) q hr
      simp only [List.map_cons] at this
      simp only [List.map_cons, overwrite, this]; rfl
  | x :: r, 0, y :: new, cs', h => by
    simp only [overwrite] at h
    cases hr : overwrite r 0 new with
    | none => rw [hr] at h; cases h
    | some q =>
      rw [hr] at h; cases h
      simp only [List.map_cons, overwrite, overwrite_map g r 0 new q hr]; rfl
section
variable {F : List Nat} {s0 : S} {e : Sg} {xs s : S} {P : Program}
theorem HK.cells (h : HK e xs s) {f : Nat} {el : TypeId} {sb : Bool} {nv : Nat} {vers : List Ver} (hg : xs.get f = some (.cells el sb nv vers)) : ∀ e', e.le e' → s.get (e'.bl f) = some (.cells el sb nv (vers.map (subVer e'))) :=
  fun e' he => (h.k e' he f _ hg).1
theorem HK.noRo (h : HK e xs s) {f : Nat} {vs : List Ver} (hg : xs.get f = some (.ro vs)) : False := by
  have := (h.k e (Sg.le_refl h.ok) f _ hg).2; cases this
theorem loadCells_hom (h : HK e xs s) {a : Ad} {n : Nat} {l : List V} (hl : loadCells xs a n = some l) : ∀ e', e.le e' → loadCells s (subA e' a) n = some (l.map (sub e')) := by
  intro e' he
  unfold loadCells at hl
  split at hl
  · rename_i el sb nv vers hg
    split at hl
    · rename_i u hu
      unfold loadCells
      have h1 := h.cells hg e' he
      simp only [subA, h1, findVer_map, hu, Option.map, subVer]
      revert hl
      cases Nat.ble u.lo a.c with
      | false => intro hl; cases hl
      | true =>
        intro hl
        simp only [cond_true] at hl ⊢
        rw [← List.map_drop, takeExact_map, hl]; rfl
    · cases hl
  · rename_i hg; exact (h.noRo hg).elim
  · cases hl
theorem loadCell_hom (h : HK e xs s) {a : Ad} {v : V} (hl : loadCell xs a = some v) : ∀ e', e.le e' → loadCell s (subA e' a) = some (sub e' v) := by
  intro e' he
  unfold loadCell at hl
  split at hl
  · rename_i el sb nv vers hg
    split at hl
    · rename_i u hu
      unfold loadCell
      have h1 := h.cells hg e' he
      simp only [subA, h1, findVer_map, hu, Option.map, subVer]
      revert hl
      cases Nat.ble u.lo a.c with
      | false => intro hl; cases hl
      | true =>
        intro hl
        simp only [cond_true] at hl ⊢
        rw [List.getElem?_map, hl]; rfl
    · cases hl
  · rename_i hg; exact (h.noRo hg).elim
  · cases hl
theorem loadVar_hom (h : HK e xs s) {ty : TypeId} {a : Ad} {v : V} (hl : loadVar P xs ty a = some v) : ∀ e', e.le e' → loadVar P s ty (subA e' a) = some (sub e' v) := by
  intro e' he
  unfold loadVar at hl ⊢
  cases hA : isAggT P ty with
  | none => rw [hA] at hl; cases hl
  | some b =>
    rw [hA] at hl
    cases b with
    | true =>
      simp only at hl ⊢
      cases hs : size P ty with
      | none => rw [hs] at hl; cases hl
      | some n =>
        rw [hs] at hl
        simp only [Option.bind] at hl ⊢
        cases hc : loadCells xs a n with
        | none => rw [hc] at hl; cases hl
        | some l =>
          rw [hc] at hl; cases hl
          rw [loadCells_hom h hc e' he]
          simp only [Option.map, sub, subL_map]
    | false => exact loadCell_hom h hl e' he
theorem storeCells_hom (h : XR F s0 e xs s) {a : Ad} {new new' : List V} {xs' : S} (hs : storeCells xs a new = some xs') (hn : RVs e new new') :
    ∃ s', (∀ e', e.le e' → storeCells s (subA e' a) new' = some s') ∧ XR F s0 e xs' s' ∧ Kp e xs s e xs' s' := by
  unfold storeCells at hs
  split at hs
  · rename_i el sb nv vers hg
    split at hs
    · rename_i u hu
      revert hs
      cases hb : (Nat.ble u.lo a.c && new.all V.one) with
      | false => intro hs; cases hs
      | true =>
        intro hs
        simp only [cond_true] at hs
        split at hs
        · rename_i cs hcs
          cases hs
          have hd := h.dom _ _ hg
          have hall : new'.all V.one = true := by
            rw [← hn e (Sg.le_refl h.ok), all_one_map h.ok]
            exact (Bool.and_eq_true_iff.1 hb).2
          have hcell : ∀ e', e.le e' → storeCells s (subA e' a) new' = some (s.put (e.bl a.f) (subB e' (.cells el sb nv [⟨u.v, u.lo, cs⟩]))) := by
            intro e' he
            unfold storeCells
            have hbl : e'.bl a.f = e.bl a.f := he.bl (by rw [← h.nx]; exact hd)
            have h1 := h.hk.cells hg e' he
            rw [hbl] at h1
            have h2 := overwrite_map (sub e') _ _ _ _ hcs
            rw [hn e' he] at h2
            simp only [subA, hbl, h1, findVer_map, hu, Option.map, subVer, (Bool.and_eq_true_iff.1 hb).1, hall, Bool.and_self, cond_true, h2, subB, List.map_cons, List.map_nil]
          have hsame : ∀ e', e.le e' → subB e' (.cells el sb nv [⟨u.v, u.lo, cs⟩]) = subB e (.cells el sb nv [⟨u.v, u.lo, cs⟩]) := by
            intro e' he
            have h1 := overwrite_map (sub e') _ _ _ _ hcs
            have h2 := overwrite_map (sub e) _ _ _ _ hcs
            rw [hn e' he] at h1
            rw [hn e (Sg.le_refl h.ok)] at h2
            have h3 := h.hk.cells hg e' he
            have h4 := h.hk.cells hg e (Sg.le_refl h.ok)
            rw [he.bl (f := a.f) (by rw [← h.nx]; exact hd), h4] at h3
            have h5 : vers.map (subVer e) = vers.map (subVer e') := by
              have := Option.some.inj h3; injection this
            have h6 : (findVer vers a.v).map (subVer e) = (findVer vers a.v).map (subVer e') := by rw [← findVer_map, ← findVer_map, h5]
            rw [hu] at h6
            simp only [Option.map, subVer, Option.some.injEq, Ver.mk.injEq] at h6
            rw [h6.2.2] at h2
            rw [h1] at h2
            simp only [subB, List.map_cons, List.map_nil, subVer, Option.some.inj h2]
          refine ⟨s.put (e.bl a.f) (subB e (.cells el sb nv [⟨u.v, u.lo, cs⟩])), fun e' he => by rw [hcell e' he, hsame e' he], h.put hg rfl hsame, Kp.put hd _ _⟩
        · cases hs
    · cases hs
  · cases hs
theorem rvs_cells {v w : V} (ok : e.ok) (h : RV e v w) : RVs e v.cells w.cells := fun e' he => by rw [← h e' he, sub_cells he.ok]
theorem storeVar_hom (h : XR F s0 e xs s) {ty : TypeId} {a : Ad} {v w : V} {xs' : S} (hs : storeVar P xs ty a v = some xs') (hv : RV e v w) :
    ∃ s', (∀ e', e.le e' → storeVar P s ty (subA e' a) w = some s') ∧ XR F s0 e xs' s' ∧ Kp e xs s e xs' s' := by
  unfold storeVar at hs
  cases hn : size P ty with
  | none => rw [hn] at hs; cases hs
  | some n =>
    rw [hn] at hs
    simp only at hs
    have hl : w.cells.length = v.cells.length := by rw [← rvs_cells h.ok hv e (Sg.le_refl h.ok), List.length_map]
    revert hs
    cases hb : Nat.beq v.cells.length n with
    | false => intro hs; cases hs
    | true =>
      intro hs
      obtain ⟨s', h1, h2⟩ := storeCells_hom h hs (rvs_cells h.ok hv)
      refine ⟨s', fun e' he => ?_, h2⟩
      unfold storeVar
      simp only [hn, hl, hb, cond_true]
      exact h1 e' he
/- ---- parts ---- -/
theorem partV_hom {t : TypeId} {cs : List V} {off : Nat} {v : V} (hp : partV P t cs off = some v) (e' : Sg) : partV P t (cs.map (sub e')) off = some (sub e' v) := by
  unfold partV at hp ⊢
  cases hA : isAggT P t with
  | none => rw [hA] at hp; cases hp
  | some b =>
    rw [hA] at hp
    cases b with
    | true =>
      simp only at hp ⊢
      cases hs : size P t with
      | none => rw [hs] at hp; cases hp
      | some n =>
        rw [hs] at hp
        cases hp
        simp only [Option.map, sub, subL_map, List.map_take, List.map_drop]
    | false =>
      simp only at hp ⊢
      rw [List.getElem?_map, hp]; rfl
theorem fillV_hom {place : Nat → Option (Nat × Nat)} {e' : Sg} (ok : e'.ok) : ∀ (l : List (Nat × V)) (cs cs' : List V), fillV place cs l = some cs' → fillV place (cs.map (sub e')) (l.map fun x => (x.1, sub e' x.2)) = some (cs'.map (sub e'))
  | [], cs, cs', h => by cases h; rfl
  | (i, v) :: r, cs, cs', h => by
    simp only [fillV] at h
    split at h
    · cases h
    · rename_i off n hp
      simp only [List.map_cons, fillV, hp]
      rw [sub_cells ok, List.length_map]
      revert h
      cases (Nat.beq v.cells.length n && Nat.blt 0 n) with
      | false => intro h; cases h
      | true =>
        intro h
        simp only [cond_true] at h ⊢
        cases ho : overwrite cs off v.cells with
        | none => rw [ho] at h; cases h
        | some q =>
          rw [ho] at h
          rw [overwrite_map _ _ _ _ _ ho]
          exact fillV_hom ok r q cs' h
end
end Go.AI
/- Symbolic walks: operations. -/
namespace Go.AI
inductive NxX (F : List Nat) (s0 : S) (K : Sg → S → S → Prop) (X0 S0 : S) (e : Sg) : Nx → Nx → Prop where
  | val {v w : V} {xs s : S} : RV e v w → XR F s0 e xs s → K e xs s → NxX F s0 K X0 S0 e (.val v xs) (.val w s)
  | skip {xs s : S} : XR F s0 e xs s → K e xs s → NxX F s0 K X0 S0 e (.skip xs) (.skip s)
  | enter {f : FuncId} {a b : List V} : RVs e a b → XR F s0 e X0 S0 → NxX F s0 K X0 S0 e (.enter f a X0) (.enter f b S0)
  | panic {v w : V} : RV e v w → XR F s0 e X0 S0 → NxX F s0 K X0 S0 e (.panic v X0) (.panic w S0)
def eqSafe : V → V → Bool
  | .int .., .int .. => true
  | .bool _, .bool _ => true
  | .str _, .str _ => true
  | .nilptr, .nilptr => true
  | .nilptr, .ptr _ => true
  | .ptr _, .nilptr => true
  | .nilslice, .nilslice => true
  | .nilslice, .slice .. => true
  | .slice .., .nilslice => true
  | .nilmap, .nilmap => true
  | .nilmap, .map _ => true
  | .map _, .nilmap => true
  | .nilFunc, .nilFunc => true
  | .nilFunc, .func .. => true
  | .func .., .nilFunc => true
  | .nilIface, .nilIface => true
  | .nilIface, .iface .. => true
  | .iface .., .nilIface => true
  | _, _ => false
def xOk (tx : T V) : Op → Bool
  | .move _ | .assign _ | .pick .. | .alloc _ | .box .. | .build .. | .load .. | .store .. | .nilCheck _ | .unOp .. | .makeInterface .. | .makeFunc .. | .fieldAddr .. | .field .. | .indexAddr .. | .extract .. | .typeAssert .. | .panic _ | .buildSlice .. => true
  | .makeMap _ none => false
  | .binOp _ _ x y _ => match eval tx x with
    | some a => match eval tx y with
      | some b => eqSafe a b
      | none => false
    | none => false
  | .convert _ _ x => match eval tx x with
    | some (.int ..) => true
    | _ => false
  | .call c => match c.callee with
    | .value f => match eval tx f with
      | some (.func (.func _) _ _) => true
      | _ => false
    | _ => false
  | _ => false
section
variable {F : List Nat} {s0 : S} {e : Sg} {xs s : S} {E : Env} {tx t : T V}
theorem RT.atR (h : RT e tx t) (ok : e.ok) {o : Operand} {v : V} (hv : eval tx o = some v) : eval t o = some (sub e v) := by
  obtain ⟨w, h1, h2⟩ := h.evalR hv
  rw [h1, ← h2 e (Sg.le_refl ok)]
theorem RT.rvR (h : RT e tx t) (ok : e.ok) {o : Operand} {v : V} (hv : eval tx o = some v) : RV e v (sub e v) := by
  obtain ⟨w, h1, h2⟩ := h.evalR hv
  rw [h2 e (Sg.le_refl ok)]; exact h2
theorem RT.evalsOR (h : RT e tx t) (ok : e.ok) : ∀ {l : List (Nat × Operand)} {vs : List (Nat × V)}, evalsO tx l = some vs → evalsO t l = some (vs.map fun x => (x.1, sub e x.2)) ∧ ∀ e', e.le e' → (vs.map fun x => (x.1, sub e' x.2)) = vs.map fun x => (x.1, sub e x.2)
  | [], vs, hv => by cases hv; exact ⟨rfl, fun _ _ => rfl⟩
  | (i, o) :: l, vs, hv => by
    simp only [evalsO] at hv
    split at hv
    · rename_i v h1
      split at hv
      · rename_i vs' h2
        cases hv
        obtain ⟨h3, h4⟩ := h.evalsOR ok h2
        refine ⟨by simp only [evalsO, h.atR ok h1, h3, List.map_cons], fun e' he => ?_⟩
        simp only [List.map_cons, h4 e' he, (h.rvR ok h1) e' he]
      · cases hv
    · cases hv
theorem nx_pure {v w : V} {nx : Nx} (h : XR F s0 e xs s) (hn : nxVal xs (some v) = some nx) (hv : RV e v w) : ∃ e', e.ex e' ∧ ∃ nx', nxVal s (some w) = some nx' ∧ NxX F s0 (Kp e xs s) xs s e' nx nx' := by
  cases hn; exact ⟨e, Sg.ex_refl h.ok, _, rfl, .val hv h Kp.refl⟩
abbrev Goal (F : List Nat) (s0 : S) (e : Sg) (xs s : S) (t : T V) (E : Env) (op : Op) (nx : Nx) : Prop := ∃ e', e.ex e' ∧ ∃ nx', opDo op E t s = some nx' ∧ NxX F s0 (Kp e xs s) xs s e' nx nx'
theorem x_move (h : XR F s0 e xs s) (ht : RT e tx t) {x : Operand} {nx : Nx} (hn : nxVal xs (eval tx x) = some nx) : ∃ e', e.ex e' ∧ ∃ nx', nxVal s (eval t x) = some nx' ∧ NxX F s0 (Kp e xs s) xs s e' nx nx' := by
  cases hx : eval tx x with
  | none => rw [hx] at hn; cases hn
  | some v =>
    rw [hx] at hn
    rw [ht.atR h.ok hx]
    exact nx_pure h hn (ht.rvR h.ok hx)
theorem x_fun1 (h : XR F s0 e xs s) (ht : RT e tx t) {x : Operand} {g : Option V → Option V} (hnone : g none = none) (hg : ∀ v r, g (some v) = some r → ∀ e', e.le e' → g (some (sub e' v)) = some (sub e' r)) {nx : Nx}
    (hn : nxVal xs (g (eval tx x)) = some nx) : ∃ e', e.ex e' ∧ ∃ nx', nxVal s (g (eval t x)) = some nx' ∧ NxX F s0 (Kp e xs s) xs s e' nx nx' := by
  cases hx : eval tx x with
  | none => rw [hx, hnone] at hn; cases hn
  | some v =>
    rw [hx] at hn
    cases hr : g (some v) with
    | none => rw [hr] at hn; cases hn
    | some r =>
      rw [hr] at hn
      rw [ht.atR h.ok hx]
      have hrv := ht.rvR h.ok hx
      rw [hg v r hr e (Sg.le_refl h.ok)]
      refine nx_pure h hn (fun e' he => ?_)
      have h1 := hg v r hr e' he
      rw [hrv e' he, hg v r hr e (Sg.le_refl h.ok)] at h1
      exact (Option.some.inj h1).symm
theorem x_pick (h : XR F s0 e xs s) (ht : RT e tx t) {c a b : Operand} {nx : Nx} (hn : doPick tx xs c a b = some nx) : ∃ e', e.ex e' ∧ ∃ nx', doPick t s c a b = some nx' ∧ NxX F s0 (Kp e xs s) xs s e' nx nx' := by
  unfold doPick at hn ⊢
  split at hn
  · rename_i q hc
    rw [ht.atR h.ok hc]
    exact x_move h ht hn
  · cases hn
theorem zero_sub {P : Program} {ty : TypeId} {z : V} (hz : zero P ty = some z) (e : Sg) : sub e z = z := by
  unfold zero at hz
  cases hi : (P.info? ty).bind (·.zero) with
  | none => rw [hi] at hz; cases hz
  | some c => rw [hi] at hz; exact const_sub e hz
theorem zero_cells {P : Program} {ty : TypeId} {z : V} (hz : zero P ty = some z) {e : Sg} (ok : e.ok) : z.cells.map (sub e) = z.cells := by rw [← sub_cells ok, zero_sub hz]
theorem x_alloc (h : XR F s0 e xs s) {el : TypeId} {nx : Nx} (hn : doAlloc E.P xs el = some nx) : ∃ e', e.ex e' ∧ ∃ nx', doAlloc E.P s el = some nx' ∧ NxX F s0 (Kp e xs s) xs s e' nx nx' := by
  unfold doAlloc at hn ⊢
  split at hn
  · rename_i z hz
    cases hn
    obtain ⟨h1, h2, h3, _⟩ := h.alloc (B := .cells el false 1 [⟨0, 0, z.cells⟩]) (B' := .cells el false 1 [⟨0, 0, z.cells⟩]) rfl (fun e' he => by simp only [subB, List.map_cons, List.map_nil, subVer, zero_cells hz he.ok])
    exact ⟨_, ⟨h1, rfl⟩, _, rfl, .val h3 h2 (Kp.alloc h _ _)⟩
  · cases hn
theorem x_box (h : XR F s0 e xs s) (ht : RT e tx t) {el : TypeId} {x : Operand} {nx : Nx} (hn : doBox xs el (eval tx x) = some nx) : ∃ e', e.ex e' ∧ ∃ nx', doBox s el (eval t x) = some nx' ∧ NxX F s0 (Kp e xs s) xs s e' nx nx' := by
  cases hx : eval tx x with
  | none => rw [hx] at hn; cases hn
  | some v =>
    rw [hx] at hn
    rw [ht.atR h.ok hx]
    have hrv := ht.rvR h.ok hx
    cases hn
    obtain ⟨h1, h2, h3, _⟩ := h.alloc (B := .cells el false 1 [⟨0, 0, v.cells⟩]) (B' := .cells el false 1 [⟨0, 0, (sub e v).cells⟩]) rfl (fun e' he => by
      simp only [subB, List.map_cons, List.map_nil, subVer]
      rw [rvs_cells h.ok hrv e' he])
    exact ⟨_, ⟨h1, rfl⟩, _, rfl, .val h3 h2 (Kp.alloc h _ _)⟩
theorem x_makeMap (h : XR F s0 e xs s) {nx : Nx} (hn : some (Nx.val (.map xs.next) (xs.alloc (.map [] 0))) = some nx) : ∃ e', e.ex e' ∧ ∃ nx', some (Nx.val (.map s.next) (s.alloc (.map [] 0))) = some nx' ∧ NxX F s0 (Kp e xs s) xs s e' nx nx' := by
  cases hn
  obtain ⟨h1, h2, _, h4⟩ := h.alloc (B := .map [] 0) (B' := .map [] 0) rfl (fun e' he => rfl)
  exact ⟨_, ⟨h1, rfl⟩, _, rfl, .val (fun e' he => by simp only [sub, h4 e' he]) h2 (Kp.alloc h _ _)⟩
theorem x_load (h : XR F s0 e xs s) (ht : RT e tx t) {ty : TypeId} {x : Operand} {nx : Nx} (hn : doLoad E.P xs ty (eval tx x) = some nx) : ∃ e', e.ex e' ∧ ∃ nx', doLoad E.P s ty (eval t x) = some nx' ∧ NxX F s0 (Kp e xs s) xs s e' nx nx' := by
  unfold doLoad at hn
  split at hn
  · rename_i a hx
    rw [ht.atR h.ok hx]
    have hrv := ht.rvR h.ok hx
    show ∃ e', e.ex e' ∧ ∃ nx', nxVal s (loadVar E.P s ty (subA e a)) = some nx' ∧ _
    cases hl : loadVar E.P xs ty a with
    | none => rw [hl] at hn; cases hn
    | some v =>
      rw [hl] at hn
      have h1 := loadVar_hom (P := E.P) h.hk hl
      rw [h1 e (Sg.le_refl h.ok)]
      refine nx_pure h hn (fun e' he => ?_)
      have h2 := h1 e' he
      have h3 : subA e' a = subA e a := by have := hrv e' he; simp only [sub, V.ptr.injEq] at this; exact this
      rw [h3, h1 e (Sg.le_refl h.ok)] at h2
      exact (Option.some.inj h2).symm
  · cases hn
theorem x_store (h : XR F s0 e xs s) (ht : RT e tx t) {ty : TypeId} {x y : Operand} {nx : Nx} (hn : doStore E.P xs ty (eval tx x) (eval tx y) = some nx) : ∃ e', e.ex e' ∧ ∃ nx', doStore E.P s ty (eval t x) (eval t y) = some nx' ∧ NxX F s0 (Kp e xs s) xs s e' nx nx' := by
  unfold doStore at hn
  split at hn
  · rename_i a hx
    split at hn
    · rename_i v hy
      rw [ht.atR h.ok hx, ht.atR h.ok hy]
      cases hs : storeVar E.P xs ty a v with
      | none => rw [hs] at hn; cases hn
      | some xs' =>
        rw [hs] at hn; cases hn
        obtain ⟨s', h1, h2, hkp⟩ := storeVar_hom h hs (ht.rvR h.ok hy)
        refine ⟨e, Sg.ex_refl h.ok, .skip s', ?_, .skip h2 hkp⟩
        show nxSkip (storeVar E.P s ty (subA e a) (sub e v)) = _
        rw [h1 e (Sg.le_refl h.ok)]; rfl
    · cases hn
  · cases hn
end
end Go.AI
/- Symbolic walks: operations, the others. -/
namespace Go.AI
section
variable {F : List Nat} {s0 : S} {e : Sg} {xs s : S} {E : Env} {tx t : T V} {P : Program}
theorem nilCheck_sub {v r : V} (h : doNilCheck (some v) = some r) (e' : Sg) : doNilCheck (some (sub e' v)) = some (sub e' r) := by
  cases v with
  | ptr a => cases h; rfl
  | func fn fi ca =>
    cases fn with
    | func f => cases h; rfl
    | yield f => cases h; rfl
    | _ => cases h
  | _ => cases h
theorem unOp_sub {op : UnOp} {v r : V} (h : unOpV op v = some r) (e' : Sg) : unOpV op (sub e' v) = some (sub e' r) := by
  unfold unOpV at h
  split at h
  · cases h; rfl
  · cases h; rfl
  · cases h
theorem mkIface_sub {ty : TypeId} {v r : V} (h : doMkIface P ty (some v) = some r) (e' : Sg) : doMkIface P ty (some (sub e' v)) = some (sub e' r) := by
  unfold doMkIface at h ⊢
  split at h
  · cases h
  · cases h; simp only [sub]
  · cases h
theorem extract_sub {i : Nat} {v r : V} (h : doExtract (some v) i = some r) (e' : Sg) : doExtract (some (sub e' v)) i = some (sub e' r) := by
  unfold doExtract at h
  split at h
  · rename_i vs hv
    cases hv
    simp only [sub, doExtract, subL_map, List.getElem?_map, h, Option.map]
  · cases h
theorem fieldAddr_sub {ty f : Nat} {v r : V} (h : doFieldAddr P ty (some v) f = some r) (e' : Sg) : doFieldAddr P ty (some (sub e' v)) f = some (sub e' r) := by
  unfold doFieldAddr at h ⊢
  split at h
  · split at h
    · rename_i a hv
      cases hv
      split at h
      · rename_i fd hf
        revert h
        simp only [sub]
        cases isZeroField fd P with
        | true => intro h; cases h
        | false => intro h; cases h; simp only [cond_false, sub, addC, subA]
      · cases h
    · cases h
  · cases h
theorem field_sub {ty f : Nat} {v r : V} (h : doField P ty (some v) f = some r) (e' : Sg) : doField P ty (some (sub e' v)) f = some (sub e' r) := by
  unfold doField at h ⊢
  split at h
  · split at h
    · rename_i cs hv
      cases hv
      split at h
      · rename_i fd hf
        simp only [sub, subL_map]
        exact partV_hom h e'
      · cases h
    · cases h
  · cases h
theorem failAssert_sub {ty : TypeId} {ok : Bool} {r : V} (h : failAssert P ty ok = some r) (e' : Sg) : sub e' r = r := by
  unfold failAssert at h
  cases ok with
  | false => cases h
  | true =>
    simp only [cond_true] at h
    split at h
    · rename_i z hz; cases h; simp only [sub, subL, zero_sub hz]
    · cases h
theorem assert_sub {ty : TypeId} {ok : Bool} {v r : V} (h : doAssert P (some v) ty ok = some r) (e' : Sg) : doAssert P (some (sub e' v)) ty ok = some (sub e' r) := by
  unfold doAssert at h ⊢
  split at h
  · cases h
  · split at h
    · rename_i hv
      cases hv
      simp only [sub, h, failAssert_sub h e']
    · rename_i t0 v0 hv
      cases hv
      simp only [sub]
      revert h
      cases Nat.beq t0 ty with
      | true => intro h; cases h; cases ok <;> rfl
      | false => intro h; simp only [cond_false] at h ⊢; rw [h, failAssert_sub h e']
    · cases h
  · cases h
theorem natOf_sub {v : V} {n : Nat} (h : natOf v = some n) (e' : Sg) : natOf (sub e' v) = some n := by
  unfold natOf at h
  split at h
  · exact h
  · cases h
theorem indexAddr_sub {ty n : Nat} {v r : V} (h : doIndexAddr P ty (some v) (some n) = some r) (e' : Sg) : doIndexAddr P ty (some (sub e' v)) (some n) = some (sub e' r) := by
  unfold doIndexAddr at h ⊢
  simp only at h ⊢
  split at h
  · split at h
    · rename_i a z len c sz hv
      cases hv
      split at h
      · rename_i m hm
        simp only [sub]
        revert h
        cases (Nat.beq m sz && Nat.blt n len) with
        | false => intro h; cases h
        | true => intro h; cases h; simp only [cond_true, sub, addC, subA]
      · cases h
    · cases h
  · rename_i len el hu0
    split at h
    · rename_i a hv
      cases hv
      split at h
      · rename_i m hm
        simp only [sub]
        cases hb : Nat.blt n len with
        | false => rw [hb] at h; cases h
        | true => rw [hb] at h; cases h; simp only [cond_true, sub, addC, subA]
      · cases h
    · cases h
  · cases h
theorem eqlAt_safe {ok ok' : Ad → Bool} {d : Nat} {ty : TypeId} {a b : V} (hs : eqSafe a b = true) {q : Bool} (h : eqlAt P ok d ty a b = some q) (e' : Sg) : eqlAt P ok' d ty (sub e' a) (sub e' b) = some q := by
  cases d with
  | zero => cases h
  | succ d =>
    unfold eqlAt at h ⊢
    cases a <;> cases b <;> first | (cases hs; done) | skip
    all_goals
      simp only [sub]
      cases hu : P.underlying ty with
      | none => rw [hu] at h; cases h
      | some ds => rw [hu] at h; cases ds <;> first | exact h | (cases h; done)
theorem intOp_flat {op : BinOp} {k : IntKind} {a b : Int} {r : V} (h : intOp op k a b = some r) (e' : Sg) : sub e' r = r := by
  unfold intOp at h
  split at h <;> first
    | (cases h; rfl)
    | (cases h; rw [mkInt_eq]; rfl)
    | (cases h; done)
    | (revert h; cases (b == 0) <;> intro h <;> first | (cases h; rfl) | (cases h; done))
theorem shiftOp_flat {op : BinOp} {k : IntKind} {a b : Int} {r : V} (h : shiftOp op k a b = some r) (e' : Sg) : sub e' r = r := by
  unfold shiftOp at h
  split at h
  · split at h <;> first | (cases h; rw [mkInt_eq]; rfl) | (cases h; done)
  · cases h
theorem strOp_flat {op : BinOp} {a b : List Nat} {r : V} (h : strOp op a b = some r) (e' : Sg) : sub e' r = r := by
  unfold strOp at h
  split at h
  · revert h; cases Nat.ble (a.length + b.length) 1000000 <;> intro h <;> first | (cases h; rfl) | (cases h; done)
  · cases hq : strEq a b with
    | none => rw [hq] at h; cases h
    | some q => rw [hq] at h; cases h; rfl
  · cases hq : strEq a b with
    | none => rw [hq] at h; cases h
    | some q => rw [hq] at h; cases h; rfl
  · cases h; rfl
  · cases h
theorem binOpV_safe {ok ok' : Ad → Bool} {op : BinOp} {ty : TypeId} {a b r : V} (hs : eqSafe a b = true) (h : binOpV P ok op ty a b = some r) (e' : Sg) : binOpV P ok' op ty (sub e' a) (sub e' b) = some (sub e' r) := by
  have key : ∀ q : Bool → Bool, (eqlAt P ok 20 ty a b).map (fun x => V.bool (q x)) = some r → (eqlAt P ok' 20 ty (sub e' a) (sub e' b)).map (fun x => V.bool (q x)) = some (sub e' r) := by
    intro q hq
    cases hx : eqlAt P ok 20 ty a b with
    | none => rw [hx] at hq; cases hq
    | some x => rw [hx] at hq; cases hq; rw [eqlAt_safe hs hx e']; rfl
  have k1 := key id
  have k2 := key fun b => !b
  cases a <;> cases b <;> first | (cases hs; done) | skip
  case int.int j a k b =>
    simp only [binOpV, sub] at h ⊢
    revert h
    cases isShift op with
    | true => intro h; simp only [cond_true] at h ⊢; rw [h, shiftOp_flat h]
    | false =>
      cases sameKind j k with
      | true => intro h; simp only [cond_true, cond_false] at h ⊢; rw [h, intOp_flat h]
      | false => intro h; cases h
  case str.str a b => simp only [binOpV, sub] at h ⊢; rw [h, strOp_flat h]
  all_goals
    cases op <;> first | (exact k1 h) | (exact k2 h) | (cases h; done)
theorem guardOk_sub {op : BinOp} {ty : TypeId} {x y : Operand} {a b : V} (hs : eqSafe a b = true) (e' : Sg) : guardOk P op ty x y (sub e' a) (sub e' b) = guardOk P op ty x y a b := by
  cases a <;> cases b <;> first | (cases hs; done) | rfl
end
end Go.AI
/- Symbolic walks: any operation that is done in the open. -/
namespace Go.AI
section
variable {F : List Nat} {s0 : S} {e : Sg} {xs s : S} {E : Env} {tx t : T V} {P : Program}
theorem x_two (h : XR F s0 e xs s) (ht : RT e tx t) {x y : Operand} {a b r : V} (hx : eval tx x = some a) (hy : eval tx y = some b) {g : S → Option V → Option V → Option V}
    (hr : g xs (some a) (some b) = some r) (hg : ∀ e', e.le e' → g s (some (sub e' a)) (some (sub e' b)) = some (sub e' r)) {nx : Nx} (hn : nxVal xs (g xs (eval tx x) (eval tx y)) = some nx) :
    ∃ e', e.ex e' ∧ ∃ nx', nxVal s (g s (eval t x) (eval t y)) = some nx' ∧ NxX F s0 (Kp e xs s) xs s e' nx nx' := by
  rw [hx, hy, hr] at hn
  rw [ht.atR h.ok hx, ht.atR h.ok hy, hg e (Sg.le_refl h.ok)]
  refine nx_pure h hn fun e' he => ?_
  have h1 := hg e' he
  rw [ht.rvR h.ok hx e' he, ht.rvR h.ok hy e' he, hg e (Sg.le_refl h.ok)] at h1
  exact (Option.some.inj h1).symm
theorem rvs_at (h : XR F s0 e xs s) (ht : RT e tx t) {l : List Operand} {vs : List V} (hv : evals tx l = some vs) : evals t l = some (vs.map (sub e)) ∧ RVs e vs (vs.map (sub e)) := by
  obtain ⟨ws, h1, h2⟩ := ht.evalsR hv
  have h3 := h2 e (Sg.le_refl h.ok)
  subst h3
  exact ⟨h1, h2⟩
theorem doBuild_sub {ty : TypeId} {l : List (Nat × V)} {r : V} (h : doBuild P ty (some l) = some r) {e' : Sg} (ok : e'.ok) : doBuild P ty (some (l.map fun x => (x.1, sub e' x.2))) = some (sub e' r) := by
  unfold doBuild at h ⊢
  split at h
  · rename_i z hz
    simp only at h ⊢
    split at h
    · rename_i fs hu
      revert h
      cases fs.toList.all (fun f => (size P f.type).isSome) with
      | false => intro h; cases h
      | true =>
        intro h
        simp only [cond_true] at h ⊢
        cases hf : fillV (fieldPlaceV P fs) z.cells l with
        | none => rw [hf] at h; cases h
        | some cs =>
          rw [hf] at h; cases h
          have := fillV_hom ok l z.cells cs hf
          rw [zero_cells hz ok] at this
          rw [this]; simp only [aggOf, sub, subL_map]
    · split at h
      · rename_i n hn
        cases hf : fillV (fun i => some (i * n, n)) z.cells l with
        | none => rw [hf] at h; cases h
        | some cs =>
          rw [hf] at h; cases h
          have := fillV_hom ok l z.cells cs hf
          rw [zero_cells hz ok] at this
          rw [this]; simp only [aggOf, sub, subL_map]
      · cases h
    · cases h
  · cases h
theorem map_flatten_rep (g : V → V) (n : Nat) (l : List V) (hl : l.map g = l) : ((List.replicate n l).flatten).map g = (List.replicate n l).flatten := by
  induction n with
  | zero => rfl
  | succ n ih => simp only [List.replicate_succ, List.flatten_cons, List.map_append, ih, hl]
theorem x_buildSlice (h : XR F s0 e xs s) {ty : TypeId} {len : Nat} {l : List (Nat × V)} (hl : ∀ e', e.le e' → (l.map fun x => (x.1, sub e' x.2)) = l.map fun x => (x.1, sub e x.2)) {nx : Nx} (hn : doBuildSlice P xs ty len (some l) = some nx) :
    ∃ e', e.ex e' ∧ ∃ nx', doBuildSlice P s ty len (some (l.map fun x => (x.1, sub e x.2))) = some nx' ∧ NxX F s0 (Kp e xs s) xs s e' nx nx' := by
  unfold doBuildSlice at hn ⊢
  split at hn
  · rename_i el hu
    simp only at hn ⊢
    split at hn
    · rename_i z hz
      split at hn
      · rename_i n hs
        revert hn
        cases (Nat.ble (len * n) 10000 && !(Nat.beq n 0) && Nat.beq z.cells.length n) with
        | false => intro hn; cases hn
        | true =>
          intro hn
          simp only [cond_true] at hn ⊢
          cases hf : fillV (fun i => some (i * n, n)) (List.replicate len z.cells).flatten l with
          | none => rw [hf] at hn; cases hn
          | some cs =>
            rw [hf] at hn
            have hh : ∀ e', e.le e' → fillV (fun i => some (i * n, n)) (List.replicate len z.cells).flatten (l.map fun x => (x.1, sub e x.2)) = some (cs.map (sub e')) := fun e' he => by
              have := fillV_hom he.ok l _ cs hf
              rw [map_flatten_rep _ _ _ (zero_cells hz he.ok), hl e' he] at this
              exact this
            rw [hh e (Sg.le_refl h.ok)]
            cases hn
            obtain ⟨h1, h2, h3, h4⟩ := h.alloc (B := .cells el false 1 [⟨0, 0, cs⟩]) (B' := .cells el false 1 [⟨0, 0, cs.map (sub e)⟩]) rfl (fun e' he => by
              have := hh e' he
              rw [hh e (Sg.le_refl h.ok)] at this
              simp only [subB, List.map_cons, List.map_nil, subVer, (Option.some.inj this).symm])
            exact ⟨_, ⟨h1, rfl⟩, _, rfl, .val (fun e' he => by simp only [sub, subA, h4 e' he]) h2 (Kp.alloc h _ _)⟩
      · cases hn
    · cases hn
  · cases hn
theorem externV_sub {k : ExtK} {args : List V} {r : V} (h : externV k args = some r) (e' : Sg) : externV k (args.map (sub e')) = some (sub e' r) := by
  unfold externV at h
  split at h
  · simp only [List.map_cons, List.map_nil, sub, externV]
    split at h
    · cases h; split <;> rfl
    · cases h; rw [mkInt_eq]; rfl
  · cases h
theorem x_callF (h : XR F s0 e xs s) {g : FuncId} {args args' : List V} (ha : RVs e args args') {nx : Nx} (hn : callF E g args xs = some nx) : ∃ e', e.ex e' ∧ ∃ nx', callF E g args' s = some nx' ∧ NxX F s0 (Kp e xs s) xs s e' nx nx' := by
  unfold callF at hn ⊢
  split at hn
  · cases hn
  · split at hn
    · split at hn
      · rename_i k _
        cases hv : externV k args with
        | none => rw [hv] at hn; cases hn
        | some v =>
          rw [hv] at hn
          have h1 : ∀ e', e.le e' → externV k args' = some (sub e' v) := fun e' he => by rw [← ha e' he]; exact externV_sub hv e'
          rw [h1 e (Sg.le_refl h.ok)]
          refine nx_pure h hn fun e' he => ?_
          have h2 := h1 e' he
          rw [h1 e (Sg.le_refl h.ok)] at h2
          exact (Option.some.inj h2).symm
      · cases hn
    · cases hn
      exact ⟨e, Sg.ex_refl h.ok, _, rfl, .enter ha h⟩
theorem idx_none {ty : TypeId} {i : Option Nat} : doIndexAddr P ty none i = none := by
  unfold doIndexAddr
  split
  · split <;> rfl
  · rfl
theorem build_none {ty : TypeId} : doBuild P ty none = none := by unfold doBuild; split <;> rfl
theorem buildSlice_none {ty len : Nat} : doBuildSlice P xs ty len none = none := by unfold doBuildSlice; split <;> rfl
theorem x_op (h : XR F s0 e xs s) (ht : RT e tx t) {op : Op} (hok : xOk tx op = true) {nx : Nx} (hn : opDo op E tx xs = some nx) : Goal F s0 e xs s t E op nx := by
  unfold Goal
  cases op with
  | move x => exact x_move h ht hn
  | assign x => exact x_move h ht hn
  | pick c a b => exact x_pick h ht hn
  | alloc el => exact x_alloc h hn
  | box el x => exact x_box h ht hn
  | load ty x => exact x_load h ht hn
  | store ty x y => exact x_store h ht hn
  | nilCheck x => exact x_fun1 h ht (g := doNilCheck) rfl (fun v r hv e' _ => nilCheck_sub hv e') hn
  | unOp op ty x => exact x_fun1 h ht (g := doUn op) rfl (fun v r hv e' _ => unOp_sub hv e') hn
  | makeInterface ty x => exact x_fun1 h ht (g := doMkIface E.P ty) (by unfold doMkIface; split <;> rfl) (fun v r hv e' _ => mkIface_sub hv e') hn
  | extract x i => exact x_fun1 h ht (g := fun v => doExtract v i) rfl (fun v r hv e' _ => extract_sub hv e') hn
  | fieldAddr ty x f => exact x_fun1 h ht (g := fun v => doFieldAddr E.P ty v f) (by simp only [doFieldAddr]; split <;> rfl) (fun v r hv e' _ => fieldAddr_sub hv e') hn
  | field ty x f => exact x_fun1 h ht (g := fun v => doField E.P ty v f) (by simp only [doField]; split <;> rfl) (fun v r hv e' _ => field_sub hv e') hn
  | typeAssert x a ty ok => exact x_fun1 h ht (g := fun v => doAssert E.P v ty ok) (by simp only [doAssert]; split <;> rfl) (fun v r hv e' _ => assert_sub hv e') hn
  | makeMap ty x =>
    cases x with
    | none => exact x_makeMap h hn
    | some x => cases hok
  | binOp op ty x y _ =>
    simp only [xOk] at hok
    split at hok
    · rename_i a hx
      split at hok
      · rename_i b hy
        have hn' := hn
        simp only [opDo, hx, hy, doBin] at hn'
        cases hg : guardOk E.P op ty x y a b with
        | false => rw [hg] at hn'; cases hn'
        | true =>
          rw [hg] at hn'
          simp only [cond_true] at hn'
          cases hr : binOpV E.P (plainAt xs) op ty a b with
          | none => rw [hr] at hn'; cases hn'
          | some r =>
            exact x_two h ht hx hy (g := fun s a b => doBin E.P s op ty x y a b) (r := r) (by simp only [doBin, hg, cond_true, hr]) (fun e' he => by
              simp only [doBin, guardOk_sub hok, hg, cond_true]
              exact binOpV_safe hok hr e') hn
      · cases hok
    · cases hok
  | convert src dst x =>
    simp only [xOk] at hok
    split at hok
    · rename_i k n hx
      have h1 := ht.atR h.ok hx
      simp only [sub] at h1
      simp only [opDo, hx, h1] at hn ⊢
      unfold doConv convV at hn ⊢
      simp only at hn ⊢
      cases hsrc : E.P.underlying src with
      | none => rw [hsrc] at hn; simp only [nxPair] at hn; cases hn
      | some ds =>
        rw [hsrc] at hn
        simp only at hn ⊢
        cases hdst : E.P.underlying dst with
        | none => rw [hdst] at hn; cases hn
        | some dd =>
          rw [hdst] at hn
          cases dd with
          | int kk => cases hn; exact ⟨e, Sg.ex_refl h.ok, _, rfl, .val (fun e' _ => by rw [mkInt_eq]; rfl) h Kp.refl⟩
          | string => cases hn; exact ⟨e, Sg.ex_refl h.ok, _, rfl, .val (fun e' _ => rfl) h Kp.refl⟩
          | slice el => cases hn
          | _ => cases hn
    · cases hok
  | makeFunc fn a b =>
    simp only [opDo] at hn ⊢
    cases ha : evals tx a.toList with
    | none => rw [ha] at hn; unfold doMkFunc at hn; split at hn <;> cases hn
    | some va =>
      cases hb : evals tx b.toList with
      | none => rw [ha, hb] at hn; unfold doMkFunc at hn; split at hn <;> cases hn
      | some vb =>
        rw [ha, hb] at hn
        obtain ⟨h1, h2⟩ := rvs_at h ht ha
        obtain ⟨h3, h4⟩ := rvs_at h ht hb
        rw [h1, h3]
        cases fn with
        | yield l => cases hn
        | _ => cases hn; exact ⟨e, Sg.ex_refl h.ok, _, rfl, .val (fun e' he => by simp only [sub, subFn, subL_map, h2 e' he, h4 e' he]) h Kp.refl⟩
  | indexAddr ty x i =>
    simp only [opDo] at hn ⊢
    cases hx : eval tx x with
    | none => rw [hx] at hn; rw [idx_none] at hn; cases hn
    | some v =>
      cases hi : eval tx i with
      | none => rw [hi] at hn; cases hn
      | some vi =>
        cases hni : natOf vi with
        | none => rw [hi] at hn; simp only [natOfO, hni] at hn; cases hn
        | some n =>
          rw [hx, hi] at hn
          simp only [natOfO, hni] at hn
          cases hr : doIndexAddr E.P ty (some v) (some n) with
          | none => rw [hr] at hn; cases hn
          | some r =>
            rw [hr] at hn
            rw [ht.atR h.ok hx, ht.atR h.ok hi]
            simp only [natOfO, natOf_sub hni]
            have hrv := ht.rvR h.ok hx
            rw [indexAddr_sub hr e]
            refine nx_pure h hn fun e' he => ?_
            have h1 := indexAddr_sub hr e'
            rw [hrv e' he, indexAddr_sub hr e] at h1
            exact (Option.some.inj h1).symm
  | build ty parts =>
    simp only [opDo] at hn ⊢
    cases hl : evalsO tx parts.toList with
    | none => rw [hl] at hn; rw [build_none] at hn; cases hn
    | some l =>
      rw [hl] at hn
      obtain ⟨h1, h2⟩ := ht.evalsOR h.ok hl
      rw [h1]
      cases hr : doBuild E.P ty (some l) with
      | none => rw [hr] at hn; cases hn
      | some r =>
        rw [hr] at hn
        rw [doBuild_sub hr h.ok]
        refine nx_pure h hn fun e' he => ?_
        have h3 := doBuild_sub hr he.ok
        rw [h2 e' he, doBuild_sub hr h.ok] at h3
        exact (Option.some.inj h3).symm
  | buildSlice ty len parts =>
    simp only [opDo] at hn ⊢
    cases hl : evalsO tx parts.toList with
    | none => rw [hl] at hn; rw [buildSlice_none] at hn; cases hn
    | some l =>
      rw [hl] at hn
      obtain ⟨h1, h2⟩ := ht.evalsOR h.ok hl
      rw [h1]
      exact x_buildSlice h h2 hn
  | panic x =>
    simp only [opDo] at hn ⊢
    unfold doPanic at hn
    split at hn
    · rename_i ty v hx
      have h1 := ht.atR h.ok hx
      have h2 := ht.rvR h.ok hx
      simp only [sub] at h1 h2
      cases hn
      rw [h1]
      exact ⟨e, Sg.ex_refl h.ok, _, rfl, .panic h2 h⟩
    · cases hn
  | call c =>
    simp only [opDo] at hn ⊢
    simp only [xOk] at hok
    split at hok
    · rename_i f hc
      split at hok
      · rename_i g fi ca hf
        rw [hc] at hn ⊢
        unfold callTo at hn ⊢
        cases ha : evals tx c.args.toList with
        | none => rw [ha] at hn; cases hn
        | some args =>
          rw [ha] at hn
          obtain ⟨h1, h2⟩ := rvs_at h ht ha
          rw [h1]
          simp only [callV, hf] at hn
          have h3 := ht.atR h.ok hf
          have h4 := ht.rvR h.ok hf
          simp only [sub, subFn, subL_map] at h3
          simp only [callV, h3]
          refine x_callF h (fun e' he => ?_) hn
          have h5 := h4 e' he
          simp only [sub, subFn, subL_map, V.func.injEq, true_and] at h5
          simp only [List.map_append, h2 e' he, h5.1, h5.2]
      · cases hok
    · cases hok
  | _ => cases hok
end
end Go.AI
