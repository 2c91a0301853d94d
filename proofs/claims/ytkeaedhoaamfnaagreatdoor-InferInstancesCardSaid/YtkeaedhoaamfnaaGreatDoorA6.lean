/- The evaluator by which runs of the program are reckoned, and that it is sound: part 6. No conditions beyond those of the row. -/
import Derived.Test.YtkeaedhoaamfnaaGreatDoorA5
set_option linter.unusedVariables false
set_option linter.unusedSimpArgs false
noncomputable section
namespace Go.AI
theorem zM {ρ : aq} {u : Md} {fm : FrameMode} (h : JD ρ u fm) : JD ρ (kq u) (settle fm) := by
 cases u with
 | run => cases fm <;> first | exact h | exact h.elim
 | returning => cases fm <;> first | exact h | exact h.elim
 | panicking c => cases fm with
  | run => exact h.elim
  | returning => exact h.elim
  | panicking ch =>
   cases c with
   | nil => cases ch with
    | nil => exact h
    | cons _ _ => exact h.elim
   | cons p ps => cases ch with
    | nil => exact h.elim
    | cons q qs =>
     obtain ⟨⟨h1, h2, h3⟩, h4⟩ := h
     obtain ⟨pv, pr⟩ := p
     obtain ⟨qv, qr, qg⟩ := q
     simp only at h1 h2 h3
     subst h2; subst h3
     cases pr with
     | false => exact ⟨⟨h1, rfl, rfl⟩, h4⟩
     | true =>
      have hno : ∀ (ps : List tX) (qs : List PanicEntry), ow ρ ps qs → qs.dropWhile (fun e => !e.goexit) = [] := by
       intro ps
       induction ps with
       | nil => intro qs hq; cases qs with
        | nil => rfl
        | cons _ _ => exact hq.elim
       | cons p ps ih => intro qs hq; cases qs with
        | nil => exact hq.elim
        | cons q qs =>
         obtain ⟨⟨_, _, g3⟩, g4⟩ := hq
         rw [List.dropWhile_cons, g3]
         simpa using ih qs g4
      simp only [kq, settle, hno ps qs h4]
      trivial
theorem Ag {ρ : aq} {u : Md} {fm : FrameMode} {c : List tX} {ch : List PanicEntry} (h : JD ρ u fm) (hc : ow ρ c ch) : JD ρ (Ah u c) (raised fm ch) := by
 cases u with
 | run => cases fm <;> first | exact hc | exact h.elim
 | returning => cases fm <;> first | exact hc | exact h.elim
 | panicking d => cases fm with
  | run => exact h.elim
  | returning => exact h.elim
  | panicking dh => exact ow.append hc h
section
variable {E : cg} {ih : sd → S → Option cX} {f : FuncId} {fn : Func}
def NG (tm : Array Value) : ResultVar → Sem Value
 | .tmp t => pure (tm.getD t undef)
 | .cell a t => do Go.loadVar t (← asAddr (tm.getD a undef))
theorem EY (fn : Func) (tm : Array Value) : results fn tm = (do let vs ← fn.results.mapM (NG tm); pure (if h : vs.size = 1 then vs[0] else .tuple vs)) := by
 unfold results
 congr 1
theorem wU {P : Program} {ρ : aq} {s : S} {w : World} (h : HR ρ s w) {t : T V} {tm : Array Value} (ht : TR ρ t tm) {x : ResultVar} {v : V} (e : fX P t s x = some v) :
 ∃ y, den ρ v = some y ∧ (NG tm x).run P w = .ok y w := by
 have at_ : ∀ i u, t.get (eT i) = some u → den ρ u = some (tm.getD i undef) := fun i u hu => by
  obtain ⟨y, h1, h2⟩ := ht i u hu
  rw [h1]; simp [h2]
 cases x with
 | tmp i => exact ⟨_, at_ _ _ e, rfl⟩
 | cell a ty =>
  simp only [fX] at e
  split at e
  ·rename_i ad hp
   obtain ⟨a1, y, h1, h2, h3⟩ := oG h e
   have := at_ _ _ hp
   simp only [den, h1, Option.some.injEq] at this
   refine ⟨y, h2, ?_⟩
   simp only [NG, Sem.run_bind, ← this, asAddr, Sem.run_pure, Result.andThen_ok, h3]
  ·cases e
theorem oF {P : Program} {ρ : aq} {s : S} {w : World} (h : HR ρ s w) {t : T V} {tm : Array Value} (ht : TR ρ t tm) : ∀ {l : List ResultVar} {vs : List V}, fC P t s l = some vs →
 ∃ ys, aY ρ vs = some ys ∧ (l.mapM (NG tm)).run P w = .ok ys w
 | [], vs, e => by cases e; exact ⟨[], rfl, rfl⟩
 | x :: l, vs, e => by
  simp only [fC] at e
  cases hx : fX P t s x with
  | none => simp [hx] at e
  | some v =>
   cases hl : fC P t s l with
   | none => simp [hx, hl] at e
   | some q =>
    simp only [hx, hl, Option.some.injEq] at e
    subst e
    obtain ⟨y, h1, h2⟩ := wU (P := P) (w := w) h ht hx
    obtain ⟨ys, h3, h4⟩ := oF h ht hl
    refine ⟨y :: ys, aW.2 ⟨y, ys, h1, h3, rfl⟩, ?_⟩
    simp only [List.mapM_cons, Sem.run_bind, h2, h4, Result.andThen_ok, Sem.run_pure]
theorem wT {P : Program} {ρ : aq} {s : S} {w : World} (h : HR ρ s w) {t : T V} {tm : Array Value} (ht : TR ρ t tm) {v : V} (e : cJ P fn t s = some v) : ∃ y, den ρ v = some y ∧ (results fn tm).run P w = .ok y w := by
 unfold cJ at e
 split at e
 ·rename_i l hl
  cases e
  obtain ⟨ys, h1, h2⟩ := oF (P := P) (w := w) h ht hl
  have hr : (results fn tm).run P w = .ok (if h : ys.toArray.size = 1 then ys.toArray[0] else .tuple ys.toArray) w := by
   rw [EY, Array.mapM_eq_mapM_toList]
   simp [h2]
  refine ⟨_, ?_, hr⟩
  have hlen := bG h1
  cases l with
  | nil =>
   cases h1
   rfl
  | cons v l => cases l with
   | nil =>
    obtain ⟨y, hy, rfl⟩ := ml h1
    simpa [qi] using hy
   | cons v2 l =>
    obtain ⟨y, q, hy, hq, rfl⟩ := aW.1 h1
    obtain ⟨y2, q, hy2, hq2, rfl⟩ := aW.1 hq
    simp only [qi, den, h1]
    simp
 ·cases e
theorem iY.turn {P : Program} {ρ : aq} {f : FuncId} {fn : Func} {t : T V} {todo : List Item} {ds : List dT} {m : Md} {up : Option Md} {rd : Option Nat} {fr : Frame} {cs : List Frame}
 (h : iY P ρ f fn t todo ds m up rd fr cs) {ds' : List dT} {rs : List Deferred} (hd : wB ρ ds' rs) {m' : Md} (hm : m' ≠ .run) {fm : FrameMode} (hfm : JD ρ m' fm) (todo' : List Item) : iY P ρ f fn t todo' ds' m' up rd { fr with defers := rs, mode := fm } cs :=
 ⟨h.name, h.func, h.tr, h.size, fun q => absurd q hm, hd, hfm, h.rd, h.up⟩
theorem yh {P : Program} {ρ : aq} {s : S} {w : World} (h : HR ρ s w) {t : T V} {todo : List Item} {m : Md} {up : Option Md} {rd : Option Nat} {fr : Frame} {cs : List Frame} (hF : iY P ρ f fn t todo [] m up rd fr cs) {e : TH} {en : Ending} (he : MV ρ e en)
 (hgo : fr.going P w en) : oU P f up.isSome rd.isSome cs (lone fr cs w) ρ w ⟨e, up, s⟩ := by
 refine ⟨ρ, w, h, FR.refl ρ w, ?_⟩
 have hleave : up = none → fr.leaving P w en := by
  intro hu
  have hk : fr.kind = .normal := by have := hF.up; rw [hu] at this; exact this
  cases en with
  | returned v => obtain ⟨a, b, c⟩ := hgo; exact ⟨a, b, hk, c⟩
  | panicked ch => exact hgo
  | outgrown => trivial
 cases rd with
 | some l =>
  have hu : up = none := hF.rd.1
  intro c cs' hc
  subst hc
  refine ⟨en, he, .one ?_⟩
  cases en with
  | returned v => exact step_leave_returned (hleave hu)
  | panicked ch => exact step_leave_panicked (hleave hu)
  | outgrown => cases e <;> exact he.elim
 | none =>
  cases up with
  | none => exact ⟨fr, en, he, Steps.refl _ _, hF.name, hleave rfl⟩
  | some u =>
   obtain ⟨hk, c0, cs0, rfl, hmd⟩ := hF.up
   intro c cs' hc
   cases hc
   exact ⟨fr, en, u, c0.mode, rfl, hmd, he, Steps.refl _ _, hk, hgo⟩
theorem pS (hg : Good E.P ih) {t : T V} {todo : List Item} {ds : List dT} {m : Md} (hm : m ≠ .run) {up : Option Md} {rd : Option Nat} {s : S} {out : cX}
 (e : cn ds E fn (fF ih f fn) (bq ih) t m up rd s = some out) {ρ : aq} {w : World} {fr : Frame} {cs : List Frame} (h : HR ρ s w) (hF : iY E.P ρ f fn t todo ds m up rd fr cs) : oU E.P f up.isSome rd.isSome cs (lone fr cs w) ρ w out := by
 have hfm : fr.mode ≠ .run := by
  intro hq
  have := hF.md
  rw [hq] at this
  cases m <;> first | exact hm rfl | exact this.elim
 unfold cn at e
 split at e
 ·rename_i d ds'
  have hds := hF.ds
  cases hfd : fr.defers with
  | nil => rw [hfd] at hds; exact hds.elim
  | cons r rs =>
   rw [hfd] at hds
   obtain ⟨⟨l, h1, h2⟩, h3⟩ := hds
   subst h2
   unfold iO at e
   split at e
   ·rename_i hs
    obtain ⟨l', g1, g2⟩ := h.blk _ _ hs
    rw [h1] at g1; cases g1
    have hrun := run_takeDeferred (P := E.P) g2
    obtain ⟨j1, j2⟩ := h.turn h1 hs (fun _ h => by cases h) (tU w l.b (.deferred none)) .gone trivial
    have hstep := zI (P := E.P) (cs := cs) rfl hfm hfd hrun
    have hF' : iY E.P ρ f fn t [] ds' m up rd { fr with defers := [] ++ rs } cs := ⟨hF.name, hF.func, hF.tr, hF.size, fun q => absurd q hm, h3, hF.md, hF.rd, hF.up⟩
    exact oU.of_steps (.one hstep) j2 (bY hg e _ _ _ _ j1 hF')
   ·cases e
 ·rename_i g captured args ds'
  have hds := hF.ds
  cases hfd : fr.defers with
  | nil => rw [hfd] at hds; exact hds.elim
  | cons r rs =>
   rw [hfd] at hds
   obtain ⟨⟨gf, cc, aa, h1, h2, h3, h4⟩, h5⟩ := hds
   cases h1
   subst h4
   cases hr : bq ih g (args ++ captured) (some m) s with
   | none => rw [hr] at e; cases e
   | some o1 =>
    rw [hr] at e
    obtain ⟨hcall, hfin⟩ := hg (.call g (args ++ captured) (some m)) s o1 hr ρ w _ h (dK h3 h2)
    obtain ⟨ρ1, w1, j1, j2, j3⟩ := hfin ({ fr with defers := rs } :: cs) (fun u hu => by cases hu; exact ⟨_, _, rfl, hF.md⟩)
    obtain ⟨frX, en, u, u', k1, k2, k3, k4, k5, k6⟩ := j3 _ _ rfl
    have hs1 := step_defer (P := E.P) (cs := cs) (f := g) (args := (aa ++ cc).toArray) (w := w) hfm hfd rfl (by
     have := hcall w
     simpa [invoke] using this)
    have hF1 := hF.mono j2.ext
    obtain ⟨oe, oup, os⟩ := o1
    simp only at k1 k3 j1
    subst k1
    cases oe with
    | returned v =>
     cases en with
     | panicked _ => exact k3.elim
     | outgrown => exact k3.elim
     | returned y =>
      simp only [jX] at e
      have hs2 := step_going_returned (c := { fr with defers := rs, mode := u' }) (cs := cs) k5 k6
      have hgo : u ≠ .run ∧ fF ih f fn t [] ds' (kq u) up rd os = some out := by
       cases u with
       | run => cases e
       | returning => exact ⟨(by intro q; cases q), e⟩
       | panicking c => exact ⟨(by intro q; cases q), e⟩
      have hnr : kq u ≠ .run := by
       obtain ⟨hu, _⟩ := hgo
       unfold kq
       split
       ·intro q; cases q
       ·exact hu
      have hF2 : iY E.P ρ1 f fn t [] ds' (kq u) up rd { fr with defers := rs, mode := settle u' } cs :=
       ⟨hF1.name, hF1.func, hF1.tr, hF1.size, fun q => absurd q hnr, h5.mono j2.ext, zM k2, hF1.rd, hF1.up⟩
      exact oU.of_steps (.head hs1 (k4.trans (.one hs2))) j2 (bY hg hgo.2 _ _ _ _ j1 hF2)
    | panicked c =>
     cases en with
     | returned _ => exact k3.elim
     | outgrown => exact k3.elim
     | panicked ch =>
      simp only [jX] at e
      have hs2 := step_going_panicked (c := { fr with defers := rs, mode := u' }) (cs := cs) k6
      have hF2 : iY E.P ρ1 f fn t [] ds' (Ah u c) up rd { fr with defers := rs, mode := raised u' ch } cs :=
       ⟨hF1.name, hF1.func, hF1.tr, hF1.size, (fun q => by cases u <;> cases q), h5.mono j2.ext, Ag k2 k3, hF1.rd, hF1.up⟩
      exact oU.of_steps (.head hs1 (k4.trans (.one hs2))) j2 (bY hg e _ _ _ _ j1 hF2)
 ·cases e
 ·have hds := hF.ds
  have hfd : fr.defers = [] := by
   cases hq : fr.defers with
   | nil => rfl
   | cons _ _ => rw [hq] at hds; exact hds.elim
  unfold jt at e
  split at e
  ·unfold Cm at e
   split at e
   ·rename_i v hv
    cases e
    obtain ⟨y, y1, y2⟩ := wT (P := E.P) (fn := fn) h hF.tr hv
    refine yh h hF (en := .returned y) y1 ⟨?_, hfd, fn, hF.name ▸ hF.func, y2⟩
    have := hF.md
    cases hq : fr.mode <;> rw [hq] at this <;> first | rfl | exact this.elim
   ·cases e
  ·rename_i c
   cases e
   have := hF.md
   cases hq : fr.mode with
   | run => exact absurd hq hfm
   | returning => rw [hq] at this; exact this.elim
   | panicking ch =>
    rw [hq] at this
    exact yh h hF (en := .panicked ch) this ⟨hq, hfd, fn, hF.name ▸ hF.func⟩
  ·cases e
end
section
variable {E : cg} {ih : sd → S → Option cX} {f : FuncId} {fn : Func}
theorem iY.bump {P : Program} {ρ : aq} {t : T V} {todo : List Item} {ds : List dT} {up : Option Md} {rd : Option Nat} {fr : Frame} {cs : List Frame} (h : iY P ρ f fn t todo ds .run up rd fr cs) : fr.mode = .run := th h
theorem vY (hE : iQ E) (hD : eo E) (hg : Good E.P ih) {c : Code} {k : List Item} {t : T V} {ds : List dT} {up : Option Md} {rd : Option Nat} {s : S} {out : cX}
 (e : cA c E f fn (fF ih f fn) (bq ih) (dW ih) k t ds up rd s = some out) {ρ : aq} {w : World} {fr : Frame} {cs : List Frame} (h : HR ρ s w) (hF : iY E.P ρ f fn t (.code c :: k) ds .run up rd fr cs) :
 oU E.P f up.isSome rd.isSome cs (lone fr cs w) ρ w out := by
 have hm := th hF
 have ht := hF.todo rfl
 cases c with
 | ret =>
  simp only [cA] at e
  exact jk hg e h hF (fun _ hro => PL hm ht hro) (fun l v w' hro hk hr c cs' hc => by subst hc; exact Qj hm hk hro ht hr)
 | skip => exact eb h (Nr hm ht) (hF.to k) (bY hg e)
 | label l => exact eb h (Ki hm ht) (hF.to k) (bY hg e)
 | seq a b => exact eb h (PK hm ht) (hF.to _) (bY hg e)
 | cond c a b =>
  simp only [cA] at e
  cases hv : eval t c with
  | none => rw [hv] at e; cases e
  | some v =>
   rw [hv] at e
   have hd := am hF.tr hv
   unfold vT at e
   split at e
   ·rename_i q hq
    cases hq
    simp only [den, Option.some.injEq] at hd
    refine eb h (Nv hm ht hd.symm) (hF.to _) ?_
    have hb : (bif q then a else b) = if q then a else b := by cases q <;> rfl
    rw [← hb]
    exact bY hg e
   ·cases e
 | block id c => exact eb h (Kk hm ht) (hF.to _) (bY hg e)
 | loop c => exact eb h (Ns hm ht) (hF.to _) (bY hg e)
 | scope c => exact eb h (Kg hm ht) (hF.to _) (bY hg e)
 | exit id =>
  simp only [cA] at e
  cases hx : exitTo id k with
  | none =>
   rw [hx] at e
   simp only [px] at e
   exact jk (jump := some (.exit id)) hg e h hF (fun hj => by rcases hj with hj | hj <;> cases hj) (fun l v w' hro hk hr c cs' hc => by subst hc; exact NO hm hk hro ht hx hr)
  | some k' => rw [hx] at e; exact eb h (Nu hm ht hx) (hF.to _) (bY hg e)
 | goto id =>
  simp only [cA] at e
  cases hx : gotoIn id k with
  | none =>
   rw [hx] at e
   simp only [px] at e
   exact jk (jump := some (.goto id)) hg e h hF (fun hj => by rcases hj with hj | hj <;> cases hj) (fun l v w' hro hk hr c cs' hc => by subst hc; exact NN hm hk hro ht hx hr)
  | some k' => rw [hx] at e; exact eb h (Nt hm ht hx) (hF.to _) (bY hg e)
 | rangeFunc g ps a b => exact td hg e h hF
 | region id ops draw =>
  cases draw with
  | true =>
   simp only [cA] at e
   cases hd : gp ops fn.ntmps with
   | false => rw [hd] at e; cases e
   | true =>
    rw [hd] at e
    exact nh hg e hF.lone_up fun r hr => hD ih hg f fn id ops k rd t ds up s r hd hr ρ w fr cs h hF
  | false =>
   simp only [cA] at e
   cases hd : gp ops fn.ntmps with
   | false => rw [hd] at e; cases e
   | true =>
    rw [hd] at e
    refine nh hg e hF.lone_up fun r hr => ?_
    have := qb (k := k) (rd := rd) hE hg hd ops.toList (List.range ops.size) (NT ops) t ds up s r hr ρ w _ cs h (hF.to _)
    exact this.of_steps (.one (Io hm ht)) (FR.refl ρ w) (qW.refl hF) rfl
 | refuse why => cases e
theorem vA (hE : iQ E) (hD : eo E) (hg : Good E.P ih) {i : Item} {k : List Item} {t : T V} {ds : List dT} {up : Option Md} {rd : Option Nat} {s : S} {out : cX}
 (e : dD i E f fn (fF ih f fn) (bq ih) (dW ih) k t ds up rd s = some out) {ρ : aq} {w : World} {fr : Frame} {cs : List Frame} (h : HR ρ s w) (hF : iY E.P ρ f fn t (i :: k) ds .run up rd fr cs) :
 oU E.P f up.isSome rd.isSome cs (lone fr cs w) ρ w out := by
 have hm := th hF
 have ht := hF.todo rfl
 cases i <;> try (cases e; done)
 case code c => exact vY hE hD hg e h hF
 case inBlock id => exact eb h (EH hm ht) (hF.to k) (bY hg e)
 case inScope c => exact eb h (EG hm ht) (hF.to k) (bY hg e)
 case inLoop c => exact eb h (Ip hm ht) (hF.to _) (bY hg e)
 case beginRound =>
  simp only [dD] at e
  cases rd with
  | none => cases e
  | some l =>
   simp only at e
   unfold tV at e
   split at e
   ·rename_i pend f' t' ps a b d nt hs
    obtain ⟨hu, lb, hl, hro⟩ := hF.rd
    obtain ⟨r, r1, r2, r3, r4, r5, r6, r7, r8, r9, r10⟩ := tI h hs hl
    obtain ⟨j1, j2⟩ := r10 .busy pend
    have hrun := run_beginRound (P := E.P) r1 r2
    have hst := wO (P := E.P) (cs := cs) hm hro ht hrun
    have hpe : ({ r with state := LoopState.busy } : Loop) = { r with state := .busy, pending := pend } := by rw [← r3]
    rw [hpe] at hst
    exact oU.of_steps (.one hst) j2 (bY hg e _ _ _ _ j1 (hF.to k))
   ·cases e
theorem ti (hE : iQ E) (hD : eo E) (hg : Good E.P ih) {t : T V} {todo : List Item} {ds : List dT} {m : Md} {up : Option Md} {rd : Option Nat} {s : S} {out : cX}
 (e : aV E f fn (fF ih f fn) (bq ih) (dW ih) t todo ds m up rd s = some out) : Bm E.P f fn t todo ds m up rd s out := by
 intro ρ w fr cs h hF
 cases m with
 | run =>
  simp only [aV] at e
  cases todo with
  | nil =>
   simp only [cQ] at e
   have hm := th hF
   have ht := hF.todo rfl
   exact jk hg e h hF (fun _ hro => PM hm ht hro) (fun l v w' hro hk hr c cs' hc => by subst hc; exact Qk hm hk hro ht hr)
  | cons i k => exact vA hE hD hg e h hF
 | returning => exact pS hg (by intro q; cases q) e h hF
 | panicking c => exact pS hg (by intro q; cases q) e h hF
theorem ln {β : Type} : ∀ (l : List V) (i : Nat) (t : T V) (k : T V → β), bi l i t k = k (bi l i t id)
 | [], _, _, _ => rfl
 | x :: r, i, t, k => by
  simp only [bi, T.setK_eq]
  exact ln r (i + 1) _ k
theorem yo : ∀ (l : List V) (i : Nat) (t : T V) (j : Nat), (bi l i t id).get (eT j) = if i ≤ j ∧ j < i + l.length then l[j - i]? else t.get (eT j)
 | [], i, t, j => by rw [if_neg (by simp)]; rfl
 | x :: r, i, t, j => by
  simp only [bi, T.setK_eq]
  rw [yo r (i + 1) _ j, T.get_setN]
  simp only [List.length_cons]
  by_cases hj : i + 1 ≤ j ∧ j < i + 1 + r.length
  ·rw [if_pos hj, if_pos (by omega), show j - i = (j - (i + 1)) + 1 by omega]; rfl
  ·rw [if_neg hj]
   by_cases hi : i = j
   ·subst hi; rw [if_pos rfl, if_pos (by omega)]; simp
   ·rw [if_neg hi, if_neg (by omega)]
theorem lV {β : Type} : ∀ (ps : List Tmp) (l : List V) (t : T V) (k : T V → β), cK t ps l k = k (cK t ps l id)
 | [], l, t, k => by cases l <;> rfl
 | p :: ps, [], t, k => rfl
 | p :: ps, x :: l, t, k => by
  simp only [cK, T.setK_eq]
  exact lV ps l _ k
theorem mz {ρ : aq} : ∀ (ps : List Tmp) (l : List V) (ys : List Value) (t : T V) (tm : Array Value), TR ρ t tm → aY ρ l = some ys → (∀ p ∈ ps, p < tm.size) →
 TR ρ (cK t ps l id) ((ps.zip ys).foldl (fun tmps x => tmps.setIfInBounds x.1 x.2) tm) ∧ ((ps.zip ys).foldl (fun tmps x => tmps.setIfInBounds x.1 x.2) tm).size = tm.size
 | [], l, ys, t, tm, ht, _, _ => by
  have : cK t [] l id = t := by cases l <;> rfl
  rw [this]; exact ⟨ht, rfl⟩
 | p :: ps, [], ys, t, tm, ht, hd, _ => by cases hd; exact ⟨ht, rfl⟩
 | p :: ps, x :: l, ys, t, tm, ht, hd, hp => by
  obtain ⟨y, q, h1, h2, rfl⟩ := aW.1 hd
  simp only [cK, T.setK_eq, List.zip_cons_cons, List.foldl_cons]
  obtain ⟨k1, k2⟩ := mz ps l q _ (tm.setIfInBounds p y) (ht.put h1 (hp p (by simp))) h2 (fun p' hp' => by simpa using hp p' (by simp [hp']))
  exact ⟨k1, by simpa using k2⟩
structure qX (E : cg) : Prop where
 call : ∀ f args s v s', E.orc f args s = some (v, s') → fN E.P f args none s ⟨.returned v, none, s'⟩
theorem AG (hg : Good E.P ih) {args : List V} {up : Option Md} {s : S} {out : cX} (e : pB ih f args up s (E.P.funcs[f]?) = some out) : fN E.P f args up s out := by
 unfold pB at e
 split at e
 ·rename_i fn hf
  split at e
  ·rename_i c hb
   cases hn : (fn.name == "runtime.NumGoroutine") with
   | true => rw [hn] at e; cases e
   | false =>
    rw [hn] at e
    simp only [cond_false] at e
    rw [ln] at e
    intro ρ w ys h hd
    have hne : fn.name ≠ "runtime.NumGoroutine" := by simpa using hn
    refine ⟨fun w => by simp [callFunc, hf, hne, hb], fun cs hup => ?_⟩
    refine hg _ s out e ρ w _ cs h ⟨rfl, hf, ?_, ?_, fun _ => ?_, trivial, trivial, rfl, ?_⟩
    ·intro i v hv
     rw [yo] at hv
     have hl := bG hd
     split at hv
     ·rename_i hi
      obtain ⟨y, h1, h2⟩ := eC _ hd hv
      refine ⟨y, h1, ?_⟩
      have hi2 : i < ys.length := (List.getElem?_eq_some_iff.1 h2).1
      simp only [Nat.sub_zero] at h2
      show (ys.toArray ++ Array.replicate _ undef)[i]? = some y
      rw [Array.getElem?_append_left (by simpa using hi2)]
      simpa using h2
     ·rw [T.get_leaf] at hv; cases hv
    ·show fn.ntmps ≤ (ys.toArray ++ Array.replicate _ undef).size
     simp [hf]; omega
    ·simp [Frame.enter, hf, hb]
    ·cases up with
     | none => rfl
     | some u =>
      obtain ⟨c, cs', h1, h2⟩ := hup u rfl
      exact ⟨rfl, c, cs', h1, h2⟩
  ·cases e
 ·cases e
theorem Ae (hg : Good E.P ih) {l : Nat} {args : List V} {s : S} {out : cX} (e : uH E ih l args s (s.get l) = some out) : ML E.P l args s out := by
 intro ρ w lb ys h hl hd
 unfold uH at e
 split at e
 ·rename_i st pend f' t' ps a b d nt hs
  split at e
  ·rename_i fn hf
   cases hb : (Nat.ble fn.ntmps nt && Nat.beq ps.size args.length && ps.toList.all (fun p => Nat.blt p nt)) with
   | false => rw [hb] at e; cases e
   | true =>
    rw [hb] at e
    simp only [cond_true] at e
    simp only [Bool.and_eq_true] at hb
    rw [lV] at e
    obtain ⟨r, r1, r2, r3, r4, r5, r6, r7, r8, r9, r10⟩ := tI h hs hl
    have hlen := bG hd
    have hsz : ys.toArray.size = r.params.size := by
     have := Nat.eq_of_beq_eq_true hb.1.2
     rw [r5, this]; simpa using hlen
    have hy := run_yield (P := E.P) (args := ys.toArray) r1 hsz
    have hfold : (r.params.zip ys.toArray).foldl (fun tmps (t, a) => tmps.setIfInBounds t a) r.tmps = (ps.toList.zip ys).foldl (fun tmps x => tmps.setIfInBounds x.1 x.2) r.tmps := by
     rw [← Array.foldl_toList, r5]
     simp
    obtain ⟨k1, k2⟩ := mz ps.toList args ys t' r.tmps r8 hd (fun p hp => Nat.lt_of_lt_of_le (kY (List.all_eq_true.1 hb.2 p hp)) r9)
    rw [hfold] at hy
    refine ⟨_, _, _, _, hy, fun cs => ?_⟩
    rw [r4, r6, r7]
    refine hg _ s out e ρ w _ cs h ⟨rfl, hf, k1, ?_, fun _ => rfl, trivial, trivial, ⟨rfl, lb, hl, rfl⟩, rfl⟩
    exact Nat.le_trans (Nat.le_trans (Nat.le_of_ble_eq_true hb.1.1) r9) (Nat.le_of_eq k2.symm)
  ·cases e
 ·cases e
theorem xb (hE : iQ E) (hO : qX E) (hD : eo E) (hg : Good E.P ih) : Good E.P (aU E ih) := by
 intro j s out e
 cases j with
 | frame f fn t todo ds m up rd => exact ti hE hD hg e
 | call f args up =>
  simp only [aU] at e
  unfold mp at e
  split at e
  ·rename_i v s' hv
   cases up with
   | some u => cases hv
   | none =>
    cases e
    exact hO.call f args s v s' hv
  ·exact AG hg e
 | round l args => exact Ae hg e
theorem lT (hE : iQ E) (hO : qX E) (hD : eo E) : ∀ n, Good E.P (pi E n)
 | 0 => fun j s out e => by cases e
 | n + 1 => xb hE hO hD (lT hE hO hD n)
end
abbrev Ih := sd → S → Option cX
def zj (c : Nat → Ih) (R : Ih) : Prop := ∀ j s o, R j s = some o → ∃ n, ∀ m, n ≤ m → c m j s = some o
def bB {α : Type} (c : Nat → Ih) (R : Ih) (Φ : Ih → Option α) : Prop := ∀ x, Φ R = some x → ∃ n, ∀ m, n ≤ m → Φ (c m) = some x
section
variable {c : Nat → Ih} {R : Ih} {α β : Type}
theorem bB.const (x : Option α) : bB c R (fun _ => x) := fun _ h => ⟨0, fun _ _ => h⟩
theorem bB.bind {Φ : Ih → Option α} {Ψ : Ih → Option α → Option β} (h : bB c R Φ) (hn : ∀ ih, Ψ ih none = none) (hs : ∀ x, bB c R (fun ih => Ψ ih (some x))) : bB c R (fun ih => Ψ ih (Φ ih)) := by
 intro y hy
 cases hx : Φ R with
 | none => simp only [hx, hn] at hy; cases hy
 | some x =>
  simp only [hx] at hy
  obtain ⟨n1, h1⟩ := h x hx
  obtain ⟨n2, h2⟩ := hs x y hy
  refine ⟨max n1 n2, fun m hm => ?_⟩
  simp only [h1 m (by omega)]
  exact h2 m (by omega)
theorem bB.ih (h : zj c R) (j : sd) (s : S) : bB c R (fun ih => ih j s) := fun o ho => h j s o ho
theorem sJ (h : zj c R) {Φ : Ih → Option cX} (hΦ : bB c R Φ) (d : Option Tmp) (t : T V) (ds : List dT) (up : Option Md) {k : Ih → RK} (hk : ∀ t ds up s, bB c R (fun ih => k ih t ds up s)) : bB c R (fun ih => eH d t ds up (k ih) (Φ ih)) := by
 refine hΦ.bind (Ψ := fun ih x => eH d t ds up (k ih) x) (fun _ => rfl) fun o => ?_
 obtain ⟨e, u, s⟩ := o
 cases e with
 | returned v => simp only [eH, cV]; exact hk _ _ _ _
 | panicked c => exact bB.const _
theorem FA (h : zj c R) (rd : Option Nat) (d : Option Tmp) (t : T V) (ds : List dT) (up : Option Md) {k : Ih → RK} (hk : ∀ t ds up s, bB c R (fun ih => k ih t ds up s)) (x : Option Nx) :
 bB c R (fun ih => dX (bq ih) (dW ih) rd d t ds up (k ih) x) := by
 cases x with
 | none => exact bB.const _
 | some x =>
  cases x with
  | val v s => simp only [dX, cV]; exact hk _ _ _ _
  | skip s => simp only [dX, cV]; exact hk _ _ _ _
  | enter f args s => exact sJ h (bB.ih h _ _) d t ds up hk
  | round l args s => exact sJ h (bB.ih h _ _) d t ds up hk
  | defer df s => cases rd <;> simp only [dX, cV, Option.isSome_some, Option.isSome_none, cond_true, cond_false] <;> first | exact hk _ _ _ _ | exact bB.const _
  | recover s =>
   simp only [dX]
   unfold recovered
   split
   ·simp only [cV]; exact hk _ _ _ _
   ·simp only [cV]; exact hk _ _ _ _
   ·exact bB.const _
  | panic v s => exact bB.const _
theorem Fz (h : zj c R) {E : cg} (rd : Option Nat) (o : Oper) (t : T V) (ds : List dT) (up : Option Md) (s : S) {k : Ih → RK} (hk : ∀ t ds up s, bB c R (fun ih => k ih t ds up s)) (b : Option Bool) :
 bB c R (fun ih => lZ E (bq ih) (dW ih) rd o t ds up s (k ih) b) := by
 cases b with
 | none => exact bB.const _
 | some b => cases b with
  | true => exact FA h rd _ t ds up hk _
  | false => simp only [lZ, cV]; exact hk _ _ _ _
theorem vK (h : zj c R) {E : cg} {ops : Array Oper} (rd : Option Nat) : ∀ (l : List Oper) (t : T V) (ds : List dT) (up : Option Md) (s : S), bB c R (fun ih => gG E ops (bq ih) (dW ih) rd l t ds up s)
 | [], _, _, _, _ => bB.const _
 | o :: l, t, ds, up, s => Fz h rd o t ds up s (fun t ds up s => vK h rd l t ds up s) _
theorem FB (h : zj c R) {E : cg} (t : T V) (s : S) (o : Oper) (b : Option Bool) : bB c R (fun ih => kW E (bq ih) t s o b) := by
 cases b with
 | none => exact bB.const _
 | some b => cases b with
  | false => exact bB.const _
  | true =>
   simp only [kW]
   cases dV E t s o with
   | none => exact bB.const _
   | some x => cases x with
    | enter f args s =>
     simp only [pC]
     refine (bB.ih h (.call f args none) s).bind (Ψ := fun _ x => qF x) (fun _ => rfl) fun o => bB.const _
    | _ => exact bB.const _
theorem sI (h : zj c R) {E : cg} {ops : Array Oper} {ms : List Nat} {effs : Nat} {all : List (Nat × Oper)} (ds : List dT) (up : Option Md) : ∀ (es : List (Nat × Oper)) (hist : List (Nat × S)) (done : Nat) (t : T V) (s : S),
 bB c R (fun ih => gH E ops ms effs all (bq ih) ds up es hist done t s)
 | [], _, _, _, _ => bB.const _
 | (i, o) :: r, hist, done, t, s => by
  simp only [gH]
  cases dl E ops ms effs hist (ms.getD i 0) all done t s with
  | none => exact bB.const _
  | some x =>
   obtain ⟨d1, t1, s1⟩ := x
   simp only
   refine (FB h t1 s1 o (aM ops t1 o)).bind (Ψ := fun ih (x : Option JA) => match x with
    | some (.val v s') => bif Nat.ble s1.next s'.next && !(d1.testBit i) && effs.testBit i then mJ t1 o.dst (some v) fun t => gH E ops ms effs all (bq ih) ds up r ((i, s') :: hist) (Nat.lor d1 (Nat.pow 2 i)) t s' else none
    | some (.pan c s') => bif d1.testBit i then none else Lf ds up d1 all t1 c s' (dl E ops ms effs hist (eA ms i all) all d1 t1 s1)
    | none => none) (fun _ => rfl) fun x => ?_
   cases x with
   | val v s' =>
    simp only
    cases (Nat.ble s1.next s'.next && !(d1.testBit i) && effs.testBit i) with
    | false => exact bB.const _
    | true => simp only [cond_true, cV]; exact sI h ds up r _ _ _ _
   | pan c s' => exact bB.const _
theorem AC (h : zj c R) {E : cg} {ops : Array Oper} (t : T V) (ds : List dT) (up : Option Md) (s : S) : bB c R (fun ih => gI E ops (bq ih) (dW ih) t ds up s) := by
 unfold gI
 cases Le E.P ops with
 | none => exact bB.const _
 | some p => exact sI h ds up _ _ _ _ _
variable {f : FuncId} {fn : Func}
theorem gS (h : zj c R) (t : T V) (todo : List Item) (ds : List dT) (m : Md) (up : Option Md) (rd : Option Nat) (s : S) : bB c R (fun ih => fF ih f fn t todo ds m up rd s) := bB.ih h _ _
theorem mg (h : zj c R) (t : T V) (ds : List dT) (up : Option Md) (rd : Option Nat) (s : S) (jump : Option Code) : bB c R (fun ih => iU (fF ih f fn) t ds up rd s jump) := by
 unfold iU
 split
 ·split
  ·exact gS h _ _ _ _ _ _ _
  ·exact gS h _ _ _ _ _ _ _
  ·exact bB.const _
 ·split <;> exact bB.const _
theorem qD (h : zj c R) {Φ : Ih → Option fv} (hΦ : bB c R Φ) (k : List Item) (rd : Option Nat) : bB c R (fun ih => iE (fF ih f fn) k rd (Φ ih)) := by
 refine hΦ.bind (Ψ := fun ih x => iE (fF ih f fn) k rd x) (fun _ => rfl) fun x => ?_
 cases x <;> exact gS h _ _ _ _ _ _ _
theorem Dd (h : zj c R) {Φ : Ih → Option cX} (hΦ : bB c R Φ) (k : List Item) (t : T V) (ds : List dT) (up : Option Md) (rd : Option Nat) (d l : Nat) : bB c R (fun ih => kv (fF ih f fn) k t ds up rd d l (Φ ih)) := by
 refine hΦ.bind (Ψ := fun ih x => kv (fF ih f fn) k t ds up rd d l x) (fun _ => rfl) fun x => ?_
 obtain ⟨e, u, s⟩ := x
 cases e with
 | panicked c => exact gS h _ _ _ _ _ _ _
 | returned v =>
  simp only [kv]
  unfold qq
  split
  ·split
   ·exact bB.const _
   ·exact gS h _ _ _ _ _ _ _
  ·exact bB.const _
theorem xe (h : zj c R) (nt : Nat) (k : List Item) (t : T V) (ds : List dT) (up : Option Md) (rd : Option Nat) (s : S) (ps : Array Tmp) (a b : Code) (x : Option V) : bB c R (fun ih => ik f nt (fF ih f fn) (bq ih) k t ds up rd s ps a b x) := by
 unfold ik
 split
 ·split
  ·split
   ·exact Dd h (bB.ih h _ _) _ _ _ _ _ _ _
   ·exact bB.const _
  ·exact bB.const _
 ·exact bB.const _
theorem AE (h : zj c R) {E : cg} (co : Code) (k : List Item) (t : T V) (ds : List dT) (up : Option Md) (rd : Option Nat) (s : S) : bB c R (fun ih => cA co E f fn (fF ih f fn) (bq ih) (dW ih) k t ds up rd s) := by
 cases co <;> simp only [cA] <;> try exact gS h _ _ _ _ _ _ _
 case ret => exact mg h _ _ _ _ _ _
 case cond q a b =>
  unfold vT
  split
  ·exact gS h _ _ _ _ _ _ _
  ·exact bB.const _
 case exit id =>
  unfold px
  split
  ·exact gS h _ _ _ _ _ _ _
  ·exact mg h _ _ _ _ _ _
 case goto l =>
  unfold px
  split
  ·exact gS h _ _ _ _ _ _ _
  ·exact mg h _ _ _ _ _ _
 case rangeFunc g ps a b => exact xe h _ _ _ _ _ _ _ _ _ _ _
 case region id ops draws =>
  cases draws <;> simp only [] <;> cases gp ops fn.ntmps <;> simp only [cond_true, cond_false] <;> first | exact bB.const _ | exact qD h (vK h _ _ _ _ _ _) _ _ | exact qD h (AC h _ _ _ _) _ _
 case refuse => exact bB.const _
theorem AD (h : zj c R) {E : cg} (i : Item) (k : List Item) (t : T V) (ds : List dT) (up : Option Md) (rd : Option Nat) (s : S) : bB c R (fun ih => dD i E f fn (fF ih f fn) (bq ih) (dW ih) k t ds up rd s) := by
 cases i <;> simp only [dD] <;> try (first | exact gS h _ _ _ _ _ _ _ | exact bB.const _)
 case code co => exact AE h co _ _ _ _ _ _
 case beginRound =>
  cases rd with
  | none => exact bB.const _
  | some l =>
   simp only
   unfold tV
   split
   ·exact gS h _ _ _ _ _ _ _
   ·exact bB.const _
theorem vJ (h : zj c R) {E : cg} (ds : List dT) (t : T V) (m : Md) (up : Option Md) (rd : Option Nat) (s : S) : bB c R (fun ih => cn ds E fn (fF ih f fn) (bq ih) t m up rd s) := by
 cases ds with
 | nil => exact bB.const _
 | cons d ds =>
  cases d with
  | collected b =>
   simp only [cn]
   unfold iO
   split
   ·exact gS h _ _ _ _ _ _ _
   ·exact bB.const _
  | call fn cap args =>
   cases fn with
   | func g =>
    simp only [cn]
    refine (bB.ih h (.call g (args ++ cap) (some m)) s).bind (Ψ := fun ih x => jX (fF ih f _) t ds up rd x) (fun _ => rfl) fun x => ?_
    unfold jX
    split
    ·split
     ·exact bB.const _
     ·exact gS h _ _ _ _ _ _ _
    ·exact gS h _ _ _ _ _ _ _
    ·exact bB.const _
   | _ => exact bB.const _
theorem ny (h : zj c R) {E : cg} (j : sd) (s : S) : bB c R (fun ih => aU E ih j s) := by
 cases j with
 | frame f fn t todo ds m up rd =>
  simp only [aU]
  cases m with
  | run =>
   simp only [aV]
   cases todo with
   | nil => simp only [cQ]; exact mg h _ _ _ _ _ _
   | cons i k => simp only [cQ]; exact AD h i _ _ _ _ _ _
  | returning => simp only [aV]; exact vJ h _ _ _ _ _ _
  | panicking c => simp only [aV]; exact vJ h _ _ _ _ _ _
 | call f args up =>
  simp only [aU]
  unfold mp
  split
  ·exact bB.const _
  ·unfold pB
   split
   ·split
    ·rename_i fn _ _ co _
     cases hn : (fn.name == "runtime.NumGoroutine") with
     | true => exact bB.const _
     | false =>
      have : (fun ih : Ih => bif false then none else bi args 0 .leaf fun t => ih (.frame f fn t [.code co] [] .run up none) s) = fun ih => ih (.frame f fn (bi args 0 .leaf id) [.code co] [] .run up none) s := funext fun ih => ln args 0 .leaf _
      rw [this]
      exact bB.ih h _ _
    ·exact bB.const _
   ·exact bB.const _
 | round l args =>
  simp only [aU]
  unfold uH
  split
  ·split
   ·rename_i _ _ f0 t0 ps assign body _ nt _ _ fn _
    cases hn : (Nat.ble fn.ntmps nt && Nat.beq ps.size args.length && ps.toList.all (fun p => Nat.blt p nt)) with
    | false => exact bB.const _
    | true =>
     have : (fun ih : Ih => bif true then cK t0 ps.toList args fun t => ih (.frame f0 fn t [.code assign, .beginRound, .code body] [] .run none (some l)) s else none) = fun ih => ih (.frame f0 fn (cK t0 ps.toList args id) [.code assign, .beginRound, .code body] [] .run none (some l)) s := funext fun ih => lV ps.toList args t0 _
     rw [this]
     exact bB.ih h _ _
   ·exact bB.const _
  ·exact bB.const _
end
def lim (E : cg) : Ih := fun j s => open Classical in if h : ∃ o n, pi E n j s = some o then some h.choose else none
theorem uG (E : cg) : ∀ n j s o, pi E n j s = some o → pi E (n + 1) j s = some o
 | 0, _, _, _, h => by cases h
 | n + 1, j, s, o, h => by
  have hl : zj (fun _ => pi E (n + 1)) (pi E n) := fun j s o h => ⟨0, fun _ _ => uG E n j s o h⟩
  obtain ⟨k, hk⟩ := ny hl (E := E) j s o h
  exact hk k (Nat.le_refl _)
theorem rm (E : cg) {n m : Nat} (hm : n ≤ m) {j : sd} {s : S} {o : cX} (h : pi E n j s = some o) : pi E m j s = some o := by
 induction hm with
 | refl => exact h
 | step _ ih => exact uG E _ j s o ih
theorem Cj {E : cg} {n : Nat} {j : sd} {s : S} {o : cX} (h : pi E n j s = some o) : lim E j s = some o := by
 have hex : ∃ o n, pi E n j s = some o := ⟨o, n, h⟩
 unfold lim
 rw [dif_pos hex]
 obtain ⟨m, hm⟩ := hex.choose_spec
 have h1 := rm E (Nat.le_max_left n m) h
 have h2 := rm E (Nat.le_max_right n m) hm
 rw [h1] at h2
 rw [← Option.some.inj h2]
theorem vf {E : cg} {j : sd} {s : S} {o : cX} (h : lim E j s = some o) : ∃ n, pi E n j s = some o := by
 unfold lim at h
 split at h
 ·rename_i hex
  cases h
  exact hex.choose_spec
 ·cases h
theorem NP (E : cg) : zj (pi E) (lim E) := fun j s o h => by
 obtain ⟨n, hn⟩ := vf h
 exact ⟨n, fun m hm => rm E hm hn⟩
theorem ey (E : cg) (j : sd) (s : S) : lim E j s = aU E (lim E) j s := by
 cases h : aU E (lim E) j s with
 | some o =>
  obtain ⟨n, hn⟩ := ny (NP E) j s o h
  exact Cj (n := n + 1) (hn n (Nat.le_refl _))
 | none =>
  cases h2 : lim E j s with
  | none => rfl
  | some o =>
   obtain ⟨n, hn⟩ := vf h2
   cases n with
   | zero => cases hn
   | succ n =>
    have hl : zj (fun _ => lim E) (pi E n) := fun j s o h => ⟨0, fun _ _ => Cj h⟩
    obtain ⟨k, hk⟩ := ny hl (E := E) j s o hn
    have h3 : aU E (lim E) j s = some o := hk k (Nat.le_refl _)
    rw [h] at h3; cases h3
theorem Ly {E : cg} (hE : iQ E) (hO : qX E) (hD : eo E) : Good E.P (lim E) := fun j s o h => by
 obtain ⟨n, hn⟩ := vf h
 exact lT hE hO hD n j s o hn
section ops
variable {P : Program} {ρ : aq} {s : S} {w : World} {t : T V} {tm : Array Value}
theorem Gi (h : HR ρ s w) {b : Builtin} (hb : b = .len ∨ b = .cap ∨ b = .max ∨ b = .min) {ts : Array TypeId} {ty : TypeId} {consts : Array Bool} {args : List V} {ys : List Value} (hd : aY ρ args = some ys) {nx : Nx} (e : eg P b ts args s = some nx) :
 wx P ρ w s nx ((Go.builtin b ts ty consts ys.toArray).run P w) := by
 rcases hb with rfl | rfl | rfl | rfl
 ·simp only [eg] at e
  split at e
  ·rename_i t0 h0
   split at e
   ·rename_i x
    obtain ⟨X, hx, rfl⟩ := ml hd
    exact aZ h e fun v hv => vg h h0 hx hv
   ·cases e
  ·cases e
 ·simp only [eg] at e
  split at e
  ·rename_i t0 h0
   split at e
   ·rename_i x
    obtain ⟨X, hx, rfl⟩ := ml hd
    exact aZ h e fun v hv => wg h0 hx hv
   ·cases e
  ·cases e
 ·simp only [eg] at e
  refine aZ (m := Builtin.max_ ts ty ys.toArray) h e fun v hv => ?_
  cases args with
  | nil => cases hv
  | cons x r =>
   obtain ⟨X, q, hx, hr, rfl⟩ := aW.1 hd
   exact jS uW r q x X v hr hx hv
 ·simp only [eg] at e
  refine aZ (m := Builtin.min_ ts ty ys.toArray) h e fun v hv => ?_
  cases args with
  | nil => cases hv
  | cons x r =>
   obtain ⟨X, q, hx, hr, rfl⟩ := aW.1 hd
   exact jS uV r q x X v hr hx hv
theorem FP (h : HR ρ s w) (ht : TR ρ t tm) {src dst : TypeId} (hdst : ∀ el, P.underlying dst ≠ some (.slice el)) {x : Operand} {nx : Nx} (e : fp P s src dst (eval t x) = some nx) :
 wx P ρ w s nx ((do pure (Next.value (← convert src dst (rv tm x))) : Sem Next).run P w) := by
 unfold fp at e
 split at e
 ·rename_i v hv
  have dv := am ht hv
  generalize rv tm x = X at *
  unfold ff at e
  split at e
  ·rename_i y s' hc
   cases e
   unfold iN at hc
   split at hc
   ·rename_i ds hs
    split at hc
    ·rename_i k hd
     split at hc
     ·rename_i j n
      cases hc; cases dv
      have : (convert src dst (.int j n)).run P w = .ok (.int k (k.wrap n)) w := by
       cases ds <;> simp [convert, aj hs, aj hd, Conv.intToInt]
      exact ⟨_, .int k (k.wrap n), rfl, by simp [this], by rw [aS]; rfl⟩
     ·cases hc
    ·rename_i hd
     obtain ⟨rfl, y', h1, h2⟩ := si h hs hd dv hc
     exact ⟨_, y', rfl, by simp [h2], h1⟩
    ·rename_i el hd
     exact absurd hd (hdst el)
    ·cases hc
   ·cases hc
  ·cases e
 ·cases e
theorem xZ {E : cg} (h : HR ρ s w) (ht : TR ρ t tm) (o : Oper) (hk : al E.P o.op ≤ 1) {nx : Nx} (e : dV E t s o = some nx) : wx E.P ρ w s nx ((execOp (rv tm) o).run E.P w) := by
 obtain ⟨dst, op, type, pos, after, guard⟩ := o
 unfold dV at e
 simp only at e hk
 cases op <;> simp only [az] at e <;> try (cases e; done)
 case move x => exact qo h ht e
 case assign x => exact qo h ht e
 case pick c a b => exact qG h ht e
 case alloc elem => simp [al] at hk
 case box elem x => simp [al] at hk
 case build ty parts => exact oN h ht e
 case buildSlice ty len parts => simp [al] at hk
 case load ty x => exact qI h ht e
 case store ty x y => simp [al] at hk
 case nilCheck x => exact lq h ht e
 case binOp op ty x y z => exact sN h ht e
 case unOp op ty x => exact vN h ht e
 case convert src dst x =>
  refine FP h ht (fun el hu => ?_) e
  simp [al, hu] at hk
 case makeInterface ty x => exact mD h ht e
 case makeFunc fn first cap => exact nH h ht e
 case makeMap ty r => simp [al] at hk
 case makeSlice ty l c => simp [al] at hk
 case slice ty x lo hi mx => exact oK h ht e
 case fieldAddr ty x f => exact kK h ht e
 case field ty x f => exact oM h ht e
 case indexAddr ty x i => exact kJ h ht e
 case index ty x i => exact oL h ht e
 case lookup ty x k ok => exact nJ h ht e
 case mapUpdate ty m k x => simp [al] at hk
 case insert ty m k x => simp [al] at hk
 case typeAssert x xt ty ok => exact nM h ht e
 case extract x i => exact mE h ht e
 case call c =>
  unfold bx at e
  split at e
  ·rename_i args ha
   obtain ⟨ys, y1, y2⟩ := wn ht ha
   split at e
   ·rename_i b hc
    have hb : b = .len ∨ b = .cap ∨ b = .max ∨ b = .min := by
     simp only [al, hc] at hk
     cases b <;> simp at hk ⊢
    simp only [execOp, resolve, hc, Sem.run_bind, Sem.run_pure, Result.andThen_ok, invoke, y2]
    exact Gi h hb y1 e
   ·rename_i f hc
    simp [al, hc] at hk
   ·cases e
  ·cases e
 case defer c => simp [al] at hk
 case panic x => simp [al] at hk
end ops
section ops
variable {P : Program} {ρ : aq} {s : S} {w : World} {t : T V} {tm : Array Value}
def Jz (P : Program) (ρ : aq) (w : World) (mk : Nat → V) (B : bP) (m : Sem Next) : Prop :=
 ∃ y obj lim n, m.run P w = .ok (.value y) ({ w with drawn := n }.alloc obj) ∧
  ∀ ρ' f, ρ.le ρ' → ρ' f 0 = some ⟨w.heap.size, 0, lim⟩ → (∀ v, 1 ≤ v → ρ' f v = none) → den ρ' (mk f) = some y ∧ ∀ w' : World, w'.heap[w.heap.size]? = some obj → wC ρ' w' f B
theorem rV {ρ' : aq} {f : Nat} {lim b : Nat} {cs : List V} {ys : Array Value} {sb : Bool} {el e' : TypeId} {fz : Nat × Nat} (hd : aY ρ cs = some (ys.toList.take cs.length)) (hfz : (sb = false → fz = (0, 0)) ∧ ∀ i, i < ys.size → ¬ (fz.1 ≤ i ∧ i < fz.2))
 (hl : ρ.le ρ') (h0 : ρ' f 0 = some ⟨b, 0, lim⟩) (h1 : ∀ v, 1 ≤ v → ρ' f v = none) (hlim : lim = ys.size) {w' : World} (hw : w'.heap[b]? = some (.cells ys e' fz)) : wC ρ' w' f (.cells el sb 1 [⟨0, 0, cs⟩]) := by
 refine ⟨h1, fun u hu => ?_⟩
 simp at hu; subst hu
 refine ⟨Nat.zero_lt_one, _, ys, e', fz, h0, hw, Nat.le_refl _, by simp [hlim], hfz, fun i x hx => ?_⟩
 obtain ⟨y, hy, hy'⟩ := eC i hd hx
 refine ⟨y, bA hl _ _ hy, ?_⟩
 have hi : i < cs.length := (List.getElem?_eq_some_iff.1 hx).1
 rw [List.getElem?_take_of_lt hi, Array.getElem?_toList] at hy'
 simpa using hy'
theorem CL {elem : TypeId} {v : V} {y : Value} (hv : den ρ v = some y) : Jz P ρ w (fun f => .ptr ⟨f, 0, 0⟩) (.cells elem false 1 [⟨0, 0, v.cells⟩]) (do pure (Next.value (.pointer (some (← newVar elem y))))) := by
 refine ⟨_, _, y.cells.size, w.drawn, by simp [newVar, newRow]; exact ⟨rfl, rfl⟩, fun ρ' f hl h0 h1 => ⟨by simp [den, iq, h0], fun w' hw => ?_⟩⟩
 exact rV (by rw [eB hv, ← mn hv, List.take_of_length_le (by simp)]) ⟨fun _ => rfl, by simp⟩ hl h0 h1 rfl hw
theorem Lt {elem : TypeId} {cs : List V} {ys : Array Value} (hd : aY ρ cs = some ys.toList) {len sz cap : Nat} (hl : len ≤ cap) (hsz : 0 < sz) :
 Jz P ρ w (fun f => .slice ⟨f, 0, 0⟩ 0 len (some cap) sz) (.cells elem false 1 [⟨0, 0, cs⟩]) (do pure (Next.value (.slice (some (← newRow elem ys)) len cap))) := by
 have hlen : cs.length = ys.size := by have := bG hd; simpa using this.symm
 refine ⟨_, _, ys.size, w.drawn, by simp [newRow]; exact ⟨rfl, rfl⟩, fun ρ' f hle h0 h1 => ⟨?_, fun w' hw => ?_⟩⟩
 ·exact dN (a := ⟨f, 0, 0⟩) (cap := some cap) h0 (Nat.zero_le _) (Nat.zero_le _) hl hsz
 ·exact rV (by rw [hd, hlen, List.take_of_length_le (by simp)]) ⟨fun _ => rfl, by simp⟩ hle h0 h1 rfl hw
def rZ (P : Program) (ρ : aq) (w : World) (d : S → Option Nx) (m : Sem Next) : Prop :=
 ∃ mk B, (∀ s', d s' = some (.val (mk s'.next) (s'.alloc B))) ∧ Jz P ρ w mk B m
theorem Jz.congr {mk : Nat → V} {B : bP} {m m' : Sem Next} (h : Jz P ρ w mk B m) (e : m'.run P w = m.run P w) : Jz P ρ w mk B m' := by
 obtain ⟨y, obj, lim, n, h1, h2⟩ := h
 exact ⟨y, obj, lim, n, e.trans h1, h2⟩
theorem AM {elem : TypeId} {nx : Nx} (e : eJ P s elem = some nx) : rZ P ρ w (fun s => eJ P s elem) (do pure (Next.value (← Instr.alloc elem true (.tuple #[])))) := by
 unfold eJ at e
 split at e
 ·rename_i z hz
  obtain ⟨y, i, hi, hzi, hd⟩ := eM hz
  refine ⟨_, _, fun s' => by simp only [eJ, hz, sD, bS, bV], (CL (P := P) (w := w) (elem := elem) (hd ρ)).congr ?_⟩
  simp only [Instr.alloc, Sem.run_bind, fQ hi hzi, Result.andThen_ok, Sem.run_pure]
  simp [newVar, newRow]
 ·cases e
theorem FI (ht : TR ρ t tm) {elem : TypeId} {x : Operand} {nx : Nx} (e : nL s elem (eval t x) = some nx) : rZ P ρ w (fun s => nL s elem (eval t x)) (do pure (Next.value (← Instr.box elem (rv tm x)))) := by
 unfold nL at e
 split at e
 ·rename_i z hz
  refine ⟨_, _, fun s' => by simp only [nL, hz, sD, bS, bV], (CL (P := P) (w := w) (elem := elem) (am ht hz)).congr ?_⟩
  simp only [Instr.box, Sem.run_bind, Sem.run_pure]
  simp [newVar, newRow]
 ·cases e
theorem vO {ty : TypeId} : rZ P ρ w (fun s => some (.val (.map s.next) (s.alloc (.map [] 0)))) (do pure (Next.value (← Instr.makeMap ty none))) := by
 refine ⟨fun f => .map f, .map [] 0, fun s' => rfl, .map (some w.heap.size), .map #[] 0, 0, w.drawn, by simp [Instr.makeMap], fun ρ' f hl h0 h1 => ⟨by simp [den, h0], fun w' hw => ⟨_, #[], h0, hw, trivial⟩⟩⟩
def Ia (P : Program) (ρ : aq) (w : World) (d : S → Option Nx) (m : Sem Value) : Prop :=
 ∃ (el : TypeId) (cs : List V) (ys : Array Value) (len cap sz : Nat), (∀ s', d s' = some (.val (.slice (bS s' el cs).1 0 len (some cap) sz) (bS s' el cs).2)) ∧ aY ρ cs = some ys.toList ∧ len ≤ cap ∧ 0 < sz ∧
  m.run P w = (do pure (.slice (some (← newRow el ys)) len cap) : Sem Value).run P w
theorem Ia.made {d : S → Option Nx} {m : Sem Value} (h : Ia P ρ w d m) : rZ P ρ w d (do pure (Next.value (← m))) := by
 obtain ⟨el, cs, ys, len, cap, sz, h1, h2, h3, h4, h5⟩ := h
 refine ⟨_, _, fun s' => by rw [h1]; simp only [bS, bV], (Lt (P := P) (w := w) (elem := el) h2 h3 h4).congr ?_⟩
 simp only [Sem.run_bind] at h5 ⊢
 rw [h5]
 simp [newRow]
theorem xk (ht : TR ρ t tm) {ty : TypeId} {l c : Operand} {nx : Nx} (e : eQ P s ty (eU (eval t l)) (eU (eval t c)) = some nx) :
 Ia P ρ w (fun s => eQ P s ty (eU (eval t l)) (eU (eval t c))) (Instr.makeSlice ty (rv tm l) (rv tm c)) := by
 unfold eQ at e
 split at e
 ·rename_i el hu
  split at e
  ·rename_i l' hl
   split at e
   ·rename_i c' hc
    obtain ⟨k1, e1⟩ := gj ht hl
    obtain ⟨k2, e2⟩ := gj ht hc
    split at e
    ·rename_i z hz
     obtain ⟨zv, i, hi, hzi, hden⟩ := eM hz
     split at e
     ·rename_i n hn
      cases hb : (Nat.ble l' c' && Nat.ble c' 2199023255552 && !(Nat.beq n 0) && Nat.beq z.cells.length n && mX P el c') with
      | false => simp [hb] at e
      | true =>
       have hbb := hb
       simp only [hb, cond_true] at e
       simp only [Bool.and_eq_true] at hb
       obtain ⟨⟨⟨⟨b1, b2⟩, b3⟩, b4⟩, b5⟩ := hb
       have b1 := Nat.le_of_ble_eq_true b1
       have b2 := Nat.le_of_ble_eq_true b2
       have b4 := Nat.eq_of_beq_eq_true b4
       have b3 : 0 < n := by
        rcases Nat.eq_zero_or_pos n with h0 | h0
        ·subst h0; simp at b3
        ·exact h0
       have b5 : i.bytes * c' ≤ 100000000000000 := by
        unfold mX at b5
        simp only [hi] at b5
        exact Nat.le_of_ble_eq_true b5
       have hzc := eB (hden ρ)
       have hzl : zv.cells.toList.length = n := by have := bG hzc; omega
       have hrow := vS zv.cells.toList n hzl b3 c'
       have hd : aY ρ (List.replicate c' z.cells).flatten = some ((List.replicate c' zv.cells.toList).flatten.toArray).toList := by simpa using gU hzc c'
       have hrun : (Instr.makeSlice ty (rv tm l) (rv tm c)).run P w = (do pure (.slice (some (← newRow el (List.replicate c' zv.cells.toList).flatten.toArray)) l' c') : Sem Value).run P w := by
        have hsz := cI hn w
        have w1 := lD l' (by omega)
        have w2 := lD c' b2
        simp only [Int.ofNat_eq_natCast] at w1 w2
        have hA : ∀ k n, (asInt (.int k n)).run P w = .ok n w := fun k n => by simp [asInt, asIntOf]
        have hrow2 : Array.map (fun x => zv.cells[x % zv.cells.size]!) (Array.range (c' * n)) = (List.replicate c' zv.cells.toList).flatten.toArray := by
         apply Array.toList_inj.1
         rw [← hrow]
         simp [Array.toList_range]
        have hbig : (decide ((c' : Int) < 0) || decide ((i.bytes : Int) * (c' : Int) > 2 ^ 48)) = false := by
         have g1 : ¬ ((c' : Int) < 0) := by omega
         have g2 : ¬ ((i.bytes : Int) * (c' : Int) > 2 ^ 48) := by
          have e : (i.bytes : Int) * (c' : Int) = ((i.bytes * c' : Nat) : Int) := (Int.natCast_mul _ _).symm
          rw [e]
          generalize i.bytes * c' = q at b5
          have : (2 : Int) ^ 48 = 281474976710656 := rfl
          omega
         rw [decide_eq_false g1, decide_eq_false g2]; rfl
        have hl0 : decide ((l' : Int) < 0) = false := by simp
        have hlc : decide ((l' : Int) > (c' : Int)) = false := by simp; omega
        have hti : (typeInfo el).run P w = .ok i w := by simp [typeInfo, hi]
        have hzr := fQ hi hzi w
        simp only [Instr.makeSlice, Sem.run_bind, aj hu, Result.andThen_ok, e1, e2, hA, Sem.run_pure, hti, Int.ofNat_eq_natCast, w1, w2, Int.toNat_natCast]
        rw [if_neg (by rw [hbig, hl0, hlc]; simp)]
        simp only [Sem.run_bind, run_askRoom, Result.andThen_ok, hsz]
        by_cases hc0 : c' * n = 0
        ·rw [if_pos hc0]
         have g : ∀ f : Nat → Value, Array.map f (Array.range 0) = #[] := fun f => by simp
         simp only [Sem.run_bind, Sem.run_pure, Result.andThen_ok, ← hrow2, hc0, g]
        ·rw [if_neg hc0]
         simp only [Sem.run_bind, hzr, Result.andThen_ok, Sem.run_pure, hrow2]
       have hb' : (Nat.ble l' c' && Nat.ble c' 2199023255552 && !(Nat.beq n 0) && Nat.beq z.cells.length n && mX P el c') = true := hbb
       exact ⟨el, _, _, l', c', n, fun s' => by simp only [eQ, hu, hl, hc, hz, hn, hb', cond_true, bS, bV], hd, b1, b3, hrun⟩
     ·cases e
    ·cases e
   ·cases e
  ·cases e
 ·cases e
theorem rS (ht : TR ρ t tm) {ty : TypeId} {len : Nat} {parts : Array (Nat × Operand)} {nx : Nx} (e : bt P s ty len (dR t parts.toList) = some nx) :
 Ia P ρ w (fun s => bt P s ty len (dR t parts.toList)) (Instr.buildSlice ty len (parts.map fun (i, x) => (i, rv tm x))) := by
 unfold bt at e
 split at e
 ·rename_i el hu
  split at e
  ·rename_i l hl
   have hl0 := hl
   have hp := jm ht hl
   have hpl : (parts.toList.map fun (i, x) => (i, rv tm x)) = (parts.map fun (i, x) => (i, rv tm x)).toList := by simp
   rw [hpl] at hp
   split at e
   ·rename_i z hz
    obtain ⟨zv, it, hi, hzi, hden⟩ := eM hz
    have hzc := eB (hden ρ)
    split at e
    ·rename_i n hn
     cases hb : (Nat.ble (len * n) 10000 && !(Nat.beq n 0) && Nat.beq z.cells.length n) with
     | false => rw [hb] at e; cases e
     | true =>
      have hbb := hb
      rw [hb] at e
      simp only [cond_true] at e
      simp only [Bool.and_eq_true] at hb
      have b1 := Nat.le_of_ble_eq_true hb.1.1
      have b2 : 0 < n := by
       rcases Nat.eq_zero_or_pos n with h0 | h0
       ·subst h0; simp at hb
       ·exact h0
      have b3 := Nat.eq_of_beq_eq_true hb.2
      unfold lh at e
      split at e
      ·rename_i cs hcs
       have hzl : zv.cells.toList.length = n := by have := bG hzc; omega
       have hrow := vS zv.cells.toList n hzl b2 len
       have hd : aY ρ (List.replicate len z.cells).flatten = some ((List.replicate len zv.cells.toList).flatten.toArray).toList := by simpa using gU hzc len
       obtain ⟨zs, hz1, hz2⟩ := jT (place := fun i => some (i * n, n)) (fun i x hx => hx) hp hd hcs
       have hrow2 : Array.map (fun x => zv.cells[x % zv.cells.size]!) (Array.range (len * n)) = (List.replicate len zv.cells.toList).flatten.toArray := by
        apply Array.toList_inj.1
        rw [← hrow]
        simp [Array.toList_range]
       have hrun : (Instr.buildSlice ty len (parts.map fun (i, x) => (i, rv tm x))).run P w = (do pure (.slice (some (← newRow el zs)) len len) : Sem Value).run P w := by
        simp only [Instr.buildSlice, Sem.run_bind, aj hu, Result.andThen_ok, cI hn]
        rw [if_neg (by omega)]
        by_cases hc0 : len * n = 0
        ·rw [if_pos hc0]
         have g : ∀ f : Nat → Value, Array.map f (Array.range 0) = #[] := fun f => by simp
         rw [← hrow2, hc0, g] at hz1
         simp only [Sem.run_bind, Sem.run_pure, Result.andThen_ok, hc0, g, hz1]
        ·rw [if_neg hc0]
         simp only [Sem.run_bind, fQ hi hzi, Result.andThen_ok, Sem.run_pure, hrow2, hz1]
       exact ⟨el, _, _, len, len, n, fun s' => by simp only [bt, hu, hl0, hz, hn, hbb, cond_true, lh, hcs, bS, bV], hz2, Nat.le_refl _, b2, hrun⟩
      ·cases e
    ·cases e
   ·cases e
  ·cases e
 ·cases e
theorem Dj (ht : TR ρ t tm) {src dst el : TypeId} (hdst : P.underlying dst = some (.slice el)) {x : Operand} {nx : Nx} (e : fp P s src dst (eval t x) = some nx) :
 rZ P ρ w (fun s => fp P s src dst (eval t x)) (do pure (Next.value (← convert src dst (rv tm x)))) := by
 unfold fp at e
 split at e
 ·rename_i v hv
  have dv := am ht hv
  generalize rv tm x = X at *
  unfold ff iN at e
  cases hs : P.underlying src with
  | none => simp [hs] at e
  | some ds =>
   simp only [hs, hdst] at e
   cases v <;> simp only [nV] at e <;> try (cases e; done)
   rename_i l
   cases ds <;> simp only at e <;> try (cases e; done)
   cases hb : fE P el with
   | false => rw [hb] at e; cases e
   | true =>
    cases dv
    have hrun := run_bytes_of_string w src dst el (ar l) hs hdst (jl hb)
    rw [eh] at hrun
    have hge := grownCap_ge w l.length 0 el
    generalize hc : grownCap w l.length 0 el = cap at *
    have hsz : (bytesRow (ar l) cap).size = cap := by
     simp only [bytesRow, Array.size_append, Array.size_map, Array.size_replicate, eh]
     have : (ar l).data.size = l.length := eh l
     omega
    rw [hsz] at hrun
    have hd' : aY ρ (l.map mG) = some ((bytesRow (ar l) cap).toList.take (l.map mG).length) := by
     rw [oo]
     have : (ar l).data.toList.length = l.length := by simp [ar]
     simp [bytesRow, this]
    refine ⟨fun f => .slice ⟨f, 0, 0⟩ 0 l.length none 1, .cells el true 1 [⟨0, 0, l.map mG⟩], fun s' => ?_, _, _, cap, w.drawn + 1, by simp only [Sem.run_bind, hrun, Result.andThen_ok, Sem.run_pure]; rfl, fun ρ' f hl h0 h1 => ⟨?_, fun w' hw => ?_⟩⟩
    ·simp only [fp, hv, ff, iN, hs, hdst, nV, hb, cond_true, bV]
    ·have := dN (a := ⟨f, 0, 0⟩) (z := 0) (len := l.length) (cap := none) (sz := 1) h0 (by simp) (Nat.zero_le _) (by simpa [cC] using hge) Nat.one_pos
     rw [this]
     simp [cC, bm]
    ·exact rV hd' ⟨(fun h => by cases h), fun i hi => by rw [hsz] at hi; simp; omega⟩ hl h0 h1 hsz.symm hw
 ·cases e
theorem IL {E : cg} (ht : TR ρ t tm) (o : Oper) (hk : al E.P o.op = 2) {nx : Nx} (e : dV E t s o = some nx) : rZ E.P ρ w (fun s => dV E t s o) (execOp (rv tm) o) := by
 obtain ⟨dst, op, type, pos, after, guard⟩ := o
 unfold dV at e ⊢
 simp only at e hk ⊢
 cases op <;> simp only [az] at e ⊢ <;> try (cases e; done)
 case alloc elem => exact AM e
 case box elem x => exact FI ht e
 case buildSlice ty len parts => exact (rS ht e).made
 case makeMap ty r =>
  cases r with
  | none => exact vO
  | some _ => cases e
 case makeSlice ty l c => exact (xk ht e).made
 case convert src dst x =>
  cases hu : E.P.underlying dst with
  | none => simp [al, hu] at hk
  | some d => cases d <;> simp [al, hu] at hk; exact Dj ht hu e
 case binOp op ty x y z => simp only [al] at hk; cases hb : eE op <;> simp [hb] at hk
 case call c => simp only [al] at hk; split at hk <;> simp at hk
 all_goals simp [al] at hk
end ops
section ops
variable {s : S} {t t' : T V}
theorem iK : ∀ {l : List Operand}, (∀ x ∈ l, eval t x = eval t' x) → evals t l = evals t' l
 | [], _ => rfl
 | x :: r, h => by
  have ih := iK (l := r) fun y hy => h y (List.mem_cons_of_mem _ hy)
  simp only [evals, h x (by simp), ih]
theorem mh : ∀ {l : List (Nat × Operand)}, (∀ x ∈ l, eval t x.2 = eval t' x.2) → dR t l = dR t' l
 | [], _ => rfl
 | (i, x) :: r, h => by
  have ih := mh (l := r) fun y hy => h y (List.mem_cons_of_mem _ hy)
  simp only [dR, h (i, x) (by simp), ih]
theorem nC {x : Option Operand} (h : ∀ y, x = some y → eval t y = eval t' y) : gm t x = gm t' x := by
 cases x with
 | none => rfl
 | some y => simp only [gm, h y rfl]
theorem FG {E : cg} (o : Oper) (h : ∀ x ∈ o.op.operands, eval t x = eval t' x) : dV E t s o = dV E t' s o := by
 obtain ⟨dst, op, type, pos, after, guard⟩ := o
 unfold dV
 simp only at h ⊢
 cases op <;> simp only [Op.operands] at h <;> simp only [az] <;> try rfl
 case move x => rw [h x (by simp)]
 case assign x => rw [h x (by simp)]
 case pick c a b =>
  have h1 : ∀ q : Bool, eval t (bif q then a else b) = eval t' (bif q then a else b) := fun q => by cases q <;> exact h _ (by simp)
  simp only [ip, h c (by simp), h1]
 case box elem x => rw [h x (by simp)]
 case build ty parts => rw [mh fun x hx => h x.2 (by simp; exact ⟨x.1, by simpa using hx⟩)]
 case buildSlice ty len parts => rw [mh fun x hx => h x.2 (by simp; exact ⟨x.1, by simpa using hx⟩)]
 case load ty x => rw [h x (by simp)]
 case store ty x y => rw [h x (by simp), h y (by simp)]
 case nilCheck x => rw [h x (by simp)]
 case binOp op ty x y z => rw [h x (by simp), h y (by simp)]
 case unOp op ty x => rw [h x (by simp)]
 case convert src dst x => rw [h x (by simp)]
 case makeInterface ty x => rw [h x (by simp)]
 case makeFunc fn first cap => rw [iK fun x hx => h x (by simp; left; simpa using hx), iK (l := cap.toList) fun x hx => h x (by simp; right; simpa using hx)]
 case makeMap ty r => cases r <;> rfl
 case makeSlice ty l c => rw [h l (by simp), h c (by simp)]
 case slice ty x lo hi mx =>
  rw [h x (by simp), nC (x := lo) fun y hy => h y (by subst hy; simp), nC (x := hi) fun y hy => h y (by subst hy; simp), nC (x := mx) fun y hy => h y (by subst hy; simp)]
 case fieldAddr ty x f => rw [h x (by simp)]
 case field ty x f => rw [h x (by simp)]
 case indexAddr ty x i => rw [h x (by simp), h i (by simp)]
 case index ty x i => rw [h x (by simp), h i (by simp)]
 case lookup ty x k ok => rw [h x (by simp), h k (by simp)]
 case mapUpdate ty m k x => rw [h m (by simp), h k (by simp), h x (by simp)]
 case insert ty m k x => rw [h m (by simp), h k (by simp), h x (by simp)]
 case typeAssert x xt ty ok => rw [h x (by simp)]
 case extract x i => rw [h x (by simp)]
 case call c =>
  rw [iK fun x hx => h x (by simp only [Call.operands]; exact Array.mem_append.2 (.inr (by simpa using hx)))]
  unfold bx
  split
  ·split
   ·rfl
   ·rename_i f hc; rw [h f (by simp [Call.operands, hc])]
   ·rfl
  ·rfl
 case defer c =>
  rw [iK fun x hx => h x (by simp only [Call.operands]; exact Array.mem_append.2 (.inr (by simpa using hx)))]
  unfold qM
  split
  ·split
   ·rename_i f hc; rw [h f (by simp [Call.operands, hc])]
   ·rfl
  ·rfl
 case panic x => rw [h x (by simp)]
end ops
variable {t : T V} {h : T bP} {n n' : Nat}
theorem bh {x y : Option V} (hxy : x = y) {v : V} {s1 : S} (e : bc ⟨h, n⟩ x = some (.val v s1)) : bc ⟨h, n'⟩ y = some (.val v ⟨h, n'⟩) := by
 subst hxy
 cases x with
 | none => cases e
 | some u => cases e; rfl
theorem At {P : Program} {ty : TypeId} {a : Ad} : loadVar P ⟨h, n⟩ ty a = loadVar P ⟨h, n'⟩ ty a := rfl
theorem uY {a : Ad} {k : Nat} : loadCells ⟨h, n⟩ a k = loadCells ⟨h, n'⟩ a k := rfl
theorem IW {P : Program} {ty : TypeId} {x : V} : mK P ty ⟨h, n⟩ x = mK P ty ⟨h, n'⟩ x := rfl
theorem yG {E : cg} (o : Oper) (hk : al E.P o.op ≤ 1) {v : V} {s1 : S} (e : dV E t ⟨h, n⟩ o = some (.val v s1)) : dV E t ⟨h, n'⟩ o = some (.val v ⟨h, n'⟩) := by
 obtain ⟨dst, op, type, pos, after, guard⟩ := o
 unfold dV at e ⊢
 simp only at e hk ⊢
 cases op <;> simp only [az] at e ⊢ <;> try (cases e; done)
 case move x => exact bh rfl e
 case assign x => exact bh rfl e
 case pick c a b =>
  unfold ip at e ⊢
  split at e
  ·exact bh rfl e
  ·cases e
 case build ty parts => exact bh rfl e
 case load ty x =>
  unfold eI at e ⊢
  split at e
  ·exact bh At e
  ·cases e
 case nilCheck x => exact bh rfl e
 case binOp op ty x y z => exact bh rfl e
 case unOp op ty x => exact bh rfl e
 case convert src dst x =>
  unfold fp at e ⊢
  split at e
  ·rename_i x' hx'
   unfold ff at e ⊢
   unfold iN at e ⊢
   cases hs : E.P.underlying src with
   | none => simp [hs] at e
   | some ds =>
    cases hd : E.P.underlying dst with
    | none => simp [hs, hd] at e
    | some dd =>
     simp only [hs, hd] at e ⊢
     cases dd <;> simp only at e ⊢ <;> try (cases e; done)
     case int k => cases x' <;> simp only at e ⊢ <;> first | (cases e; done) | (cases e; rfl)
     case string =>
      unfold xK at e ⊢
      cases x' <;> simp only at e ⊢ <;> try (first | (cases e; done) | (cases e; rfl))
      case slice a z len cap sz =>
       rw [uY (n' := n')] at e
       cases ds <;> simp only at e ⊢ <;> try (cases e; done)
       rename_i el
       split at e
       ·rename_i y s2 hy
        cases hb : fE E.P el with
        | false => rw [hb] at hy; cases hy
        | true =>
         rw [hb] at hy
         simp only [cond_true] at hy ⊢
         cases hz0 : Nat.beq sz 0 with
         | true => rw [hz0] at hy; cases hy
         | false =>
         rw [hz0] at hy
         simp only [cond_false] at hy ⊢
         split at hy
         ·rename_i l hl; cases hy; cases e; rfl
         ·cases hy
       ·cases e
      case nilslice =>
       cases ds <;> simp only at e ⊢ <;> try (cases e; done)
       rename_i el
       cases hb : fE E.P el with
       | false => rw [hb] at e; cases e
       | true => rw [hb] at e; cases e; rfl
     case slice el => simp [al, hd] at hk
  ·cases e
 case makeInterface ty x => exact bh rfl e
 case makeFunc fn first cap => exact bh rfl e
 case slice ty x lo hi mx => exact bh rfl e
 case fieldAddr ty x f => exact bh rfl e
 case field ty x f => exact bh rfl e
 case indexAddr ty x i => exact bh rfl e
 case index ty x i => exact bh rfl e
 case lookup ty x k ok => exact bh rfl e
 case typeAssert x xt ty ok => exact bh rfl e
 case extract x i => exact bh rfl e
 case call c =>
  unfold bx at e ⊢
  split at e
  ·rename_i args ha
   split at e
   ·rename_i b hc
    have hb : b = .len ∨ b = .cap ∨ b = .max ∨ b = .min := by
     simp only [al, hc] at hk
     cases b <;> simp at hk ⊢
    rcases hb with rfl | rfl | rfl | rfl <;> simp only [eg] at e ⊢
    ·split at e
     ·split at e
      ·exact bh IW e
      ·cases e
     ·cases e
    ·split at e
     ·split at e
      ·exact bh rfl e
      ·cases e
     ·cases e
    ·exact bh rfl e
    ·exact bh rfl e
   ·rename_i f hc
    simp [al, hc] at hk
   ·cases e
  ·cases e
 all_goals (first | (simp [al] at hk; done) | (exfalso; revert hk; simp [al]))
end Go.AI
