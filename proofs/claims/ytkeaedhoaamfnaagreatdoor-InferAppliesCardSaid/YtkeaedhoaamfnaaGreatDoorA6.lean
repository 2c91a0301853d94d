/- The evaluator by which runs of the program are reckoned, and that it is sound: part 6. No conditions beyond those of the row. -/
import Derived.Test.YtkeaedhoaamfnaaGreatDoorA5
set_option linter.unusedVariables false
set_option linter.unusedSimpArgs false
noncomputable section
/- One round of the evaluator is sound. -/
namespace Go.AI
theorem settle_sound {ρ : Rho} {u : Md} {fm : FrameMode} (h : MdR ρ u fm) : MdR ρ (settleV u) (settle fm) := by
  cases u with
  | run => cases fm <;> first | exact h | exact h.elim
  | returning => cases fm <;> first | exact h | exact h.elim
  | panicking c => cases fm with
    | run => exact h.elim
    | returning => exact h.elim
    | panicking ch =>
      cases c with
      | nil => cases ch with
        | nil => exact h
        | cons _ _ => exact h.elim
      | cons p ps => cases ch with
        | nil => exact h.elim
        | cons q qs =>
          obtain ⟨⟨h1, h2, h3⟩, h4⟩ := h
          obtain ⟨pv, pr⟩ := p
          obtain ⟨qv, qr, qg⟩ := q
          simp only at h1 h2 h3
          subst h2; subst h3
          cases pr with
          | false => exact ⟨⟨h1, rfl, rfl⟩, h4⟩
          | true =>
            have hno : ∀ (ps : List Pan) (qs : List PanicEntry), PanR ρ ps qs → qs.dropWhile (fun e => !e.goexit) = [] := by
              intro ps
              induction ps with
              | nil => intro qs hq; cases qs with
                | nil => rfl
                | cons _ _ => exact hq.elim
              | cons p ps ih => intro qs hq; cases qs with
                | nil => exact hq.elim
                | cons q qs =>
                  obtain ⟨⟨_, _, g3⟩, g4⟩ := hq
                  rw [List.dropWhile_cons, g3]
                  simpa using ih qs g4
            simp only [settleV, settle, hno ps qs h4]
            trivial
theorem raised_sound {ρ : Rho} {u : Md} {fm : FrameMode} {c : List Pan} {ch : List PanicEntry} (h : MdR ρ u fm) (hc : PanR ρ c ch) : MdR ρ (raisedV u c) (raised fm ch) := by
  cases u with
  | run => cases fm <;> first | exact hc | exact h.elim
  | returning => cases fm <;> first | exact hc | exact h.elim
  | panicking d => cases fm with
    | run => exact h.elim
    | returning => exact h.elim
    | panicking dh => exact PanR.append hc h
section
variable {E : Env} {ih : Job → S → Option Out} {f : FuncId} {fn : Func}
def resS (tm : Array Value) : ResultVar → Sem Value
  | .tmp t => pure (tm.getD t undef)
  | .cell a t => do Go.loadVar t (← asAddr (tm.getD a undef))
theorem results_eq (fn : Func) (tm : Array Value) : results fn tm = (do let vs ← fn.results.mapM (resS tm); pure (if h : vs.size = 1 then vs[0] else .tuple vs)) := by
  unfold results
  congr 1
theorem resultV_sound {P : Program} {ρ : Rho} {s : S} {w : World} (h : HR ρ s w) {t : T V} {tm : Array Value} (ht : TR ρ t tm) {x : ResultVar} {v : V} (e : resultV P t s x = some v) :
    ∃ y, den ρ v = some y ∧ (resS tm x).run P w = .ok y w := by
  have at_ : ∀ i u, t.get (pth i) = some u → den ρ u = some (tm.getD i undef) := fun i u hu => by
    obtain ⟨y, h1, h2⟩ := ht i u hu
    rw [h1]; simp [h2]
  cases x with
  | tmp i => exact ⟨_, at_ _ _ e, rfl⟩
  | cell a ty =>
    simp only [resultV] at e
    split at e
    · rename_i ad hp
      obtain ⟨a1, y, h1, h2, h3⟩ := loadVar_sound h e
      have := at_ _ _ hp
      simp only [den, h1, Option.some.injEq] at this
      refine ⟨y, h2, ?_⟩
      simp only [resS, Sem.run_bind, ← this, asAddr, Sem.run_pure, Result.andThen_ok, h3]
    · cases e
theorem resultL_sound {P : Program} {ρ : Rho} {s : S} {w : World} (h : HR ρ s w) {t : T V} {tm : Array Value} (ht : TR ρ t tm) : ∀ {l : List ResultVar} {vs : List V}, resultL P t s l = some vs →
    ∃ ys, denL ρ vs = some ys ∧ (l.mapM (resS tm)).run P w = .ok ys w
  | [], vs, e => by cases e; exact ⟨[], rfl, rfl⟩
  | x :: l, vs, e => by
    simp only [resultL] at e
    cases hx : resultV P t s x with
    | none => simp [hx] at e
    | some v =>
      cases hl : resultL P t s l with
      | none => simp [hx, hl] at e
      | some q =>
        simp only [hx, hl, Option.some.injEq] at e
        subst e
        obtain ⟨y, h1, h2⟩ := resultV_sound (P := P) (w := w) h ht hx
        obtain ⟨ys, h3, h4⟩ := resultL_sound h ht hl
        refine ⟨y :: ys, denL_cons.2 ⟨y, ys, h1, h3, rfl⟩, ?_⟩
        simp only [List.mapM_cons, Sem.run_bind, h2, h4, Result.andThen_ok, Sem.run_pure]
theorem results_sound {P : Program} {ρ : Rho} {s : S} {w : World} (h : HR ρ s w) {t : T V} {tm : Array Value} (ht : TR ρ t tm) {v : V} (e : resultsV P fn t s = some v) : ∃ y, den ρ v = some y ∧ (results fn tm).run P w = .ok y w := by
  unfold resultsV at e
  split at e
  · rename_i l hl
    cases e
    obtain ⟨ys, h1, h2⟩ := resultL_sound (P := P) (w := w) h ht hl
    have hr : (results fn tm).run P w = .ok (if h : ys.toArray.size = 1 then ys.toArray[0] else .tuple ys.toArray) w := by
      rw [results_eq, Array.mapM_eq_mapM_toList]
      simp [h2]
    refine ⟨_, ?_, hr⟩
    have hlen := denL_length h1
    cases l with
    | nil =>
      cases h1
      rfl
    | cons v l => cases l with
      | nil =>
        obtain ⟨y, hy, rfl⟩ := den_one h1
        simpa [oneOr] using hy
      | cons v2 l =>
        obtain ⟨y, q, hy, hq, rfl⟩ := denL_cons.1 h1
        obtain ⟨y2, q, hy2, hq2, rfl⟩ := denL_cons.1 hq
        simp only [oneOr, den, h1]
        simp
  · cases e
theorem FrR.turn {P : Program} {ρ : Rho} {f : FuncId} {fn : Func} {t : T V} {todo : List Item} {ds : List Dfr} {m : Md} {up : Option Md} {rd : Option Nat} {fr : Frame} {cs : List Frame}
    (h : FrR P ρ f fn t todo ds m up rd fr cs) {ds' : List Dfr} {rs : List Deferred} (hd : DfrsR ρ ds' rs) {m' : Md} (hm : m' ≠ .run) {fm : FrameMode} (hfm : MdR ρ m' fm) (todo' : List Item) : FrR P ρ f fn t todo' ds' m' up rd { fr with defers := rs, mode := fm } cs :=
  ⟨h.name, h.func, h.tr, h.size, fun q => absurd q hm, hd, hfm, h.rd, h.up⟩
theorem leave_fin {P : Program} {ρ : Rho} {s : S} {w : World} (h : HR ρ s w) {t : T V} {todo : List Item} {m : Md} {up : Option Md} {rd : Option Nat} {fr : Frame} {cs : List Frame} (hF : FrR P ρ f fn t todo [] m up rd fr cs) {e : End} {en : Ending} (he : EndR ρ e en)
    (hgo : fr.going P w en) : Fin P f up.isSome rd.isSome cs (lone fr cs w) ρ w ⟨e, up, s⟩ := by
  refine ⟨ρ, w, h, FR.refl ρ w, ?_⟩
  have hleave : up = none → fr.leaving P w en := by
    intro hu
    have hk : fr.kind = .normal := by have := hF.up; rw [hu] at this; exact this
    cases en with
    | returned v => obtain ⟨a, b, c⟩ := hgo; exact ⟨a, b, hk, c⟩
    | panicked ch => exact hgo
    | outgrown => trivial
  cases rd with
  | some l =>
    have hu : up = none := hF.rd.1
    intro c cs' hc
    subst hc
    refine ⟨en, he, .one ?_⟩
    cases en with
    | returned v => exact step_leave_returned (hleave hu)
    | panicked ch => exact step_leave_panicked (hleave hu)
    | outgrown => cases e <;> exact he.elim
  | none =>
    cases up with
    | none => exact ⟨fr, en, he, Steps.refl _ _, hF.name, hleave rfl⟩
    | some u =>
      obtain ⟨hk, c0, cs0, rfl, hmd⟩ := hF.up
      intro c cs' hc
      cases hc
      exact ⟨fr, en, u, c0.mode, rfl, hmd, he, Steps.refl _ _, hk, hgo⟩
theorem unwind_sound (hg : Good E.P ih) {t : T V} {todo : List Item} {ds : List Dfr} {m : Md} (hm : m ≠ .run) {up : Option Md} {rd : Option Nat} {s : S} {out : Out}
    (e : unwindStep ds E fn (goOf ih f fn) (recOf ih) t m up rd s = some out) {ρ : Rho} {w : World} {fr : Frame} {cs : List Frame} (h : HR ρ s w) (hF : FrR E.P ρ f fn t todo ds m up rd fr cs) : Fin E.P f up.isSome rd.isSome cs (lone fr cs w) ρ w out := by
  have hfm : fr.mode ≠ .run := by
    intro hq
    have := hF.md
    rw [hq] at this
    cases m <;> first | exact hm rfl | exact this.elim
  unfold unwindStep at e
  split at e
  · rename_i d ds'
    have hds := hF.ds
    cases hfd : fr.defers with
    | nil => rw [hfd] at hds; exact hds.elim
    | cons r rs =>
      rw [hfd] at hds
      obtain ⟨⟨l, h1, h2⟩, h3⟩ := hds
      subst h2
      unfold collectedTo at e
      split at e
      · rename_i hs
        obtain ⟨l', g1, g2⟩ := h.blk _ _ hs
        rw [h1] at g1; cases g1
        have hrun := run_takeDeferred (P := E.P) g2
        obtain ⟨j1, j2⟩ := h.turn h1 hs (fun _ h => by cases h) (but_set w l.b (.deferred none)) .gone trivial
        have hstep := st_collected (P := E.P) (cs := cs) rfl hfm hfd hrun
        have hF' : FrR E.P ρ f fn t [] ds' m up rd { fr with defers := [] ++ rs } cs := ⟨hF.name, hF.func, hF.tr, hF.size, fun q => absurd q hm, h3, hF.md, hF.rd, hF.up⟩
        exact Fin.of_steps (.one hstep) j2 (go_sound hg e _ _ _ _ j1 hF')
      · cases e
  · rename_i g captured args ds'
    have hds := hF.ds
    cases hfd : fr.defers with
    | nil => rw [hfd] at hds; exact hds.elim
    | cons r rs =>
      rw [hfd] at hds
      obtain ⟨⟨gf, cc, aa, h1, h2, h3, h4⟩, h5⟩ := hds
      cases h1
      subst h4
      cases hr : recOf ih g (args ++ captured) (some m) s with
      | none => rw [hr] at e; cases e
      | some o1 =>
        rw [hr] at e
        obtain ⟨hcall, hfin⟩ := hg (.call g (args ++ captured) (some m)) s o1 hr ρ w _ h (denL_append h3 h2)
        obtain ⟨ρ1, w1, j1, j2, j3⟩ := hfin ({ fr with defers := rs } :: cs) (fun u hu => by cases hu; exact ⟨_, _, rfl, hF.md⟩)
        obtain ⟨frX, en, u, u', k1, k2, k3, k4, k5, k6⟩ := j3 _ _ rfl
        have hs1 := step_defer (P := E.P) (cs := cs) (f := g) (args := (aa ++ cc).toArray) (w := w) hfm hfd rfl (by
          have := hcall w
          simpa [invoke] using this)
        have hF1 := hF.mono j2.ext
        obtain ⟨oe, oup, os⟩ := o1
        simp only at k1 k3 j1
        subst k1
        cases oe with
        | returned v =>
          cases en with
          | panicked _ => exact k3.elim
          | outgrown => exact k3.elim
          | returned y =>
            simp only [deferTo2] at e
            have hs2 := step_going_returned (c := { fr with defers := rs, mode := u' }) (cs := cs) k5 k6
            have hgo : u ≠ .run ∧ goOf ih f fn t [] ds' (settleV u) up rd os = some out := by
              cases u with
              | run => cases e
              | returning => exact ⟨(by intro q; cases q), e⟩
              | panicking c => exact ⟨(by intro q; cases q), e⟩
            have hnr : settleV u ≠ .run := by
              obtain ⟨hu, _⟩ := hgo
              unfold settleV
              split
              · intro q; cases q
              · exact hu
            have hF2 : FrR E.P ρ1 f fn t [] ds' (settleV u) up rd { fr with defers := rs, mode := settle u' } cs :=
              ⟨hF1.name, hF1.func, hF1.tr, hF1.size, fun q => absurd q hnr, h5.mono j2.ext, settle_sound k2, hF1.rd, hF1.up⟩
            exact Fin.of_steps (.head hs1 (k4.trans (.one hs2))) j2 (go_sound hg hgo.2 _ _ _ _ j1 hF2)
        | panicked c =>
          cases en with
          | returned _ => exact k3.elim
          | outgrown => exact k3.elim
          | panicked ch =>
            simp only [deferTo2] at e
            have hs2 := step_going_panicked (c := { fr with defers := rs, mode := u' }) (cs := cs) k6
            have hF2 : FrR E.P ρ1 f fn t [] ds' (raisedV u c) up rd { fr with defers := rs, mode := raised u' ch } cs :=
              ⟨hF1.name, hF1.func, hF1.tr, hF1.size, (fun q => by cases u <;> cases q), h5.mono j2.ext, raised_sound k2 k3, hF1.rd, hF1.up⟩
            exact Fin.of_steps (.head hs1 (k4.trans (.one hs2))) j2 (go_sound hg e _ _ _ _ j1 hF2)
  · cases e
  · have hds := hF.ds
    have hfd : fr.defers = [] := by
      cases hq : fr.defers with
      | nil => rfl
      | cons _ _ => rw [hq] at hds; exact hds.elim
    unfold leaveStep at e
    split at e
    · unfold retOf at e
      split at e
      · rename_i v hv
        cases e
        obtain ⟨y, y1, y2⟩ := results_sound (P := E.P) (fn := fn) h hF.tr hv
        refine leave_fin h hF (en := .returned y) y1 ⟨?_, hfd, fn, hF.name ▸ hF.func, y2⟩
        have := hF.md
        cases hq : fr.mode <;> rw [hq] at this <;> first | rfl | exact this.elim
      · cases e
    · rename_i c
      cases e
      have := hF.md
      cases hq : fr.mode with
      | run => exact absurd hq hfm
      | returning => rw [hq] at this; exact this.elim
      | panicking ch =>
        rw [hq] at this
        exact leave_fin h hF (en := .panicked ch) this ⟨hq, hfd, fn, hF.name ▸ hF.func⟩
    · cases e
end
end Go.AI
/- The evaluator is sound. -/
namespace Go.AI
section
variable {E : Env} {ih : Job → S → Option Out} {f : FuncId} {fn : Func}
theorem FrR.bump {P : Program} {ρ : Rho} {t : T V} {todo : List Item} {ds : List Dfr} {up : Option Md} {rd : Option Nat} {fr : Frame} {cs : List Frame} (h : FrR P ρ f fn t todo ds .run up rd fr cs) : fr.mode = .run := frun h
theorem codeStep_sound (hE : EnvOk E) (hD : DrawnSound E) (hg : Good E.P ih) {c : Code} {k : List Item} {t : T V} {ds : List Dfr} {up : Option Md} {rd : Option Nat} {s : S} {out : Out}
    (e : codeStep c E f fn (goOf ih f fn) (recOf ih) (recROf ih) k t ds up rd s = some out) {ρ : Rho} {w : World} {fr : Frame} {cs : List Frame} (h : HR ρ s w) (hF : FrR E.P ρ f fn t (.code c :: k) ds .run up rd fr cs) :
    Fin E.P f up.isSome rd.isSome cs (lone fr cs w) ρ w out := by
  have hm := frun hF
  have ht := hF.todo rfl
  cases c with
  | ret =>
    simp only [codeStep] at e
    exact leaveV_sound hg e h hF (fun _ hro => st_ret hm ht hro) (fun l v w' hro hk hr c cs' hc => by subst hc; exact lv_ret hm hk hro ht hr)
  | skip => exact one_step h (st_skip hm ht) (hF.to k) (go_sound hg e)
  | label l => exact one_step h (st_label hm ht) (hF.to k) (go_sound hg e)
  | seq a b => exact one_step h (st_seq hm ht) (hF.to _) (go_sound hg e)
  | cond c a b =>
    simp only [codeStep] at e
    cases hv : eval t c with
    | none => rw [hv] at e; cases e
    | some v =>
      rw [hv] at e
      have hd := eval_sound hF.tr hv
      unfold condTo at e
      split at e
      · rename_i q hq
        cases hq
        simp only [den, Option.some.injEq] at hd
        refine one_step h (st_cond hm ht hd.symm) (hF.to _) ?_
        have hb : (bif q then a else b) = if q then a else b := by cases q <;> rfl
        rw [← hb]
        exact go_sound hg e
      · cases e
  | block id c => exact one_step h (st_block hm ht) (hF.to _) (go_sound hg e)
  | loop c => exact one_step h (st_loop hm ht) (hF.to _) (go_sound hg e)
  | scope c => exact one_step h (st_scope hm ht) (hF.to _) (go_sound hg e)
  | exit id =>
    simp only [codeStep] at e
    cases hx : exitTo id k with
    | none =>
      rw [hx] at e
      simp only [jumpTo] at e
      exact leaveV_sound (jump := some (.exit id)) hg e h hF (fun hj => by rcases hj with hj | hj <;> cases hj) (fun l v w' hro hk hr c cs' hc => by subst hc; exact lv_exit hm hk hro ht hx hr)
    | some k' => rw [hx] at e; exact one_step h (st_exit hm ht hx) (hF.to _) (go_sound hg e)
  | goto id =>
    simp only [codeStep] at e
    cases hx : gotoIn id k with
    | none =>
      rw [hx] at e
      simp only [jumpTo] at e
      exact leaveV_sound (jump := some (.goto id)) hg e h hF (fun hj => by rcases hj with hj | hj <;> cases hj) (fun l v w' hro hk hr c cs' hc => by subst hc; exact lv_goto hm hk hro ht hx hr)
    | some k' => rw [hx] at e; exact one_step h (st_goto hm ht hx) (hF.to _) (go_sound hg e)
  | rangeFunc g ps a b => exact rangeFrom_sound hg e h hF
  | region id ops draw =>
    cases draw with
    | true =>
      simp only [codeStep] at e
      cases hd : dstOk ops fn.ntmps with
      | false => rw [hd] at e; cases e
      | true =>
        rw [hd] at e
        exact regionTo_sound hg e hF.lone_up fun r hr => hD ih hg f fn id ops k rd t ds up s r hd hr ρ w fr cs h hF
    | false =>
      simp only [codeStep] at e
      cases hd : dstOk ops fn.ntmps with
      | false => rw [hd] at e; cases e
      | true =>
        rw [hd] at e
        refine regionTo_sound hg e hF.lone_up fun r hr => ?_
        have := runOps_sound (k := k) (rd := rd) hE hg hd ops.toList (List.range ops.size) (idx_all ops) t ds up s r hr ρ w _ cs h (hF.to _)
        exact this.of_steps (.one (st_region hm ht)) (FR.refl ρ w) (Tops.refl hF) rfl
  | refuse why => cases e
theorem itemStep_sound (hE : EnvOk E) (hD : DrawnSound E) (hg : Good E.P ih) {i : Item} {k : List Item} {t : T V} {ds : List Dfr} {up : Option Md} {rd : Option Nat} {s : S} {out : Out}
    (e : itemStep i E f fn (goOf ih f fn) (recOf ih) (recROf ih) k t ds up rd s = some out) {ρ : Rho} {w : World} {fr : Frame} {cs : List Frame} (h : HR ρ s w) (hF : FrR E.P ρ f fn t (i :: k) ds .run up rd fr cs) :
    Fin E.P f up.isSome rd.isSome cs (lone fr cs w) ρ w out := by
  have hm := frun hF
  have ht := hF.todo rfl
  cases i <;> try (cases e; done)
  case code c => exact codeStep_sound hE hD hg e h hF
  case inBlock id => exact one_step h (st_inBlock hm ht) (hF.to k) (go_sound hg e)
  case inScope c => exact one_step h (st_inScope hm ht) (hF.to k) (go_sound hg e)
  case inLoop c => exact one_step h (st_inLoop hm ht) (hF.to _) (go_sound hg e)
  case beginRound =>
    simp only [itemStep] at e
    cases rd with
    | none => cases e
    | some l =>
      simp only at e
      unfold beginTo at e
      split at e
      · rename_i pend f' t' ps a b d nt hs
        obtain ⟨hu, lb, hl, hro⟩ := hF.rd
        obtain ⟨r, r1, r2, r3, r4, r5, r6, r7, r8, r9, r10⟩ := loop_at h hs hl
        obtain ⟨j1, j2⟩ := r10 .busy pend
        have hrun := run_beginRound (P := E.P) r1 r2
        have hst := st_beginRound (P := E.P) (cs := cs) hm hro ht hrun
        have hpe : ({ r with state := LoopState.busy } : Loop) = { r with state := .busy, pending := pend } := by rw [← r3]
        rw [hpe] at hst
        exact Fin.of_steps (.one hst) j2 (go_sound hg e _ _ _ _ j1 (hF.to k))
      · cases e
theorem frameStep_sound (hE : EnvOk E) (hD : DrawnSound E) (hg : Good E.P ih) {t : T V} {todo : List Item} {ds : List Dfr} {m : Md} {up : Option Md} {rd : Option Nat} {s : S} {out : Out}
    (e : frameStep E f fn (goOf ih f fn) (recOf ih) (recROf ih) t todo ds m up rd s = some out) : SoundF E.P f fn t todo ds m up rd s out := by
  intro ρ w fr cs h hF
  cases m with
  | run =>
    simp only [frameStep] at e
    cases todo with
    | nil =>
      simp only [todoStep] at e
      have hm := frun hF
      have ht := hF.todo rfl
      exact leaveV_sound hg e h hF (fun _ hro => st_end hm ht hro) (fun l v w' hro hk hr c cs' hc => by subst hc; exact lv_end hm hk hro ht hr)
    | cons i k => exact itemStep_sound hE hD hg e h hF
  | returning => exact unwind_sound hg (by intro q; cases q) e h hF
  | panicking c => exact unwind_sound hg (by intro q; cases q) e h hF
theorem initT_eq {β : Type} : ∀ (l : List V) (i : Nat) (t : T V) (k : T V → β), initT l i t k = k (initT l i t id)
  | [], _, _, _ => rfl
  | x :: r, i, t, k => by
    simp only [initT, T.setK_eq]
    exact initT_eq r (i + 1) _ k
theorem initT_get : ∀ (l : List V) (i : Nat) (t : T V) (j : Nat), (initT l i t id).get (pth j) = if i ≤ j ∧ j < i + l.length then l[j - i]? else t.get (pth j)
  | [], i, t, j => by rw [if_neg (by simp)]; rfl
  | x :: r, i, t, j => by
    simp only [initT, T.setK_eq]
    rw [initT_get r (i + 1) _ j, T.get_setN]
    simp only [List.length_cons]
    by_cases hj : i + 1 ≤ j ∧ j < i + 1 + r.length
    · rw [if_pos hj, if_pos (by omega), show j - i = (j - (i + 1)) + 1 by omega]; rfl
    · rw [if_neg hj]
      by_cases hi : i = j
      · subst hi; rw [if_pos rfl, if_pos (by omega)]; simp
      · rw [if_neg hi, if_neg (by omega)]
theorem putParams_eq {β : Type} : ∀ (ps : List Tmp) (l : List V) (t : T V) (k : T V → β), putParams t ps l k = k (putParams t ps l id)
  | [], l, t, k => by cases l <;> rfl
  | p :: ps, [], t, k => rfl
  | p :: ps, x :: l, t, k => by
    simp only [putParams, T.setK_eq]
    exact putParams_eq ps l _ k
theorem putParams_sound {ρ : Rho} : ∀ (ps : List Tmp) (l : List V) (ys : List Value) (t : T V) (tm : Array Value), TR ρ t tm → denL ρ l = some ys → (∀ p ∈ ps, p < tm.size) →
    TR ρ (putParams t ps l id) ((ps.zip ys).foldl (fun tmps x => tmps.setIfInBounds x.1 x.2) tm) ∧ ((ps.zip ys).foldl (fun tmps x => tmps.setIfInBounds x.1 x.2) tm).size = tm.size
  | [], l, ys, t, tm, ht, _, _ => by
    have : putParams t [] l id = t := by cases l <;> rfl
    rw [this]; exact ⟨ht, rfl⟩
  | p :: ps, [], ys, t, tm, ht, hd, _ => by cases hd; exact ⟨ht, rfl⟩
  | p :: ps, x :: l, ys, t, tm, ht, hd, hp => by
    obtain ⟨y, q, h1, h2, rfl⟩ := denL_cons.1 hd
    simp only [putParams, T.setK_eq, List.zip_cons_cons, List.foldl_cons]
    obtain ⟨k1, k2⟩ := putParams_sound ps l q _ (tm.setIfInBounds p y) (ht.put h1 (hp p (by simp))) h2 (fun p' hp' => by simpa using hp p' (by simp [hp']))
    exact ⟨k1, by simpa using k2⟩
structure OrcOk (E : Env) : Prop where
  call : ∀ f args s v s', E.orc f args s = some (v, s') → SoundC E.P f args none s ⟨.returned v, none, s'⟩
theorem enterV_sound (hg : Good E.P ih) {args : List V} {up : Option Md} {s : S} {out : Out} (e : enterV ih f args up s (E.P.funcs[f]?) = some out) : SoundC E.P f args up s out := by
  unfold enterV at e
  split at e
  · rename_i fn hf
    split at e
    · rename_i c hb
      cases hn : (fn.name == "runtime.NumGoroutine") with
      | true => rw [hn] at e; cases e
      | false =>
        rw [hn] at e
        simp only [cond_false] at e
        rw [initT_eq] at e
        intro ρ w ys h hd
        have hne : fn.name ≠ "runtime.NumGoroutine" := by simpa using hn
        refine ⟨fun w => by simp [callFunc, hf, hne, hb], fun cs hup => ?_⟩
        refine hg _ s out e ρ w _ cs h ⟨rfl, hf, ?_, ?_, fun _ => ?_, trivial, trivial, rfl, ?_⟩
        · intro i v hv
          rw [initT_get] at hv
          have hl := denL_length hd
          split at hv
          · rename_i hi
            obtain ⟨y, h1, h2⟩ := denL_get _ hd hv
            refine ⟨y, h1, ?_⟩
            have hi2 : i < ys.length := (List.getElem?_eq_some_iff.1 h2).1
            simp only [Nat.sub_zero] at h2
            show (ys.toArray ++ Array.replicate _ undef)[i]? = some y
            rw [Array.getElem?_append_left (by simpa using hi2)]
            simpa using h2
          · rw [T.get_leaf] at hv; cases hv
        · show fn.ntmps ≤ (ys.toArray ++ Array.replicate _ undef).size
          simp [hf]; omega
        · simp [Frame.enter, hf, hb]
        · cases up with
          | none => rfl
          | some u =>
            obtain ⟨c, cs', h1, h2⟩ := hup u rfl
            exact ⟨rfl, c, cs', h1, h2⟩
    · cases e
  · cases e
theorem roundV_sound (hg : Good E.P ih) {l : Nat} {args : List V} {s : S} {out : Out} (e : roundV E ih l args s (s.get l) = some out) : SoundR E.P l args s out := by
  intro ρ w lb ys h hl hd
  unfold roundV at e
  split at e
  · rename_i st pend f' t' ps a b d nt hs
    split at e
    · rename_i fn hf
      cases hb : (Nat.ble fn.ntmps nt && Nat.beq ps.size args.length && ps.toList.all (fun p => Nat.blt p nt)) with
      | false => rw [hb] at e; cases e
      | true =>
        rw [hb] at e
        simp only [cond_true] at e
        simp only [Bool.and_eq_true] at hb
        rw [putParams_eq] at e
        obtain ⟨r, r1, r2, r3, r4, r5, r6, r7, r8, r9, r10⟩ := loop_at h hs hl
        have hlen := denL_length hd
        have hsz : ys.toArray.size = r.params.size := by
          have := Nat.eq_of_beq_eq_true hb.1.2
          rw [r5, this]; simpa using hlen
        have hy := run_yield (P := E.P) (args := ys.toArray) r1 hsz
        have hfold : (r.params.zip ys.toArray).foldl (fun tmps (t, a) => tmps.setIfInBounds t a) r.tmps = (ps.toList.zip ys).foldl (fun tmps x => tmps.setIfInBounds x.1 x.2) r.tmps := by
          rw [← Array.foldl_toList, r5]
          simp
        obtain ⟨k1, k2⟩ := putParams_sound ps.toList args ys t' r.tmps r8 hd (fun p hp => Nat.lt_of_lt_of_le (blt_lt (List.all_eq_true.1 hb.2 p hp)) r9)
        rw [hfold] at hy
        refine ⟨_, _, _, _, hy, fun cs => ?_⟩
        rw [r4, r6, r7]
        refine hg _ s out e ρ w _ cs h ⟨rfl, hf, k1, ?_, fun _ => rfl, trivial, trivial, ⟨rfl, lb, hl, rfl⟩, rfl⟩
        exact Nat.le_trans (Nat.le_trans (Nat.le_of_ble_eq_true hb.1.1) r9) (Nat.le_of_eq k2.symm)
    · cases e
  · cases e
theorem jobStep_sound (hE : EnvOk E) (hO : OrcOk E) (hD : DrawnSound E) (hg : Good E.P ih) : Good E.P (jobStep E ih) := by
  intro j s out e
  cases j with
  | frame f fn t todo ds m up rd => exact frameStep_sound hE hD hg e
  | call f args up =>
    simp only [jobStep] at e
    unfold callOr at e
    split at e
    · rename_i v s' hv
      cases up with
      | some u => cases hv
      | none =>
        cases e
        exact hO.call f args s v s' hv
    · exact enterV_sound hg e
  | round l args => exact roundV_sound hg e
theorem runK_sound (hE : EnvOk E) (hO : OrcOk E) (hD : DrawnSound E) : ∀ n, Good E.P (runK E n)
  | 0 => fun j s out e => by cases e
  | n + 1 => jobStep_sound hE hO hD (runK_sound hE hO hD n)
end
end Go.AI
/- The evaluator without fuel: the limit of all fuels, and its equation. -/
namespace Go.AI
abbrev Ih := Job → S → Option Out
def Lim (c : Nat → Ih) (R : Ih) : Prop := ∀ j s o, R j s = some o → ∃ n, ∀ m, n ≤ m → c m j s = some o
def Fin1 {α : Type} (c : Nat → Ih) (R : Ih) (Φ : Ih → Option α) : Prop := ∀ x, Φ R = some x → ∃ n, ∀ m, n ≤ m → Φ (c m) = some x
section
variable {c : Nat → Ih} {R : Ih} {α β : Type}
theorem Fin1.const (x : Option α) : Fin1 c R (fun _ => x) := fun _ h => ⟨0, fun _ _ => h⟩
theorem Fin1.bind {Φ : Ih → Option α} {Ψ : Ih → Option α → Option β} (h : Fin1 c R Φ) (hn : ∀ ih, Ψ ih none = none) (hs : ∀ x, Fin1 c R (fun ih => Ψ ih (some x))) : Fin1 c R (fun ih => Ψ ih (Φ ih)) := by
  intro y hy
  cases hx : Φ R with
  | none => simp only [hx, hn] at hy; cases hy
  | some x =>
    simp only [hx] at hy
    obtain ⟨n1, h1⟩ := h x hx
    obtain ⟨n2, h2⟩ := hs x y hy
    refine ⟨max n1 n2, fun m hm => ?_⟩
    simp only [h1 m (by omega)]
    exact h2 m (by omega)
theorem Fin1.ih (h : Lim c R) (j : Job) (s : S) : Fin1 c R (fun ih => ih j s) := fun o ho => h j s o ho
theorem fin_outThen (h : Lim c R) {Φ : Ih → Option Out} (hΦ : Fin1 c R Φ) (d : Option Tmp) (t : T V) (ds : List Dfr) (up : Option Md) {k : Ih → RK} (hk : ∀ t ds up s, Fin1 c R (fun ih => k ih t ds up s)) : Fin1 c R (fun ih => outThen d t ds up (k ih) (Φ ih)) := by
  refine hΦ.bind (Ψ := fun ih x => outThen d t ds up (k ih) x) (fun _ => rfl) fun o => ?_
  obtain ⟨e, u, s⟩ := o
  cases e with
  | returned v => simp only [outThen, putT_D]; exact hk _ _ _ _
  | panicked c => exact Fin1.const _
theorem fin_nxThen (h : Lim c R) (rd : Option Nat) (d : Option Tmp) (t : T V) (ds : List Dfr) (up : Option Md) {k : Ih → RK} (hk : ∀ t ds up s, Fin1 c R (fun ih => k ih t ds up s)) (x : Option Nx) :
    Fin1 c R (fun ih => nxThen (recOf ih) (recROf ih) rd d t ds up (k ih) x) := by
  cases x with
  | none => exact Fin1.const _
  | some x =>
    cases x with
    | val v s => simp only [nxThen, putT_D]; exact hk _ _ _ _
    | skip s => simp only [nxThen, putT_D]; exact hk _ _ _ _
    | enter f args s => exact fin_outThen h (Fin1.ih h _ _) d t ds up hk
    | round l args s => exact fin_outThen h (Fin1.ih h _ _) d t ds up hk
    | defer df s => cases rd <;> simp only [nxThen, putT_D, Option.isSome_some, Option.isSome_none, cond_true, cond_false] <;> first | exact hk _ _ _ _ | exact Fin1.const _
    | recover s =>
      simp only [nxThen]
      unfold recovered
      split
      · simp only [putT_D]; exact hk _ _ _ _
      · simp only [putT_D]; exact hk _ _ _ _
      · exact Fin1.const _
    | panic v s => exact Fin1.const _
theorem fin_opThen (h : Lim c R) {E : Env} (rd : Option Nat) (o : Oper) (t : T V) (ds : List Dfr) (up : Option Md) (s : S) {k : Ih → RK} (hk : ∀ t ds up s, Fin1 c R (fun ih => k ih t ds up s)) (b : Option Bool) :
    Fin1 c R (fun ih => opThen E (recOf ih) (recROf ih) rd o t ds up s (k ih) b) := by
  cases b with
  | none => exact Fin1.const _
  | some b => cases b with
    | true => exact fin_nxThen h rd _ t ds up hk _
    | false => simp only [opThen, putT_D]; exact hk _ _ _ _
theorem fin_runOps (h : Lim c R) {E : Env} {ops : Array Oper} (rd : Option Nat) : ∀ (l : List Oper) (t : T V) (ds : List Dfr) (up : Option Md) (s : S), Fin1 c R (fun ih => runOps E ops (recOf ih) (recROf ih) rd l t ds up s)
  | [], _, _, _, _ => Fin1.const _
  | o :: l, t, ds, up, s => fin_opThen h rd o t ds up s (fun t ds up s => fin_runOps h rd l t ds up s) _
theorem fin_effAll (h : Lim c R) {E : Env} (t : T V) (s : S) (o : Oper) (b : Option Bool) : Fin1 c R (fun ih => effAll E (recOf ih) t s o b) := by
  cases b with
  | none => exact Fin1.const _
  | some b => cases b with
    | false => exact Fin1.const _
    | true =>
      simp only [effAll]
      cases doOp E t s o with
      | none => exact Fin1.const _
      | some x => cases x with
        | enter f args s =>
          simp only [effDoA]
          refine (Fin1.ih h (.call f args none) s).bind (Ψ := fun _ x => effEndA x) (fun _ => rfl) fun o => Fin1.const _
        | _ => exact Fin1.const _
theorem fin_runEffs (h : Lim c R) {E : Env} {ops : Array Oper} {ms : List Nat} {effs : Nat} {all : List (Nat × Oper)} (ds : List Dfr) (up : Option Md) : ∀ (es : List (Nat × Oper)) (hist : List (Nat × S)) (done : Nat) (t : T V) (s : S),
    Fin1 c R (fun ih => runEffs E ops ms effs all (recOf ih) ds up es hist done t s)
  | [], _, _, _, _ => Fin1.const _
  | (i, o) :: r, hist, done, t, s => by
    simp only [runEffs]
    cases runPhase E ops ms effs hist (ms.getD i 0) all done t s with
    | none => exact Fin1.const _
    | some x =>
      obtain ⟨d1, t1, s1⟩ := x
      simp only
      refine (fin_effAll h t1 s1 o (wantedV ops t1 o)).bind (Ψ := fun ih (x : Option EffR) => match x with
        | some (.val v s') => bif Nat.ble s1.next s'.next && !(d1.testBit i) && effs.testBit i then putT t1 o.dst (some v) fun t => runEffs E ops ms effs all (recOf ih) ds up r ((i, s') :: hist) (Nat.lor d1 (Nat.pow 2 i)) t s' else none
        | some (.pan c s') => bif d1.testBit i then none else panTo ds up d1 all t1 c s' (runPhase E ops ms effs hist (freeMask ms i all) all d1 t1 s1)
        | none => none) (fun _ => rfl) fun x => ?_
      cases x with
      | val v s' =>
        simp only
        cases (Nat.ble s1.next s'.next && !(d1.testBit i) && effs.testBit i) with
        | false => exact Fin1.const _
        | true => simp only [cond_true, putT_D]; exact fin_runEffs h ds up r _ _ _ _
      | pan c s' => exact Fin1.const _
theorem fin_runDrawn (h : Lim c R) {E : Env} {ops : Array Oper} (t : T V) (ds : List Dfr) (up : Option Md) (s : S) : Fin1 c R (fun ih => runDrawn E ops (recOf ih) (recROf ih) t ds up s) := by
  unfold runDrawn
  cases plan E.P ops with
  | none => exact Fin1.const _
  | some p => exact fin_runEffs h ds up _ _ _ _ _
variable {f : FuncId} {fn : Func}
theorem fin_go (h : Lim c R) (t : T V) (todo : List Item) (ds : List Dfr) (m : Md) (up : Option Md) (rd : Option Nat) (s : S) : Fin1 c R (fun ih => goOf ih f fn t todo ds m up rd s) := Fin1.ih h _ _
theorem fin_leaveV (h : Lim c R) (t : T V) (ds : List Dfr) (up : Option Md) (rd : Option Nat) (s : S) (jump : Option Code) : Fin1 c R (fun ih => leaveV (goOf ih f fn) t ds up rd s jump) := by
  unfold leaveV
  split
  · split
    · exact fin_go h _ _ _ _ _ _ _
    · exact fin_go h _ _ _ _ _ _ _
    · exact Fin1.const _
  · split <;> exact Fin1.const _
theorem fin_regionTo (h : Lim c R) {Φ : Ih → Option ROut} (hΦ : Fin1 c R Φ) (k : List Item) (rd : Option Nat) : Fin1 c R (fun ih => regionTo (goOf ih f fn) k rd (Φ ih)) := by
  refine hΦ.bind (Ψ := fun ih x => regionTo (goOf ih f fn) k rd x) (fun _ => rfl) fun x => ?_
  cases x <;> exact fin_go h _ _ _ _ _ _ _
theorem fin_rangeTo (h : Lim c R) {Φ : Ih → Option Out} (hΦ : Fin1 c R Φ) (k : List Item) (t : T V) (ds : List Dfr) (up : Option Md) (rd : Option Nat) (d l : Nat) : Fin1 c R (fun ih => rangeTo (goOf ih f fn) k t ds up rd d l (Φ ih)) := by
  refine hΦ.bind (Ψ := fun ih x => rangeTo (goOf ih f fn) k t ds up rd d l x) (fun _ => rfl) fun x => ?_
  obtain ⟨e, u, s⟩ := x
  cases e with
  | panicked c => exact fin_go h _ _ _ _ _ _ _
  | returned v =>
    simp only [rangeTo]
    unfold loopOver
    split
    · split
      · exact Fin1.const _
      · exact fin_go h _ _ _ _ _ _ _
    · exact Fin1.const _
theorem fin_rangeFrom (h : Lim c R) (nt : Nat) (k : List Item) (t : T V) (ds : List Dfr) (up : Option Md) (rd : Option Nat) (s : S) (ps : Array Tmp) (a b : Code) (x : Option V) : Fin1 c R (fun ih => rangeFrom f nt (goOf ih f fn) (recOf ih) k t ds up rd s ps a b x) := by
  unfold rangeFrom
  split
  · split
    · split
      · exact fin_rangeTo h (Fin1.ih h _ _) _ _ _ _ _ _ _
      · exact Fin1.const _
    · exact Fin1.const _
  · exact Fin1.const _
theorem fin_codeStep (h : Lim c R) {E : Env} (co : Code) (k : List Item) (t : T V) (ds : List Dfr) (up : Option Md) (rd : Option Nat) (s : S) : Fin1 c R (fun ih => codeStep co E f fn (goOf ih f fn) (recOf ih) (recROf ih) k t ds up rd s) := by
  cases co <;> simp only [codeStep] <;> try exact fin_go h _ _ _ _ _ _ _
  case ret => exact fin_leaveV h _ _ _ _ _ _
  case cond q a b =>
    unfold condTo
    split
    · exact fin_go h _ _ _ _ _ _ _
    · exact Fin1.const _
  case exit id =>
    unfold jumpTo
    split
    · exact fin_go h _ _ _ _ _ _ _
    · exact fin_leaveV h _ _ _ _ _ _
  case goto l =>
    unfold jumpTo
    split
    · exact fin_go h _ _ _ _ _ _ _
    · exact fin_leaveV h _ _ _ _ _ _
  case rangeFunc g ps a b => exact fin_rangeFrom h _ _ _ _ _ _ _ _ _ _ _
  case region id ops draws =>
    cases draws <;> simp only [] <;> cases dstOk ops fn.ntmps <;> simp only [cond_true, cond_false] <;> first | exact Fin1.const _ | exact fin_regionTo h (fin_runOps h _ _ _ _ _ _) _ _ | exact fin_regionTo h (fin_runDrawn h _ _ _ _) _ _
  case refuse => exact Fin1.const _
theorem fin_itemStep (h : Lim c R) {E : Env} (i : Item) (k : List Item) (t : T V) (ds : List Dfr) (up : Option Md) (rd : Option Nat) (s : S) : Fin1 c R (fun ih => itemStep i E f fn (goOf ih f fn) (recOf ih) (recROf ih) k t ds up rd s) := by
  cases i <;> simp only [itemStep] <;> try (first | exact fin_go h _ _ _ _ _ _ _ | exact Fin1.const _)
  case code co => exact fin_codeStep h co _ _ _ _ _ _
  case beginRound =>
    cases rd with
    | none => exact Fin1.const _
    | some l =>
      simp only
      unfold beginTo
      split
      · exact fin_go h _ _ _ _ _ _ _
      · exact Fin1.const _
theorem fin_unwind (h : Lim c R) {E : Env} (ds : List Dfr) (t : T V) (m : Md) (up : Option Md) (rd : Option Nat) (s : S) : Fin1 c R (fun ih => unwindStep ds E fn (goOf ih f fn) (recOf ih) t m up rd s) := by
  cases ds with
  | nil => exact Fin1.const _
  | cons d ds =>
    cases d with
    | collected b =>
      simp only [unwindStep]
      unfold collectedTo
      split
      · exact fin_go h _ _ _ _ _ _ _
      · exact Fin1.const _
    | call fn cap args =>
      cases fn with
      | func g =>
        simp only [unwindStep]
        refine (Fin1.ih h (.call g (args ++ cap) (some m)) s).bind (Ψ := fun ih x => deferTo2 (goOf ih f _) t ds up rd x) (fun _ => rfl) fun x => ?_
        unfold deferTo2
        split
        · split
          · exact Fin1.const _
          · exact fin_go h _ _ _ _ _ _ _
        · exact fin_go h _ _ _ _ _ _ _
        · exact Fin1.const _
      | _ => exact Fin1.const _
theorem fin_jobStep (h : Lim c R) {E : Env} (j : Job) (s : S) : Fin1 c R (fun ih => jobStep E ih j s) := by
  cases j with
  | frame f fn t todo ds m up rd =>
    simp only [jobStep]
    cases m with
    | run =>
      simp only [frameStep]
      cases todo with
      | nil => simp only [todoStep]; exact fin_leaveV h _ _ _ _ _ _
      | cons i k => simp only [todoStep]; exact fin_itemStep h i _ _ _ _ _ _
    | returning => simp only [frameStep]; exact fin_unwind h _ _ _ _ _ _
    | panicking c => simp only [frameStep]; exact fin_unwind h _ _ _ _ _ _
  | call f args up =>
    simp only [jobStep]
    unfold callOr
    split
    · exact Fin1.const _
    · unfold enterV
      split
      · split
        · rename_i fn _ _ co _
          cases hn : (fn.name == "runtime.NumGoroutine") with
          | true => exact Fin1.const _
          | false =>
            have : (fun ih : Ih => bif false then none else initT args 0 .leaf fun t => ih (.frame f fn t [.code co] [] .run up none) s) = fun ih => ih (.frame f fn (initT args 0 .leaf id) [.code co] [] .run up none) s := funext fun ih => initT_eq args 0 .leaf _
            rw [this]
            exact Fin1.ih h _ _
        · exact Fin1.const _
      · exact Fin1.const _
  | round l args =>
    simp only [jobStep]
    unfold roundV
    split
    · split
      · rename_i _ _ f0 t0 ps assign body _ nt _ _ fn _
        cases hn : (Nat.ble fn.ntmps nt && Nat.beq ps.size args.length && ps.toList.all (fun p => Nat.blt p nt)) with
        | false => exact Fin1.const _
        | true =>
          have : (fun ih : Ih => bif true then putParams t0 ps.toList args fun t => ih (.frame f0 fn t [.code assign, .beginRound, .code body] [] .run none (some l)) s else none) = fun ih => ih (.frame f0 fn (putParams t0 ps.toList args id) [.code assign, .beginRound, .code body] [] .run none (some l)) s := funext fun ih => putParams_eq ps.toList args t0 _
          rw [this]
          exact Fin1.ih h _ _
      · exact Fin1.const _
    · exact Fin1.const _
end
noncomputable def lim (E : Env) : Ih := fun j s => open Classical in if h : ∃ o n, runK E n j s = some o then some h.choose else none
theorem runK_mono1 (E : Env) : ∀ n j s o, runK E n j s = some o → runK E (n + 1) j s = some o
  | 0, _, _, _, h => by cases h
  | n + 1, j, s, o, h => by
    have hl : Lim (fun _ => runK E (n + 1)) (runK E n) := fun j s o h => ⟨0, fun _ _ => runK_mono1 E n j s o h⟩
    obtain ⟨k, hk⟩ := fin_jobStep hl (E := E) j s o h
    exact hk k (Nat.le_refl _)
theorem runK_mono (E : Env) {n m : Nat} (hm : n ≤ m) {j : Job} {s : S} {o : Out} (h : runK E n j s = some o) : runK E m j s = some o := by
  induction hm with
  | refl => exact h
  | step _ ih => exact runK_mono1 E _ j s o ih
theorem runK_lim {E : Env} {n : Nat} {j : Job} {s : S} {o : Out} (h : runK E n j s = some o) : lim E j s = some o := by
  have hex : ∃ o n, runK E n j s = some o := ⟨o, n, h⟩
  unfold lim
  rw [dif_pos hex]
  obtain ⟨m, hm⟩ := hex.choose_spec
  have h1 := runK_mono E (Nat.le_max_left n m) h
  have h2 := runK_mono E (Nat.le_max_right n m) hm
  rw [h1] at h2
  rw [← Option.some.inj h2]
theorem lim_runK {E : Env} {j : Job} {s : S} {o : Out} (h : lim E j s = some o) : ∃ n, runK E n j s = some o := by
  unfold lim at h
  split at h
  · rename_i hex
    cases h
    exact hex.choose_spec
  · cases h
theorem lim_Lim (E : Env) : Lim (runK E) (lim E) := fun j s o h => by
  obtain ⟨n, hn⟩ := lim_runK h
  exact ⟨n, fun m hm => runK_mono E hm hn⟩
theorem lim_eq (E : Env) (j : Job) (s : S) : lim E j s = jobStep E (lim E) j s := by
  cases h : jobStep E (lim E) j s with
  | some o =>
    obtain ⟨n, hn⟩ := fin_jobStep (lim_Lim E) j s o h
    exact runK_lim (n := n + 1) (hn n (Nat.le_refl _))
  | none =>
    cases h2 : lim E j s with
    | none => rfl
    | some o =>
      obtain ⟨n, hn⟩ := lim_runK h2
      cases n with
      | zero => cases hn
      | succ n =>
        have hl : Lim (fun _ => lim E) (runK E n) := fun j s o h => ⟨0, fun _ _ => runK_lim h⟩
        obtain ⟨k, hk⟩ := fin_jobStep hl (E := E) j s o hn
        have h3 : jobStep E (lim E) j s = some o := hk k (Nat.le_refl _)
        rw [h] at h3; cases h3
theorem lim_good {E : Env} (hE : EnvOk E) (hO : OrcOk E) (hD : DrawnSound E) : Good E.P (lim E) := fun j s o h => by
  obtain ⟨n, hn⟩ := lim_runK h
  exact runK_sound hE hO hD n j s o hn
end Go.AI
/- Operations that look at memory at most: what they leave as it is, and what they look at. -/
namespace Go.AI
section ops
variable {P : Program} {ρ : Rho} {s : S} {w : World} {t : T V} {tm : Array Value}
theorem callB_pure (h : HR ρ s w) {b : Builtin} (hb : b = .len ∨ b = .cap ∨ b = .max ∨ b = .min) {ts : Array TypeId} {ty : TypeId} {consts : Array Bool} {args : List V} {ys : List Value} (hd : denL ρ args = some ys) {nx : Nx} (e : callB P b ts args s = some nx) :
    NxV P ρ w s nx ((Go.builtin b ts ty consts ys.toArray).run P w) := by
  rcases hb with rfl | rfl | rfl | rfl
  · simp only [callB] at e
    split at e
    · rename_i t0 h0
      split at e
      · rename_i x
        obtain ⟨X, hx, rfl⟩ := den_one hd
        exact nxVal_sound h e fun v hv => lenV_sound h h0 hx hv
      · cases e
    · cases e
  · simp only [callB] at e
    split at e
    · rename_i t0 h0
      split at e
      · rename_i x
        obtain ⟨X, hx, rfl⟩ := den_one hd
        exact nxVal_sound h e fun v hv => capV_sound h0 hx hv
      · cases e
    · cases e
  · simp only [callB] at e
    refine nxVal_sound (m := Builtin.max_ ts ty ys.toArray) h e fun v hv => ?_
    cases args with
    | nil => cases hv
    | cons x r =>
      obtain ⟨X, q, hx, hr, rfl⟩ := denL_cons.1 hd
      exact fold_sound maxV_sound r q x X v hr hx hv
  · simp only [callB] at e
    refine nxVal_sound (m := Builtin.min_ ts ty ys.toArray) h e fun v hv => ?_
    cases args with
    | nil => cases hv
    | cons x r =>
      obtain ⟨X, q, hx, hr, rfl⟩ := denL_cons.1 hd
      exact fold_sound minV_sound r q x X v hr hx hv
theorem convV_pure (h : HR ρ s w) (ht : TR ρ t tm) {src dst : TypeId} (hdst : ∀ el, P.underlying dst ≠ some (.slice el)) {x : Operand} {nx : Nx} (e : doConv P s src dst (eval t x) = some nx) :
    NxV P ρ w s nx ((do pure (Next.value (← convert src dst (rv tm x))) : Sem Next).run P w) := by
  unfold doConv at e
  split at e
  · rename_i v hv
    have dv := eval_sound ht hv
    generalize rv tm x = X at *
    unfold nxPair at e
    split at e
    · rename_i y s' hc
      cases e
      unfold convV at hc
      split at hc
      · rename_i ds hs
        split at hc
        · rename_i k hd
          split at hc
          · rename_i j n
            cases hc; cases dv
            have : (convert src dst (.int j n)).run P w = .ok (.int k (k.wrap n)) w := by
              cases ds <;> simp [convert, run_und hs, run_und hd, Conv.intToInt]
            exact ⟨_, .int k (k.wrap n), rfl, by simp [this], by rw [mkInt_eq]; rfl⟩
          · cases hc
        · rename_i hd
          obtain ⟨rfl, y', h1, h2⟩ := toStr_sound h hs hd dv hc
          exact ⟨_, y', rfl, by simp [h2], h1⟩
        · rename_i el hd
          exact absurd hd (hdst el)
        · cases hc
      · cases hc
    · cases e
  · cases e
theorem opDo_pure {E : Env} (h : HR ρ s w) (ht : TR ρ t tm) (o : Oper) (hk : opKind E.P o.op ≤ 1) {nx : Nx} (e : doOp E t s o = some nx) : NxV E.P ρ w s nx ((execOp (rv tm) o).run E.P w) := by
  obtain ⟨dst, op, type, pos, after, guard⟩ := o
  unfold doOp at e
  simp only at e hk
  cases op <;> simp only [opDo] at e <;> try (cases e; done)
  case move x => exact moveLike h ht e
  case assign x => exact moveLike h ht e
  case pick c a b => exact doPick_sound h ht e
  case alloc elem => simp [opKind] at hk
  case box elem x => simp [opKind] at hk
  case build ty parts => exact doBuild_sound h ht e
  case buildSlice ty len parts => simp [opKind] at hk
  case load ty x => exact doLoad_sound h ht e
  case store ty x y => simp [opKind] at hk
  case nilCheck x => exact doNilCheck_sound h ht e
  case binOp op ty x y z => exact doBin_sound h ht e
  case unOp op ty x => exact doUn_sound h ht e
  case convert src dst x =>
    refine convV_pure h ht (fun el hu => ?_) e
    simp [opKind, hu] at hk
  case makeInterface ty x => exact doMkIface_sound h ht e
  case makeFunc fn first cap => exact doMkFunc_sound h ht e
  case makeMap ty r => simp [opKind] at hk
  case makeSlice ty l c => simp [opKind] at hk
  case slice ty x lo hi mx => exact doSlice_sound h ht e
  case fieldAddr ty x f => exact doFieldAddr_sound h ht e
  case field ty x f => exact doField_sound h ht e
  case indexAddr ty x i => exact doIndexAddr_sound h ht e
  case index ty x i => exact doIndex_sound h ht e
  case lookup ty x k ok => exact doLookup_sound h ht e
  case mapUpdate ty m k x => simp [opKind] at hk
  case insert ty m k x => simp [opKind] at hk
  case typeAssert x xt ty ok => exact doAssert_sound h ht e
  case extract x i => exact doExtract_sound h ht e
  case call c =>
    unfold callTo at e
    split at e
    · rename_i args ha
      obtain ⟨ys, y1, y2⟩ := args_den ht ha
      split at e
      · rename_i b hc
        have hb : b = .len ∨ b = .cap ∨ b = .max ∨ b = .min := by
          simp only [opKind, hc] at hk
          cases b <;> simp at hk ⊢
        simp only [execOp, resolve, hc, Sem.run_bind, Sem.run_pure, Result.andThen_ok, invoke, y2]
        exact callB_pure h hb y1 e
      · rename_i f hc
        simp [opKind, hc] at hk
      · cases e
    · cases e
  case defer c => simp [opKind] at hk
  case panic x => simp [opKind] at hk
end ops
end Go.AI
/- Operations that make memory: the value and the block hang on no state. -/
namespace Go.AI
section ops
variable {P : Program} {ρ : Rho} {s : S} {w : World} {t : T V} {tm : Array Value}
def Made (P : Program) (ρ : Rho) (w : World) (mk : Nat → V) (B : Blk) (m : Sem Next) : Prop :=
  ∃ y obj lim n, m.run P w = .ok (.value y) ({ w with drawn := n }.alloc obj) ∧
    ∀ ρ' f, ρ.le ρ' → ρ' f 0 = some ⟨w.heap.size, 0, lim⟩ → (∀ v, 1 ≤ v → ρ' f v = none) → den ρ' (mk f) = some y ∧ ∀ w' : World, w'.heap[w.heap.size]? = some obj → BlkR ρ' w' f B
theorem cells_blk {ρ' : Rho} {f : Nat} {lim b : Nat} {cs : List V} {ys : Array Value} {sb : Bool} {el e' : TypeId} {fz : Nat × Nat} (hd : denL ρ cs = some (ys.toList.take cs.length)) (hfz : (sb = false → fz = (0, 0)) ∧ ∀ i, i < ys.size → ¬ (fz.1 ≤ i ∧ i < fz.2))
    (hl : ρ.le ρ') (h0 : ρ' f 0 = some ⟨b, 0, lim⟩) (h1 : ∀ v, 1 ≤ v → ρ' f v = none) (hlim : lim = ys.size) {w' : World} (hw : w'.heap[b]? = some (.cells ys e' fz)) : BlkR ρ' w' f (.cells el sb 1 [⟨0, 0, cs⟩]) := by
  refine ⟨h1, fun u hu => ?_⟩
  simp at hu; subst hu
  refine ⟨Nat.zero_lt_one, _, ys, e', fz, h0, hw, Nat.le_refl _, by simp [hlim], hfz, fun i x hx => ?_⟩
  obtain ⟨y, hy, hy'⟩ := denL_get i hd hx
  refine ⟨y, den_mono hl _ _ hy, ?_⟩
  have hi : i < cs.length := (List.getElem?_eq_some_iff.1 hx).1
  rw [List.getElem?_take_of_lt hi, Array.getElem?_toList] at hy'
  simpa using hy'
theorem made_var {elem : TypeId} {v : V} {y : Value} (hv : den ρ v = some y) : Made P ρ w (fun f => .ptr ⟨f, 0, 0⟩) (.cells elem false 1 [⟨0, 0, v.cells⟩]) (do pure (Next.value (.pointer (some (← newVar elem y))))) := by
  refine ⟨_, _, y.cells.size, w.drawn, by simp [newVar, newRow]; exact ⟨rfl, rfl⟩, fun ρ' f hl h0 h1 => ⟨by simp [den, denA, h0], fun w' hw => ?_⟩⟩
  exact cells_blk (by rw [den_cells hv, ← cells_size hv, List.take_of_length_le (by simp)]) ⟨fun _ => rfl, by simp⟩ hl h0 h1 rfl hw
theorem made_row {elem : TypeId} {cs : List V} {ys : Array Value} (hd : denL ρ cs = some ys.toList) {len sz cap : Nat} (hl : len ≤ cap) (hsz : 0 < sz) :
    Made P ρ w (fun f => .slice ⟨f, 0, 0⟩ 0 len (some cap) sz) (.cells elem false 1 [⟨0, 0, cs⟩]) (do pure (Next.value (.slice (some (← newRow elem ys)) len cap))) := by
  have hlen : cs.length = ys.size := by have := denL_length hd; simpa using this.symm
  refine ⟨_, _, ys.size, w.drawn, by simp [newRow]; exact ⟨rfl, rfl⟩, fun ρ' f hle h0 h1 => ⟨?_, fun w' hw => ?_⟩⟩
  · exact slice_mk (a := ⟨f, 0, 0⟩) (cap := some cap) h0 (Nat.zero_le _) (Nat.zero_le _) hl hsz
  · exact cells_blk (by rw [hd, hlen, List.take_of_length_le (by simp)]) ⟨fun _ => rfl, by simp⟩ hle h0 h1 rfl hw
def MadeOp (P : Program) (ρ : Rho) (w : World) (d : S → Option Nx) (m : Sem Next) : Prop :=
  ∃ mk B, (∀ s', d s' = some (.val (mk s'.next) (s'.alloc B))) ∧ Made P ρ w mk B m
theorem Made.congr {mk : Nat → V} {B : Blk} {m m' : Sem Next} (h : Made P ρ w mk B m) (e : m'.run P w = m.run P w) : Made P ρ w mk B m' := by
  obtain ⟨y, obj, lim, n, h1, h2⟩ := h
  exact ⟨y, obj, lim, n, e.trans h1, h2⟩
theorem doAlloc_made {elem : TypeId} {nx : Nx} (e : doAlloc P s elem = some nx) : MadeOp P ρ w (fun s => doAlloc P s elem) (do pure (Next.value (← Instr.alloc elem true (.tuple #[])))) := by
  unfold doAlloc at e
  split at e
  · rename_i z hz
    obtain ⟨y, i, hi, hzi, hd⟩ := zero_spec hz
    refine ⟨_, _, fun s' => by simp only [doAlloc, hz, nxNew, newCells, newCellsB], (made_var (P := P) (w := w) (elem := elem) (hd ρ)).congr ?_⟩
    simp only [Instr.alloc, Sem.run_bind, run_zero hi hzi, Result.andThen_ok, Sem.run_pure]
    simp [newVar, newRow]
  · cases e
theorem doBox_made (ht : TR ρ t tm) {elem : TypeId} {x : Operand} {nx : Nx} (e : doBox s elem (eval t x) = some nx) : MadeOp P ρ w (fun s => doBox s elem (eval t x)) (do pure (Next.value (← Instr.box elem (rv tm x)))) := by
  unfold doBox at e
  split at e
  · rename_i z hz
    refine ⟨_, _, fun s' => by simp only [doBox, hz, nxNew, newCells, newCellsB], (made_var (P := P) (w := w) (elem := elem) (eval_sound ht hz)).congr ?_⟩
    simp only [Instr.box, Sem.run_bind, Sem.run_pure]
    simp [newVar, newRow]
  · cases e
theorem doMakeMap_made {ty : TypeId} : MadeOp P ρ w (fun s => some (.val (.map s.next) (s.alloc (.map [] 0)))) (do pure (Next.value (← Instr.makeMap ty none))) := by
  refine ⟨fun f => .map f, .map [] 0, fun s' => rfl, .map (some w.heap.size), .map #[] 0, 0, w.drawn, by simp [Instr.makeMap], fun ρ' f hl h0 h1 => ⟨by simp [den, h0], fun w' hw => ⟨_, #[], h0, hw, trivial⟩⟩⟩
def RowOp (P : Program) (ρ : Rho) (w : World) (d : S → Option Nx) (m : Sem Value) : Prop :=
  ∃ (el : TypeId) (cs : List V) (ys : Array Value) (len cap sz : Nat), (∀ s', d s' = some (.val (.slice (newCells s' el cs).1 0 len (some cap) sz) (newCells s' el cs).2)) ∧ denL ρ cs = some ys.toList ∧ len ≤ cap ∧ 0 < sz ∧
    m.run P w = (do pure (.slice (some (← newRow el ys)) len cap) : Sem Value).run P w
theorem RowOp.made {d : S → Option Nx} {m : Sem Value} (h : RowOp P ρ w d m) : MadeOp P ρ w d (do pure (Next.value (← m))) := by
  obtain ⟨el, cs, ys, len, cap, sz, h1, h2, h3, h4, h5⟩ := h
  refine ⟨_, _, fun s' => by rw [h1]; simp only [newCells, newCellsB], (made_row (P := P) (w := w) (elem := el) h2 h3 h4).congr ?_⟩
  simp only [Sem.run_bind] at h5 ⊢
  rw [h5]
  simp [newRow]
theorem doMkSlice_row (ht : TR ρ t tm) {ty : TypeId} {l c : Operand} {nx : Nx} (e : doMkSlice P s ty (natOfO (eval t l)) (natOfO (eval t c)) = some nx) :
    RowOp P ρ w (fun s => doMkSlice P s ty (natOfO (eval t l)) (natOfO (eval t c))) (Instr.makeSlice ty (rv tm l) (rv tm c)) := by
  unfold doMkSlice at e
  split at e
  · rename_i el hu
    split at e
    · rename_i l' hl
      split at e
      · rename_i c' hc
        obtain ⟨k1, e1⟩ := natOfO_eval ht hl
        obtain ⟨k2, e2⟩ := natOfO_eval ht hc
        split at e
        · rename_i z hz
          obtain ⟨zv, i, hi, hzi, hden⟩ := zero_spec hz
          split at e
          · rename_i n hn
            cases hb : (Nat.ble l' c' && Nat.ble c' 2199023255552 && !(Nat.beq n 0) && Nat.beq z.cells.length n && smallT P el c') with
            | false => simp [hb] at e
            | true =>
              have hbb := hb
              simp only [hb, cond_true] at e
              simp only [Bool.and_eq_true] at hb
              obtain ⟨⟨⟨⟨b1, b2⟩, b3⟩, b4⟩, b5⟩ := hb
              have b1 := Nat.le_of_ble_eq_true b1
              have b2 := Nat.le_of_ble_eq_true b2
              have b4 := Nat.eq_of_beq_eq_true b4
              have b3 : 0 < n := by
                rcases Nat.eq_zero_or_pos n with h0 | h0
                · subst h0; simp at b3
                · exact h0
              have b5 : i.bytes * c' ≤ 100000000000000 := by
                unfold smallT at b5
                simp only [hi] at b5
                exact Nat.le_of_ble_eq_true b5
              have hzc := den_cells (hden ρ)
              have hzl : zv.cells.toList.length = n := by have := denL_length hzc; omega
              have hrow := copies zv.cells.toList n hzl b3 c'
              have hd : denL ρ (List.replicate c' z.cells).flatten = some ((List.replicate c' zv.cells.toList).flatten.toArray).toList := by simpa using denL_flatten hzc c'
              have hrun : (Instr.makeSlice ty (rv tm l) (rv tm c)).run P w = (do pure (.slice (some (← newRow el (List.replicate c' zv.cells.toList).flatten.toArray)) l' c') : Sem Value).run P w := by
                have hsz := run_size hn w
                have w1 := wrap_small l' (by omega)
                have w2 := wrap_small c' b2
                simp only [Int.ofNat_eq_natCast] at w1 w2
                have hA : ∀ k n, (asInt (.int k n)).run P w = .ok n w := fun k n => by simp [asInt, asIntOf]
                have hrow2 : Array.map (fun x => zv.cells[x % zv.cells.size]!) (Array.range (c' * n)) = (List.replicate c' zv.cells.toList).flatten.toArray := by
                  apply Array.toList_inj.1
                  rw [← hrow]
                  simp [Array.toList_range]
                have hbig : (decide ((c' : Int) < 0) || decide ((i.bytes : Int) * (c' : Int) > 2 ^ 48)) = false := by
                  have g1 : ¬ ((c' : Int) < 0) := by omega
                  have g2 : ¬ ((i.bytes : Int) * (c' : Int) > 2 ^ 48) := by
                    have e : (i.bytes : Int) * (c' : Int) = ((i.bytes * c' : Nat) : Int) := (Int.natCast_mul _ _).symm
                    rw [e]
                    generalize i.bytes * c' = q at b5
                    have : (2 : Int) ^ 48 = 281474976710656 := rfl
                    omega
                  rw [decide_eq_false g1, decide_eq_false g2]; rfl
                have hl0 : decide ((l' : Int) < 0) = false := by simp
                have hlc : decide ((l' : Int) > (c' : Int)) = false := by simp; omega
                have hti : (typeInfo el).run P w = .ok i w := by simp [typeInfo, hi]
                have hzr := run_zero hi hzi w
                simp only [Instr.makeSlice, Sem.run_bind, run_und hu, Result.andThen_ok, e1, e2, hA, Sem.run_pure, hti, Int.ofNat_eq_natCast, w1, w2, Int.toNat_natCast]
                rw [if_neg (by rw [hbig, hl0, hlc]; simp)]
                simp only [Sem.run_bind, run_askRoom, Result.andThen_ok, hsz]
                by_cases hc0 : c' * n = 0
                · rw [if_pos hc0]
                  have g : ∀ f : Nat → Value, Array.map f (Array.range 0) = #[] := fun f => by simp
                  simp only [Sem.run_bind, Sem.run_pure, Result.andThen_ok, ← hrow2, hc0, g]
                · rw [if_neg hc0]
                  simp only [Sem.run_bind, hzr, Result.andThen_ok, Sem.run_pure, hrow2]
              have hb' : (Nat.ble l' c' && Nat.ble c' 2199023255552 && !(Nat.beq n 0) && Nat.beq z.cells.length n && smallT P el c') = true := hbb
              exact ⟨el, _, _, l', c', n, fun s' => by simp only [doMkSlice, hu, hl, hc, hz, hn, hb', cond_true, newCells, newCellsB], hd, b1, b3, hrun⟩
          · cases e
        · cases e
      · cases e
    · cases e
  · cases e
theorem doBuildSlice_row (ht : TR ρ t tm) {ty : TypeId} {len : Nat} {parts : Array (Nat × Operand)} {nx : Nx} (e : doBuildSlice P s ty len (evalsO t parts.toList) = some nx) :
    RowOp P ρ w (fun s => doBuildSlice P s ty len (evalsO t parts.toList)) (Instr.buildSlice ty len (parts.map fun (i, x) => (i, rv tm x))) := by
  unfold doBuildSlice at e
  split at e
  · rename_i el hu
    split at e
    · rename_i l hl
      have hl0 := hl
      have hp := evalsO_sound ht hl
      have hpl : (parts.toList.map fun (i, x) => (i, rv tm x)) = (parts.map fun (i, x) => (i, rv tm x)).toList := by simp
      rw [hpl] at hp
      split at e
      · rename_i z hz
        obtain ⟨zv, it, hi, hzi, hden⟩ := zero_spec hz
        have hzc := den_cells (hden ρ)
        split at e
        · rename_i n hn
          cases hb : (Nat.ble (len * n) 10000 && !(Nat.beq n 0) && Nat.beq z.cells.length n) with
          | false => rw [hb] at e; cases e
          | true =>
            have hbb := hb
            rw [hb] at e
            simp only [cond_true] at e
            simp only [Bool.and_eq_true] at hb
            have b1 := Nat.le_of_ble_eq_true hb.1.1
            have b2 : 0 < n := by
              rcases Nat.eq_zero_or_pos n with h0 | h0
              · subst h0; simp at hb
              · exact h0
            have b3 := Nat.eq_of_beq_eq_true hb.2
            unfold sliceNew at e
            split at e
            · rename_i cs hcs
              have hzl : zv.cells.toList.length = n := by have := denL_length hzc; omega
              have hrow := copies zv.cells.toList n hzl b2 len
              have hd : denL ρ (List.replicate len z.cells).flatten = some ((List.replicate len zv.cells.toList).flatten.toArray).toList := by simpa using denL_flatten hzc len
              obtain ⟨zs, hz1, hz2⟩ := fill_sound (place := fun i => some (i * n, n)) (fun i x hx => hx) hp hd hcs
              have hrow2 : Array.map (fun x => zv.cells[x % zv.cells.size]!) (Array.range (len * n)) = (List.replicate len zv.cells.toList).flatten.toArray := by
                apply Array.toList_inj.1
                rw [← hrow]
                simp [Array.toList_range]
              have hrun : (Instr.buildSlice ty len (parts.map fun (i, x) => (i, rv tm x))).run P w = (do pure (.slice (some (← newRow el zs)) len len) : Sem Value).run P w := by
                simp only [Instr.buildSlice, Sem.run_bind, run_und hu, Result.andThen_ok, run_size hn]
                rw [if_neg (by omega)]
                by_cases hc0 : len * n = 0
                · rw [if_pos hc0]
                  have g : ∀ f : Nat → Value, Array.map f (Array.range 0) = #[] := fun f => by simp
                  rw [← hrow2, hc0, g] at hz1
                  simp only [Sem.run_bind, Sem.run_pure, Result.andThen_ok, hc0, g, hz1]
                · rw [if_neg hc0]
                  simp only [Sem.run_bind, run_zero hi hzi, Result.andThen_ok, Sem.run_pure, hrow2, hz1]
              exact ⟨el, _, _, len, len, n, fun s' => by simp only [doBuildSlice, hu, hl0, hz, hn, hbb, cond_true, sliceNew, hcs, newCells, newCellsB], hz2, Nat.le_refl _, b2, hrun⟩
            · cases e
        · cases e
      · cases e
    · cases e
  · cases e
theorem doConv_made (ht : TR ρ t tm) {src dst el : TypeId} (hdst : P.underlying dst = some (.slice el)) {x : Operand} {nx : Nx} (e : doConv P s src dst (eval t x) = some nx) :
    MadeOp P ρ w (fun s => doConv P s src dst (eval t x)) (do pure (Next.value (← convert src dst (rv tm x)))) := by
  unfold doConv at e
  split at e
  · rename_i v hv
    have dv := eval_sound ht hv
    generalize rv tm x = X at *
    unfold nxPair convV at e
    cases hs : P.underlying src with
    | none => simp [hs] at e
    | some ds =>
      simp only [hs, hdst] at e
      cases v <;> simp only [toBytes] at e <;> try (cases e; done)
      rename_i l
      cases ds <;> simp only at e <;> try (cases e; done)
      cases hb : isBytes P el with
      | false => rw [hb] at e; cases e
      | true =>
        cases dv
        have hrun := run_bytes_of_string w src dst el (bytesV l) hs hdst (isBytes_spec hb)
        rw [bytesV_size] at hrun
        have hge := grownCap_ge w l.length 0 el
        generalize hc : grownCap w l.length 0 el = cap at *
        have hsz : (bytesRow (bytesV l) cap).size = cap := by
          simp only [bytesRow, Array.size_append, Array.size_map, Array.size_replicate, bytesV_size]
          have : (bytesV l).data.size = l.length := bytesV_size l
          omega
        rw [hsz] at hrun
        have hd' : denL ρ (l.map byteV) = some ((bytesRow (bytesV l) cap).toList.take (l.map byteV).length) := by
          rw [byteV_den]
          have : (bytesV l).data.toList.length = l.length := by simp [bytesV]
          simp [bytesRow, this]
        refine ⟨fun f => .slice ⟨f, 0, 0⟩ 0 l.length none 1, .cells el true 1 [⟨0, 0, l.map byteV⟩], fun s' => ?_, _, _, cap, w.drawn + 1, by simp only [Sem.run_bind, hrun, Result.andThen_ok, Sem.run_pure]; rfl, fun ρ' f hl h0 h1 => ⟨?_, fun w' hw => ?_⟩⟩
        · simp only [doConv, hv, nxPair, convV, hs, hdst, toBytes, hb, cond_true, newCellsB]
        · have := slice_mk (a := ⟨f, 0, 0⟩) (z := 0) (len := l.length) (cap := none) (sz := 1) h0 (by simp) (Nat.zero_le _) (by simpa [capOf] using hge) Nat.one_pos
          rw [this]
          simp [capOf, coordOf]
        · exact cells_blk hd' ⟨(fun h => by cases h), fun i hi => by rw [hsz] at hi; simp; omega⟩ hl h0 h1 hsz.symm hw
  · cases e
theorem opDo_make {E : Env} (ht : TR ρ t tm) (o : Oper) (hk : opKind E.P o.op = 2) {nx : Nx} (e : doOp E t s o = some nx) : MadeOp E.P ρ w (fun s => doOp E t s o) (execOp (rv tm) o) := by
  obtain ⟨dst, op, type, pos, after, guard⟩ := o
  unfold doOp at e ⊢
  simp only at e hk ⊢
  cases op <;> simp only [opDo] at e ⊢ <;> try (cases e; done)
  case alloc elem => exact doAlloc_made e
  case box elem x => exact doBox_made ht e
  case buildSlice ty len parts => exact (doBuildSlice_row ht e).made
  case makeMap ty r =>
    cases r with
    | none => exact doMakeMap_made
    | some _ => cases e
  case makeSlice ty l c => exact (doMkSlice_row ht e).made
  case convert src dst x =>
    cases hu : E.P.underlying dst with
    | none => simp [opKind, hu] at hk
    | some d => cases d <;> simp [opKind, hu] at hk; exact doConv_made ht hu e
  case binOp op ty x y z => simp only [opKind] at hk; cases hb : isEq op <;> simp [hb] at hk
  case call c => simp only [opKind] at hk; split at hk <;> simp at hk
  all_goals simp [opKind] at hk
end ops
end Go.AI
/- What an operation looks at. -/
namespace Go.AI
section ops
variable {s : S} {t t' : T V}
theorem evals_congr : ∀ {l : List Operand}, (∀ x ∈ l, eval t x = eval t' x) → evals t l = evals t' l
  | [], _ => rfl
  | x :: r, h => by
    have ih := evals_congr (l := r) fun y hy => h y (List.mem_cons_of_mem _ hy)
    simp only [evals, h x (by simp), ih]
theorem evalsO_congr : ∀ {l : List (Nat × Operand)}, (∀ x ∈ l, eval t x.2 = eval t' x.2) → evalsO t l = evalsO t' l
  | [], _ => rfl
  | (i, x) :: r, h => by
    have ih := evalsO_congr (l := r) fun y hy => h y (List.mem_cons_of_mem _ hy)
    simp only [evalsO, h (i, x) (by simp), ih]
theorem evalO_congr {x : Option Operand} (h : ∀ y, x = some y → eval t y = eval t' y) : evalO t x = evalO t' x := by
  cases x with
  | none => rfl
  | some y => simp only [evalO, h y rfl]
theorem doOp_congr {E : Env} (o : Oper) (h : ∀ x ∈ o.op.operands, eval t x = eval t' x) : doOp E t s o = doOp E t' s o := by
  obtain ⟨dst, op, type, pos, after, guard⟩ := o
  unfold doOp
  simp only at h ⊢
  cases op <;> simp only [Op.operands] at h <;> simp only [opDo] <;> try rfl
  case move x => rw [h x (by simp)]
  case assign x => rw [h x (by simp)]
  case pick c a b =>
    have h1 : ∀ q : Bool, eval t (bif q then a else b) = eval t' (bif q then a else b) := fun q => by cases q <;> exact h _ (by simp)
    simp only [doPick, h c (by simp), h1]
  case box elem x => rw [h x (by simp)]
  case build ty parts => rw [evalsO_congr fun x hx => h x.2 (by simp; exact ⟨x.1, by simpa using hx⟩)]
  case buildSlice ty len parts => rw [evalsO_congr fun x hx => h x.2 (by simp; exact ⟨x.1, by simpa using hx⟩)]
  case load ty x => rw [h x (by simp)]
  case store ty x y => rw [h x (by simp), h y (by simp)]
  case nilCheck x => rw [h x (by simp)]
  case binOp op ty x y z => rw [h x (by simp), h y (by simp)]
  case unOp op ty x => rw [h x (by simp)]
  case convert src dst x => rw [h x (by simp)]
  case makeInterface ty x => rw [h x (by simp)]
  case makeFunc fn first cap => rw [evals_congr fun x hx => h x (by simp; left; simpa using hx), evals_congr (l := cap.toList) fun x hx => h x (by simp; right; simpa using hx)]
  case makeMap ty r => cases r <;> rfl
  case makeSlice ty l c => rw [h l (by simp), h c (by simp)]
  case slice ty x lo hi mx =>
    rw [h x (by simp), evalO_congr (x := lo) fun y hy => h y (by subst hy; simp), evalO_congr (x := hi) fun y hy => h y (by subst hy; simp), evalO_congr (x := mx) fun y hy => h y (by subst hy; simp)]
  case fieldAddr ty x f => rw [h x (by simp)]
  case field ty x f => rw [h x (by simp)]
  case indexAddr ty x i => rw [h x (by simp), h i (by simp)]
  case index ty x i => rw [h x (by simp), h i (by simp)]
  case lookup ty x k ok => rw [h x (by simp), h k (by simp)]
  case mapUpdate ty m k x => rw [h m (by simp), h k (by simp), h x (by simp)]
  case insert ty m k x => rw [h m (by simp), h k (by simp), h x (by simp)]
  case typeAssert x xt ty ok => rw [h x (by simp)]
  case extract x i => rw [h x (by simp)]
  case call c =>
    rw [evals_congr fun x hx => h x (by simp only [Call.operands]; exact Array.mem_append.2 (.inr (by simpa using hx)))]
    unfold callTo
    split
    · split
      · rfl
      · rename_i f hc; rw [h f (by simp [Call.operands, hc])]
      · rfl
    · rfl
  case defer c =>
    rw [evals_congr fun x hx => h x (by simp only [Call.operands]; exact Array.mem_append.2 (.inr (by simpa using hx)))]
    unfold deferTo
    split
    · split
      · rename_i f hc; rw [h f (by simp [Call.operands, hc])]
      · rfl
    · rfl
  case panic x => rw [h x (by simp)]
end ops
end Go.AI
/- The next lineage is of no weight to what looks at memory at most. -/
namespace Go.AI
variable {t : T V} {h : T Blk} {n n' : Nat}
theorem nxVal_next {x y : Option V} (hxy : x = y) {v : V} {s1 : S} (e : nxVal ⟨h, n⟩ x = some (.val v s1)) : nxVal ⟨h, n'⟩ y = some (.val v ⟨h, n'⟩) := by
  subst hxy
  cases x with
  | none => cases e
  | some u => cases e; rfl
theorem loadVar_next {P : Program} {ty : TypeId} {a : Ad} : loadVar P ⟨h, n⟩ ty a = loadVar P ⟨h, n'⟩ ty a := rfl
theorem loadCells_next {a : Ad} {k : Nat} : loadCells ⟨h, n⟩ a k = loadCells ⟨h, n'⟩ a k := rfl
theorem lenV_next {P : Program} {ty : TypeId} {x : V} : lenV P ty ⟨h, n⟩ x = lenV P ty ⟨h, n'⟩ x := rfl
theorem doOp_next {E : Env} (o : Oper) (hk : opKind E.P o.op ≤ 1) {v : V} {s1 : S} (e : doOp E t ⟨h, n⟩ o = some (.val v s1)) : doOp E t ⟨h, n'⟩ o = some (.val v ⟨h, n'⟩) := by
  obtain ⟨dst, op, type, pos, after, guard⟩ := o
  unfold doOp at e ⊢
  simp only at e hk ⊢
  cases op <;> simp only [opDo] at e ⊢ <;> try (cases e; done)
  case move x => exact nxVal_next rfl e
  case assign x => exact nxVal_next rfl e
  case pick c a b =>
    unfold doPick at e ⊢
    split at e
    · exact nxVal_next rfl e
    · cases e
  case build ty parts => exact nxVal_next rfl e
  case load ty x =>
    unfold doLoad at e ⊢
    split at e
    · exact nxVal_next loadVar_next e
    · cases e
  case nilCheck x => exact nxVal_next rfl e
  case binOp op ty x y z => exact nxVal_next rfl e
  case unOp op ty x => exact nxVal_next rfl e
  case convert src dst x =>
    unfold doConv at e ⊢
    split at e
    · rename_i x' hx'
      unfold nxPair at e ⊢
      unfold convV at e ⊢
      cases hs : E.P.underlying src with
      | none => simp [hs] at e
      | some ds =>
        cases hd : E.P.underlying dst with
        | none => simp [hs, hd] at e
        | some dd =>
          simp only [hs, hd] at e ⊢
          cases dd <;> simp only at e ⊢ <;> try (cases e; done)
          case int k => cases x' <;> simp only at e ⊢ <;> first | (cases e; done) | (cases e; rfl)
          case string =>
            unfold toStr at e ⊢
            cases x' <;> simp only at e ⊢ <;> try (first | (cases e; done) | (cases e; rfl))
            case slice a z len cap sz =>
              rw [loadCells_next (n' := n')] at e
              cases ds <;> simp only at e ⊢ <;> try (cases e; done)
              rename_i el
              split at e
              · rename_i y s2 hy
                cases hb : isBytes E.P el with
                | false => rw [hb] at hy; cases hy
                | true =>
                  rw [hb] at hy
                  simp only [cond_true] at hy ⊢
                  cases hz0 : Nat.beq sz 0 with
                  | true => rw [hz0] at hy; cases hy
                  | false =>
                  rw [hz0] at hy
                  simp only [cond_false] at hy ⊢
                  split at hy
                  · rename_i l hl; cases hy; cases e; rfl
                  · cases hy
              · cases e
            case nilslice =>
              cases ds <;> simp only at e ⊢ <;> try (cases e; done)
              rename_i el
              cases hb : isBytes E.P el with
              | false => rw [hb] at e; cases e
              | true => rw [hb] at e; cases e; rfl
          case slice el => simp [opKind, hd] at hk
    · cases e
  case makeInterface ty x => exact nxVal_next rfl e
  case makeFunc fn first cap => exact nxVal_next rfl e
  case slice ty x lo hi mx => exact nxVal_next rfl e
  case fieldAddr ty x f => exact nxVal_next rfl e
  case field ty x f => exact nxVal_next rfl e
  case indexAddr ty x i => exact nxVal_next rfl e
  case index ty x i => exact nxVal_next rfl e
  case lookup ty x k ok => exact nxVal_next rfl e
  case typeAssert x xt ty ok => exact nxVal_next rfl e
  case extract x i => exact nxVal_next rfl e
  case call c =>
    unfold callTo at e ⊢
    split at e
    · rename_i args ha
      split at e
      · rename_i b hc
        have hb : b = .len ∨ b = .cap ∨ b = .max ∨ b = .min := by
          simp only [opKind, hc] at hk
          cases b <;> simp at hk ⊢
        rcases hb with rfl | rfl | rfl | rfl <;> simp only [callB] at e ⊢
        · split at e
          · split at e
            · exact nxVal_next lenV_next e
            · cases e
          · cases e
        · split at e
          · split at e
            · exact nxVal_next rfl e
            · cases e
          · cases e
        · exact nxVal_next rfl e
        · exact nxVal_next rfl e
      · rename_i f hc
        simp [opKind, hc] at hk
      · cases e
    · cases e
  all_goals (first | (simp [opKind] at hk; done) | (exfalso; revert hk; simp [opKind]))
end Go.AI
