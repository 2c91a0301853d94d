/- Frames, leaving, calls: the evaluator is sound for regions in the order of the text. No conditions. -/
import Derived.Test.YthedakdjiljmhaaGreatDoorA7
set_option linter.unusedVariables false
set_option linter.unusedSimpArgs false
noncomputable section
/- A frame's rounds of the evaluator. -/
namespace Go.AI

section st
variable {P : Program} {fr : Frame} {c : Frame} {cs : List Frame} {w w' : World} {k : List Item} {l : Nat} {v : Value}

theorem lv_end (hm : fr.mode = .run) (hk : fr.kind = .normal) (hro : fr.roundOf = some l) (ht : fr.todo = []) (hr : (Instr.endRound l none).run P w = .ok v w') :
    step P (lone fr (c :: cs) w) = .next (lone (c.finish v) cs w') := step_lone_go (by simp [stepG, stepG.exec, hm, ht, hro, hr, doReturn, hk])
theorem lv_ret (hm : fr.mode = .run) (hk : fr.kind = .normal) (hro : fr.roundOf = some l) (ht : fr.todo = .code .ret :: k) (hr : (Instr.endRound l (some .ret)).run P w = .ok v w') :
    step P (lone fr (c :: cs) w) = .next (lone (c.finish v) cs w') := step_lone_go (by simp [stepG, stepG.exec, hm, ht, hro, hr, doReturn, hk])
theorem lv_exit {id : Nat} (hm : fr.mode = .run) (hk : fr.kind = .normal) (hro : fr.roundOf = some l) (ht : fr.todo = .code (.exit id) :: k) (hx : exitTo id k = none) (hr : (Instr.endRound l (some (.exit id))).run P w = .ok v w') :
    step P (lone fr (c :: cs) w) = .next (lone (c.finish v) cs w') := step_lone_go (by simp [stepG, stepG.exec, hm, ht, hro, hr, doReturn, hk, hx])
theorem lv_goto {id : Nat} (hm : fr.mode = .run) (hk : fr.kind = .normal) (hro : fr.roundOf = some l) (ht : fr.todo = .code (.goto id) :: k) (hx : gotoIn id k = none) (hr : (Instr.endRound l (some (.goto id))).run P w = .ok v w') :
    step P (lone fr (c :: cs) w) = .next (lone (c.finish v) cs w') := step_lone_go (by simp [stepG, stepG.exec, hm, ht, hro, hr, doReturn, hk, hx])

theorem st_beginRound (hm : fr.mode = .run) (hro : fr.roundOf = some l) (ht : fr.todo = .beginRound :: k) (hr : (Instr.beginRound l).run P w = .ok () w') :
    step P (lone fr cs w) = .next (lone { fr with todo := k } cs w') := step_lone_go (by simp [stepG, stepG.exec, stepG.apply, hm, ht, hro, hr, Frame.finish])

theorem st_endRange {j : Option Code} (hm : fr.mode = .run) (ht : fr.todo = .endRangeFunc l :: k) (hr : (Instr.endLoop l).run P w = .ok j w') :
    step P (lone fr cs w) = .next (lone { fr with todo := (j.map Item.code).toList ++ k } cs w') := step_lone_go (by simp [stepG, stepG.exec, hm, ht, hr])

theorem st_range {g : Operand} {ps : Array Tmp} {a b : Code} {fid : FuncId} {first cap : Array Value} {f2 : FuncId} {args : Array Value} (hm : fr.mode = .run) (ht : fr.todo = .code (.rangeFunc g ps a b) :: k) (hro : fr.roundOf = none)
    (hg : rv fr.tmps g = .func (.func fid) first cap)
    (hc : ∀ w, (callFunc fid (first ++ #[.func (.yield (w'.heap.size - 1)) #[] #[]] ++ cap)).run P w = .ok (.enter f2 args) w)
    (hw : w' = (w.alloc (.deferred (some []))).alloc (.loop { state := .ready, pending := none, fn := fr.fn, tmps := fr.tmps, params := ps, assign := a, body := b, defers := w.heap.size })) :
    step P (lone fr cs w) = .next (lone (Frame.enter P f2 args .normal) ({ fr with todo := .inRangeFunc (w'.heap.size - 1) :: k, defers := { target := .collected w.heap.size, args := #[] } :: fr.defers } :: cs) w') := by
  refine step_lone_go ?_
  have hl : w'.heap.size - 1 = w.heap.size + 1 := by rw [hw]; simp
  rw [hl] at hc ⊢
  have hen := run_enterLoop_outer (P := P) (w := w) fr.fn fr.tmps ps a b
  rw [← hw] at hen
  simp only [stepG, stepG.exec, hm, ht, hro, Sem.runT_eq, hen, GStep.bare_after]
  have hcst : ∀ v : Value, rv fr.tmps (.const v) = v := fun _ => rfl
  have hc' : (callFunc fid (first.push (.func (.yield (w.heap.size + 1)) #[] #[]) ++ cap)).run P w' = .ok (.enter f2 args) w' := by simpa using hc w'
  simp [stepG.apply, frame_eval, resolve, hg, Deferred.ofValue, invoke, hcst, hc']

theorem st_collected {b : Nat} {ds : List Deferred} {m : FrameMode} (hm : fr.mode = m) (hne : m ≠ .run) (hd : fr.defers = { target := .collected b, args := #[] } :: ds) {calls : List Deferred} (hr : (Instr.takeDeferred b).run P w = .ok calls w') :
    step P (lone fr cs w) = .next (lone { fr with defers := calls ++ ds } cs w') := by
  refine step_lone_go ?_
  cases m with
  | run => exact absurd rfl hne
  | returning => simp [stepG, unwind, hm, hd, hr]
  | panicking ch => simp [stepG, unwind, hm, hd, hr]
end st

section
variable {E : Env} {ih : Job → S → Option Out} {f : FuncId} {fn : Func}

theorem go_sound (hg : Good E.P ih) {t : T V} {todo : List Item} {ds : List Dfr} {m : Md} {up : Option Md} {rd : Option Nat} {s : S} {out : Out} (e : goOf ih f fn t todo ds m up rd s = some out) : SoundF E.P f fn t todo ds m up rd s out :=
  hg (.frame f fn t todo ds m up rd) s out e

theorem loop_at {ρ : Rho} {s : S} {w : World} (h : HR ρ s w) {l : Nat} {st : LoopState} {pend : Option Code} {f' : FuncId} {t' : T V} {ps : Array Tmp} {a b : Code} {d nt : Nat} (hs : s.get l = some (.loop st pend f' t' ps a b d nt)) {lb : Loc} (hl : ρ l 0 = some lb) :
    ∃ (r : Loop), w.heap[lb.b]? = some (.loop r) ∧ r.state = st ∧ r.pending = pend ∧ r.fn = f' ∧ r.params = ps ∧ r.assign = a ∧ r.body = b ∧ TR ρ t' r.tmps ∧ nt ≤ r.tmps.size ∧
      ∀ st2 pend2, HR ρ (s.put l (.loop st2 pend2 f' t' ps a b d nt)) (w.putObj lb.b (.loop { r with state := st2, pending := pend2 })) ∧ FR ρ w ρ (w.putObj lb.b (.loop { r with state := st2, pending := pend2 })) := by
  obtain ⟨l1, ld, tm, h1, h2, h3, h4, h5⟩ := h.blk _ _ hs
  rw [hl] at h1; cases h1
  refine ⟨_, h5, rfl, rfl, rfl, rfl, rfl, rfl, h3, h4, fun st2 pend2 => ?_⟩
  exact h.turn hl hs (fun _ h => by cases h) (but_set w lb.b _) _ ⟨lb, ld, tm, hl, h2, h3, h4, World.putObj_heap_same (h.low _ _ _ hl)⟩

theorem leaveV_sound (hg : Good E.P ih) {t : T V} {todo : List Item} {ds : List Dfr} {up : Option Md} {rd : Option Nat} {s : S} {out : Out} {jump : Option Code} (e : leaveV (goOf ih f fn) t ds up rd s jump = some out)
    {ρ : Rho} {w : World} {fr : Frame} {cs : List Frame} (h : HR ρ s w) (hF : FrR E.P ρ f fn t todo ds .run up rd fr cs)
    (h0 : jump = none ∨ jump = some .ret → fr.roundOf = none → step E.P (lone fr cs w) = .next (lone { fr with mode := .returning } cs w))
    (h1 : ∀ l v w', fr.roundOf = some l → fr.kind = .normal → (Instr.endRound l jump).run E.P w = .ok v w' → ∀ c cs', cs = c :: cs' → step E.P (lone fr cs w) = .next (lone (c.finish v) cs' w')) :
    Fin E.P f up.isSome rd.isSome cs (lone fr cs w) ρ w out := by
  have ret : ∀ up, FrR E.P ρ f fn t todo ds .run up none fr cs → FrR E.P ρ f fn t [] ds .returning up none { fr with mode := .returning } cs := fun up hF =>
    ⟨hF.name, hF.func, hF.tr, hF.size, (fun q => by cases q), hF.ds, trivial, hF.rd, hF.up⟩
  unfold leaveV at e
  split at e
  · split at e
    · exact one_step h (h0 (.inl rfl) hF.rd) (ret up hF) (go_sound hg e)
    · exact one_step h (h0 (.inr rfl) hF.rd) (ret up hF) (go_sound hg e)
    · cases e
  · rename_i l
    split at e
    · rename_i st pend f' t' ps a b d nt hs
      simp only [Option.some.injEq] at e
      subst e
      obtain ⟨rfl, lb, hl, hro⟩ := hF.rd
      obtain ⟨r, r1, r2, r3, r4, r5, r6, r7, r8, r9, r10⟩ := loop_at h hs hl
      have hrun := run_endRound (P := E.P) jump r1
      obtain ⟨j1, j2⟩ := r10 (if jump.isNone then .ready else .done) jump
      have hc : (bif jump.isNone then LoopState.ready else .done) = if jump.isNone then .ready else .done := by cases jump.isNone <;> rfl
      rw [hc]
      refine ⟨ρ, _, j1, j2, fun c cs' hcs => ⟨.returned (.bool jump.isNone), rfl, .one (h1 _ _ _ hro hF.up hrun c cs' hcs)⟩⟩
    · cases e

/-- Regions that draw their order do as the evaluator says. -/
def DrawnSound (E : Env) : Prop := ∀ (ih : Job → S → Option Out), Good E.P ih → ∀ (f : FuncId) (fn : Func) (id : Nat) (ops : Array Oper) (k : List Item) (rd : Option Nat) (t : T V) (ds : List Dfr) (up : Option Md) (s : S) (r : ROut),
  dstOk ops fn.ntmps = true → runDrawn E ops (recOf ih) (recROf ih) t ds up s = some r → ∀ ρ w fr cs, HR ρ s w → FrR E.P ρ f fn t (.code (.region id ops true) :: k) ds .run up rd fr cs → ROk E.P ρ w f fn k up rd cs (lone fr cs w) r

theorem regionTo_sound (hg : Good E.P ih) {k : List Item} {rd : Option Nat} {up : Option Md} {x : Option ROut} {out : Out} (e : regionTo (goOf ih f fn) k rd x = some out) {ρ : Rho} {w : World} {cs : List Frame} {M : Machine} (hr : up.isSome = true → rd = none)
    (hx : ∀ r, x = some r → ROk E.P ρ w f fn k up rd cs M r) : Fin E.P f up.isSome rd.isSome cs M ρ w out := by
  cases x with
  | none => cases e
  | some r =>
    obtain ⟨ρ', w', fr', cs', h1, h2, h3, h4⟩ := hx r rfl
    cases r with
    | on t' ds' up' s' =>
      obtain ⟨k1, k2, k3⟩ := h4
      have := go_sound hg e ρ' w' fr' cs' k1 k2
      rw [k3] at this
      exact Fin.of_tops hr h3 (Fin.of_steps h1 h2 this)
    | panicked c t' ds' up' s' =>
      obtain ⟨k1, k2, k3⟩ := h4
      have := go_sound hg e ρ' w' fr' cs' k1 k2
      rw [k3] at this
      exact Fin.of_tops hr h3 (Fin.of_steps h1 h2 this)

theorem rangeFrom_sound (hg : Good E.P ih) {t : T V} {ds : List Dfr} {up : Option Md} {rd : Option Nat} {s : S} {out : Out} {k : List Item} {g : Operand} {ps : Array Tmp} {a b : Code}
    (e : rangeFrom f fn.ntmps (goOf ih f fn) (recOf ih) k t ds up rd s ps a b (eval t g) = some out) {ρ : Rho} {w : World} {fr : Frame} {cs : List Frame} (h : HR ρ s w) (hF : FrR E.P ρ f fn t (.code (.rangeFunc g ps a b) :: k) ds .run up rd fr cs) :
    Fin E.P f up.isSome rd.isSome cs (lone fr cs w) ρ w out := by
  unfold rangeFrom at e
  split at e
  · rename_i fnv first cap hgv
    obtain ⟨gf, fi, ca, g1, g2, g3, g4⟩ := func_inv (eval_sound hF.tr hgv)
    split at e
    · rename_i fid
      cases g1
      split at e
      · -- an outermost loop
        have hro : fr.roundOf = none := hF.rd
        have hm := frun hF
        simp only at e
        obtain ⟨A1, A2⟩ := h.alloc .deferred (.deferred (some [])) 0 0 (Nat.le_refl _) ⟨⟨w.heap.size, 0, 0⟩, Rho.put_same _ _ _ _, heap_alloc_new _ _⟩
        have hd1 : (ρ.put s.next 0 ⟨w.heap.size, 0, 0⟩) s.next 0 = some ⟨w.heap.size, 0, 0⟩ := Rho.put_same _ _ _ _
        obtain ⟨B1, B2⟩ := A1.alloc (.loop .ready none f t ps a b s.next fn.ntmps) (.loop { state := .ready, pending := none, fn := f, tmps := fr.tmps, params := ps, assign := a, body := b, defers := w.heap.size }) 0 0 (Nat.le_refl _) (by
          have hle := Rho.le_put (ρ := ρ.put s.next 0 ⟨w.heap.size, 0, 0⟩) (f := (s.alloc .deferred).next) (v := 0) ⟨(w.alloc (.deferred (some []))).heap.size, 0, 0⟩ (A1.fresh _ _ (Nat.le_refl _))
          exact ⟨⟨(w.alloc (.deferred (some []))).heap.size, 0, 0⟩, ⟨w.heap.size, 0, 0⟩, fr.tmps, Rho.put_same _ _ _ _, hle _ _ _ hd1, (hF.tr.mono A2.ext).mono hle, hF.size, heap_alloc_new _ _⟩)
        generalize hρ2 : (ρ.put s.next 0 ⟨w.heap.size, 0, 0⟩).put (s.alloc .deferred).next 0 ⟨(w.alloc (.deferred (some []))).heap.size, 0, 0⟩ = ρ2 at B1 B2
        have hl2 : ρ2 (s.alloc .deferred).next 0 = some ⟨w.heap.size + 1, 0, 0⟩ := by rw [← hρ2, Rho.put_same]; simp
        have hd2 : ρ2 s.next 0 = some ⟨w.heap.size, 0, 0⟩ := B2.ext _ _ _ hd1
        have hAB := A2.trans B2
        have hargs : denL ρ2 (first ++ ([.func (.yield (s.alloc .deferred).next) [] []] ++ cap)) = some (fi ++ ([Value.func (.yield (w.heap.size + 1)) #[] #[]] ++ ca)) := by
          refine denL_append (denL_mono hAB.ext _ _ g2) (denL_append ?_ (denL_mono hAB.ext _ _ g3))
          simp [denL, den, denFn, hl2]
        cases hr : recOf ih fid (first ++ ([.func (.yield (s.alloc .deferred).next) [] []] ++ cap)) none ((s.alloc .deferred).alloc (.loop .ready none f t ps a b s.next fn.ntmps)) with
        | none => rw [hr] at e; cases e
        | some o1 =>
          rw [hr] at e
          obtain ⟨hcall, hfin⟩ := rec_sound hg B1 hargs hr
          have hname : fr.fn = f := hF.name
          obtain ⟨ρ3, w3, en, j1, j2, j3, j4⟩ := hfin { fr with todo := .inRangeFunc (w.heap.size + 1) :: k, defers := { target := .collected w.heap.size, args := #[] } :: fr.defers } cs
          have hstep := st_range (P := E.P) (fr := fr) (cs := cs) (w := w) (w' := (w.alloc (.deferred (some []))).alloc (.loop { state := .ready, pending := none, fn := f, tmps := fr.tmps, params := ps, assign := a, body := b, defers := w.heap.size }))
            (k := k) (frun hF) (hF.todo rfl) hro g4 (f2 := fid) (args := (fi ++ ([Value.func (.yield (w.heap.size + 1)) #[] #[]] ++ ca)).toArray) (fun w => by
              have := hcall w
              simpa using this) (by rw [hname])
          have hsz : ((w.alloc (.deferred (some []))).alloc (.loop { state := .ready, pending := none, fn := f, tmps := fr.tmps, params := ps, assign := a, body := b, defers := w.heap.size })).heap.size - 1 = w.heap.size + 1 := by simp
          rw [hsz] at hstep
          have hsteps := Steps.head hstep j4
          have hABC := hAB.trans j2
          have hF3 := hF.mono hABC.ext
          have hdr : DfrR ρ3 (.collected s.next) { target := .collected w.heap.size, args := #[] } := ⟨_, j2.ext _ _ _ hd2, rfl⟩
          obtain ⟨oe, oup, os⟩ := o1
          cases oe with
          | returned v =>
            cases en with
            | panicked _ => exact j3.elim
            | outgrown => exact j3.elim
            | returned y =>
              simp only [rangeTo] at e
              unfold loopOver at e
              split at e
              · rename_i st pend f' t' ps' a' b' d' nt hs
                obtain ⟨r, r1, r2, r3, r4, r5, r6, r7, r8, r9, r10⟩ := loop_at j1 hs (j2.ext _ _ _ hl2)
                have hgo : ∃ hb : st ≠ .busy, goOf ih f fn t ((pend.map Item.code).toList ++ k) (.collected s.next :: ds) .run up none (os.put (s.alloc .deferred).next (.loop .exhausted pend f' t' ps' a' b' d' nt)) = some out := by
                  split at e
                  · cases e
                  · rename_i hne; exact ⟨hne, e⟩
                obtain ⟨hb, hgo⟩ := hgo
                obtain ⟨q1, q2⟩ := r10 .exhausted pend
                have hend := run_endLoop (P := E.P) r1 (by rw [r2]; exact hb)
                rw [r3] at hend
                have hres : resume { fr with todo := .inRangeFunc (w.heap.size + 1) :: k, defers := { target := .collected w.heap.size, args := #[] } :: fr.defers } (.returned y) = { fr with todo := .endRangeFunc (w.heap.size + 1) :: k, defers := { target := .collected w.heap.size, args := #[] } :: fr.defers } := rfl
                rw [hres] at hsteps
                have hst2 := st_endRange (P := E.P) (fr := { fr with todo := .endRangeFunc (w.heap.size + 1) :: k, defers := { target := .collected w.heap.size, args := #[] } :: fr.defers }) (cs := cs) hm rfl hend
                refine Fin.of_steps (hsteps.trans (.one hst2)) (hABC.trans q2) (go_sound hg hgo _ _ _ _ q1 ?_)
                exact ⟨hF3.name, hF3.func, hF3.tr, hF3.size, fun _ => rfl, ⟨hdr, hF3.ds⟩, hF3.md, hF3.rd, hF3.up⟩
              · cases e
          | panicked c =>
            cases en with
            | returned _ => exact j3.elim
            | outgrown => exact j3.elim
            | panicked ch =>
              simp only [rangeTo] at e
              refine Fin.of_steps hsteps hABC (go_sound hg e _ _ _ _ j1 ?_)
              rw [resume, raise_run (show ({ fr with todo := .inRangeFunc (w.heap.size + 1) :: k, defers := { target := .collected w.heap.size, args := #[] } :: fr.defers } : Frame).mode = .run from hm)]
              exact ⟨hF3.name, hF3.func, hF3.tr, hF3.size, (fun q => by cases q), ⟨hdr, hF3.ds⟩, j3, hF3.rd, hF3.up⟩
      · cases e
    · cases e
  · cases e

end
end Go.AI
/- One round of the evaluator is sound. -/
namespace Go.AI

theorem settle_sound {ρ : Rho} {u : Md} {fm : FrameMode} (h : MdR ρ u fm) : MdR ρ (settleV u) (settle fm) := by
  cases u with
  | run => cases fm <;> first | exact h | exact h.elim
  | returning => cases fm <;> first | exact h | exact h.elim
  | panicking c => cases fm with
    | run => exact h.elim
    | returning => exact h.elim
    | panicking ch =>
      cases c with
      | nil => cases ch with
        | nil => exact h
        | cons _ _ => exact h.elim
      | cons p ps => cases ch with
        | nil => exact h.elim
        | cons q qs =>
          obtain ⟨⟨h1, h2, h3⟩, h4⟩ := h
          obtain ⟨pv, pr⟩ := p
          obtain ⟨qv, qr, qg⟩ := q
          simp only at h1 h2 h3
          subst h2; subst h3
          cases pr with
          | false => exact ⟨⟨h1, rfl, rfl⟩, h4⟩
          | true =>
            have hno : ∀ (ps : List Pan) (qs : List PanicEntry), PanR ρ ps qs → qs.dropWhile (fun e => !e.goexit) = [] := by
              intro ps
              induction ps with
              | nil => intro qs hq; cases qs with
                | nil => rfl
                | cons _ _ => exact hq.elim
              | cons p ps ih => intro qs hq; cases qs with
                | nil => exact hq.elim
                | cons q qs =>
                  obtain ⟨⟨_, _, g3⟩, g4⟩ := hq
                  rw [List.dropWhile_cons, g3]
                  simpa using ih qs g4
            simp only [settleV, settle, hno ps qs h4]
            trivial

theorem raised_sound {ρ : Rho} {u : Md} {fm : FrameMode} {c : List Pan} {ch : List PanicEntry} (h : MdR ρ u fm) (hc : PanR ρ c ch) : MdR ρ (raisedV u c) (raised fm ch) := by
  cases u with
  | run => cases fm <;> first | exact hc | exact h.elim
  | returning => cases fm <;> first | exact hc | exact h.elim
  | panicking d => cases fm with
    | run => exact h.elim
    | returning => exact h.elim
    | panicking dh => exact PanR.append hc h

section
variable {E : Env} {ih : Job → S → Option Out} {f : FuncId} {fn : Func}

/-- A result of a frame. -/
def resS (tm : Array Value) : ResultVar → Sem Value
  | .tmp t => pure (tm.getD t undef)
  | .cell a t => do Go.loadVar t (← asAddr (tm.getD a undef))

theorem results_eq (fn : Func) (tm : Array Value) : results fn tm = (do let vs ← fn.results.mapM (resS tm); pure (if h : vs.size = 1 then vs[0] else .tuple vs)) := by
  unfold results
  congr 1

theorem resultV_sound {P : Program} {ρ : Rho} {s : S} {w : World} (h : HR ρ s w) {t : T V} {tm : Array Value} (ht : TR ρ t tm) {x : ResultVar} {v : V} (e : resultV P t s x = some v) :
    ∃ y, den ρ v = some y ∧ (resS tm x).run P w = .ok y w := by
  have at_ : ∀ i u, t.get (pth i) = some u → den ρ u = some (tm.getD i undef) := fun i u hu => by
    obtain ⟨y, h1, h2⟩ := ht i u hu
    rw [h1]; simp [h2]
  cases x with
  | tmp i => exact ⟨_, at_ _ _ e, rfl⟩
  | cell a ty =>
    simp only [resultV] at e
    split at e
    · rename_i ad hp
      obtain ⟨a1, y, h1, h2, h3⟩ := loadVar_sound h e
      have := at_ _ _ hp
      simp only [den, h1, Option.some.injEq] at this
      refine ⟨y, h2, ?_⟩
      simp only [resS, Sem.run_bind, ← this, asAddr, Sem.run_pure, Result.andThen_ok, h3]
    · cases e

theorem resultL_sound {P : Program} {ρ : Rho} {s : S} {w : World} (h : HR ρ s w) {t : T V} {tm : Array Value} (ht : TR ρ t tm) : ∀ {l : List ResultVar} {vs : List V}, resultL P t s l = some vs →
    ∃ ys, denL ρ vs = some ys ∧ (l.mapM (resS tm)).run P w = .ok ys w
  | [], vs, e => by cases e; exact ⟨[], rfl, rfl⟩
  | x :: l, vs, e => by
    simp only [resultL] at e
    cases hx : resultV P t s x with
    | none => simp [hx] at e
    | some v =>
      cases hl : resultL P t s l with
      | none => simp [hx, hl] at e
      | some q =>
        simp only [hx, hl, Option.some.injEq] at e
        subst e
        obtain ⟨y, h1, h2⟩ := resultV_sound (P := P) (w := w) h ht hx
        obtain ⟨ys, h3, h4⟩ := resultL_sound h ht hl
        refine ⟨y :: ys, denL_cons.2 ⟨y, ys, h1, h3, rfl⟩, ?_⟩
        simp only [List.mapM_cons, Sem.run_bind, h2, h4, Result.andThen_ok, Sem.run_pure]

theorem results_sound {P : Program} {ρ : Rho} {s : S} {w : World} (h : HR ρ s w) {t : T V} {tm : Array Value} (ht : TR ρ t tm) {v : V} (e : resultsV P fn t s = some v) : ∃ y, den ρ v = some y ∧ (results fn tm).run P w = .ok y w := by
  unfold resultsV at e
  split at e
  · rename_i l hl
    cases e
    obtain ⟨ys, h1, h2⟩ := resultL_sound (P := P) (w := w) h ht hl
    have hr : (results fn tm).run P w = .ok (if h : ys.toArray.size = 1 then ys.toArray[0] else .tuple ys.toArray) w := by
      rw [results_eq, Array.mapM_eq_mapM_toList]
      simp [h2]
    refine ⟨_, ?_, hr⟩
    have hlen := denL_length h1
    cases l with
    | nil =>
      cases h1
      rfl
    | cons v l => cases l with
      | nil =>
        obtain ⟨y, hy, rfl⟩ := den_one h1
        simpa [oneOr] using hy
      | cons v2 l =>
        obtain ⟨y, q, hy, hq, rfl⟩ := denL_cons.1 h1
        obtain ⟨y2, q, hy2, hq2, rfl⟩ := denL_cons.1 hq
        simp only [oneOr, den, h1]
        simp
  · cases e

theorem FrR.turn {P : Program} {ρ : Rho} {f : FuncId} {fn : Func} {t : T V} {todo : List Item} {ds : List Dfr} {m : Md} {up : Option Md} {rd : Option Nat} {fr : Frame} {cs : List Frame}
    (h : FrR P ρ f fn t todo ds m up rd fr cs) {ds' : List Dfr} {rs : List Deferred} (hd : DfrsR ρ ds' rs) {m' : Md} (hm : m' ≠ .run) {fm : FrameMode} (hfm : MdR ρ m' fm) (todo' : List Item) : FrR P ρ f fn t todo' ds' m' up rd { fr with defers := rs, mode := fm } cs :=
  ⟨h.name, h.func, h.tr, h.size, fun q => absurd q hm, hd, hfm, h.rd, h.up⟩

theorem leave_fin {P : Program} {ρ : Rho} {s : S} {w : World} (h : HR ρ s w) {t : T V} {todo : List Item} {m : Md} {up : Option Md} {rd : Option Nat} {fr : Frame} {cs : List Frame} (hF : FrR P ρ f fn t todo [] m up rd fr cs) {e : End} {en : Ending} (he : EndR ρ e en)
    (hgo : fr.going P w en) : Fin P f up.isSome rd.isSome cs (lone fr cs w) ρ w ⟨e, up, s⟩ := by
  refine ⟨ρ, w, h, FR.refl ρ w, ?_⟩
  have hleave : up = none → fr.leaving P w en := by
    intro hu
    have hk : fr.kind = .normal := by have := hF.up; rw [hu] at this; exact this
    cases en with
    | returned v => obtain ⟨a, b, c⟩ := hgo; exact ⟨a, b, hk, c⟩
    | panicked ch => exact hgo
    | outgrown => trivial
  cases rd with
  | some l =>
    have hu : up = none := hF.rd.1
    intro c cs' hc
    subst hc
    refine ⟨en, he, .one ?_⟩
    cases en with
    | returned v => exact step_leave_returned (hleave hu)
    | panicked ch => exact step_leave_panicked (hleave hu)
    | outgrown => cases e <;> exact he.elim
  | none =>
    cases up with
    | none => exact ⟨fr, en, he, Steps.refl _ _, hF.name, hleave rfl⟩
    | some u =>
      obtain ⟨hk, c0, cs0, rfl, hmd⟩ := hF.up
      intro c cs' hc
      cases hc
      exact ⟨fr, en, u, c0.mode, rfl, hmd, he, Steps.refl _ _, hk, hgo⟩

theorem unwind_sound (hg : Good E.P ih) {t : T V} {todo : List Item} {ds : List Dfr} {m : Md} (hm : m ≠ .run) {up : Option Md} {rd : Option Nat} {s : S} {out : Out}
    (e : unwindStep ds E fn (goOf ih f fn) (recOf ih) t m up rd s = some out) {ρ : Rho} {w : World} {fr : Frame} {cs : List Frame} (h : HR ρ s w) (hF : FrR E.P ρ f fn t todo ds m up rd fr cs) : Fin E.P f up.isSome rd.isSome cs (lone fr cs w) ρ w out := by
  have hfm : fr.mode ≠ .run := by
    intro hq
    have := hF.md
    rw [hq] at this
    cases m <;> first | exact hm rfl | exact this.elim
  unfold unwindStep at e
  split at e
  · rename_i d ds'
    have hds := hF.ds
    cases hfd : fr.defers with
    | nil => rw [hfd] at hds; exact hds.elim
    | cons r rs =>
      rw [hfd] at hds
      obtain ⟨⟨l, h1, h2⟩, h3⟩ := hds
      subst h2
      unfold collectedTo at e
      split at e
      · rename_i hs
        obtain ⟨l', g1, g2⟩ := h.blk _ _ hs
        rw [h1] at g1; cases g1
        have hrun := run_takeDeferred (P := E.P) g2
        obtain ⟨j1, j2⟩ := h.turn h1 hs (fun _ h => by cases h) (but_set w l.b (.deferred none)) .gone trivial
        have hstep := st_collected (P := E.P) (cs := cs) rfl hfm hfd hrun
        have hF' : FrR E.P ρ f fn t [] ds' m up rd { fr with defers := [] ++ rs } cs := ⟨hF.name, hF.func, hF.tr, hF.size, fun q => absurd q hm, h3, hF.md, hF.rd, hF.up⟩
        exact Fin.of_steps (.one hstep) j2 (go_sound hg e _ _ _ _ j1 hF')
      · cases e
  · rename_i g captured args ds'
    have hds := hF.ds
    cases hfd : fr.defers with
    | nil => rw [hfd] at hds; exact hds.elim
    | cons r rs =>
      rw [hfd] at hds
      obtain ⟨⟨gf, cc, aa, h1, h2, h3, h4⟩, h5⟩ := hds
      cases h1
      subst h4
      cases hr : recOf ih g (args ++ captured) (some m) s with
      | none => rw [hr] at e; cases e
      | some o1 =>
        rw [hr] at e
        obtain ⟨hcall, hfin⟩ := hg (.call g (args ++ captured) (some m)) s o1 hr ρ w _ h (denL_append h3 h2)
        obtain ⟨ρ1, w1, j1, j2, j3⟩ := hfin ({ fr with defers := rs } :: cs) (fun u hu => by cases hu; exact ⟨_, _, rfl, hF.md⟩)
        obtain ⟨frX, en, u, u', k1, k2, k3, k4, k5, k6⟩ := j3 _ _ rfl
        have hs1 := step_defer (P := E.P) (cs := cs) (f := g) (args := (aa ++ cc).toArray) (w := w) hfm hfd rfl (by
          have := hcall w
          simpa [invoke] using this)
        have hF1 := hF.mono j2.ext
        obtain ⟨oe, oup, os⟩ := o1
        simp only at k1 k3 j1
        subst k1
        cases oe with
        | returned v =>
          cases en with
          | panicked _ => exact k3.elim
          | outgrown => exact k3.elim
          | returned y =>
            simp only [deferTo2] at e
            have hs2 := step_going_returned (c := { fr with defers := rs, mode := u' }) (cs := cs) k5 k6
            have hgo : u ≠ .run ∧ goOf ih f fn t [] ds' (settleV u) up rd os = some out := by
              cases u with
              | run => cases e
              | returning => exact ⟨(by intro q; cases q), e⟩
              | panicking c => exact ⟨(by intro q; cases q), e⟩
            have hnr : settleV u ≠ .run := by
              obtain ⟨hu, _⟩ := hgo
              unfold settleV
              split
              · intro q; cases q
              · exact hu
            have hF2 : FrR E.P ρ1 f fn t [] ds' (settleV u) up rd { fr with defers := rs, mode := settle u' } cs :=
              ⟨hF1.name, hF1.func, hF1.tr, hF1.size, fun q => absurd q hnr, h5.mono j2.ext, settle_sound k2, hF1.rd, hF1.up⟩
            exact Fin.of_steps (.head hs1 (k4.trans (.one hs2))) j2 (go_sound hg hgo.2 _ _ _ _ j1 hF2)
        | panicked c =>
          cases en with
          | returned _ => exact k3.elim
          | outgrown => exact k3.elim
          | panicked ch =>
            simp only [deferTo2] at e
            have hs2 := step_going_panicked (c := { fr with defers := rs, mode := u' }) (cs := cs) k6
            have hF2 : FrR E.P ρ1 f fn t [] ds' (raisedV u c) up rd { fr with defers := rs, mode := raised u' ch } cs :=
              ⟨hF1.name, hF1.func, hF1.tr, hF1.size, (fun q => by cases u <;> cases q), h5.mono j2.ext, raised_sound k2 k3, hF1.rd, hF1.up⟩
            exact Fin.of_steps (.head hs1 (k4.trans (.one hs2))) j2 (go_sound hg e _ _ _ _ j1 hF2)
  · cases e
  · have hds := hF.ds
    have hfd : fr.defers = [] := by
      cases hq : fr.defers with
      | nil => rfl
      | cons _ _ => rw [hq] at hds; exact hds.elim
    unfold leaveStep at e
    split at e
    · unfold retOf at e
      split at e
      · rename_i v hv
        cases e
        obtain ⟨y, y1, y2⟩ := results_sound (P := E.P) (fn := fn) h hF.tr hv
        refine leave_fin h hF (en := .returned y) y1 ⟨?_, hfd, fn, hF.name ▸ hF.func, y2⟩
        have := hF.md
        cases hq : fr.mode <;> rw [hq] at this <;> first | rfl | exact this.elim
      · cases e
    · rename_i c
      cases e
      have := hF.md
      cases hq : fr.mode with
      | run => exact absurd hq hfm
      | returning => rw [hq] at this; exact this.elim
      | panicking ch =>
        rw [hq] at this
        exact leave_fin h hF (en := .panicked ch) this ⟨hq, hfd, fn, hF.name ▸ hF.func⟩
    · cases e

end
end Go.AI
/- The evaluator is sound. -/
namespace Go.AI

section
variable {E : Env} {ih : Job → S → Option Out} {f : FuncId} {fn : Func}

theorem FrR.bump {P : Program} {ρ : Rho} {t : T V} {todo : List Item} {ds : List Dfr} {up : Option Md} {rd : Option Nat} {fr : Frame} {cs : List Frame} (h : FrR P ρ f fn t todo ds .run up rd fr cs) : fr.mode = .run := frun h

theorem codeStep_sound (hE : EnvOk E) (hD : DrawnSound E) (hg : Good E.P ih) {c : Code} {k : List Item} {t : T V} {ds : List Dfr} {up : Option Md} {rd : Option Nat} {s : S} {out : Out}
    (e : codeStep c E f fn (goOf ih f fn) (recOf ih) (recROf ih) k t ds up rd s = some out) {ρ : Rho} {w : World} {fr : Frame} {cs : List Frame} (h : HR ρ s w) (hF : FrR E.P ρ f fn t (.code c :: k) ds .run up rd fr cs) :
    Fin E.P f up.isSome rd.isSome cs (lone fr cs w) ρ w out := by
  have hm := frun hF
  have ht := hF.todo rfl
  cases c with
  | ret =>
    simp only [codeStep] at e
    exact leaveV_sound hg e h hF (fun _ hro => st_ret hm ht hro) (fun l v w' hro hk hr c cs' hc => by subst hc; exact lv_ret hm hk hro ht hr)
  | skip => exact one_step h (st_skip hm ht) (hF.to k) (go_sound hg e)
  | label l => exact one_step h (st_label hm ht) (hF.to k) (go_sound hg e)
  | seq a b => exact one_step h (st_seq hm ht) (hF.to _) (go_sound hg e)
  | cond c a b =>
    simp only [codeStep] at e
    cases hv : eval t c with
    | none => rw [hv] at e; cases e
    | some v =>
      rw [hv] at e
      have hd := eval_sound hF.tr hv
      unfold condTo at e
      split at e
      · rename_i q hq
        cases hq
        simp only [den, Option.some.injEq] at hd
        refine one_step h (st_cond hm ht hd.symm) (hF.to _) ?_
        have hb : (bif q then a else b) = if q then a else b := by cases q <;> rfl
        rw [← hb]
        exact go_sound hg e
      · cases e
  | block id c => exact one_step h (st_block hm ht) (hF.to _) (go_sound hg e)
  | loop c => exact one_step h (st_loop hm ht) (hF.to _) (go_sound hg e)
  | scope c => exact one_step h (st_scope hm ht) (hF.to _) (go_sound hg e)
  | exit id =>
    simp only [codeStep] at e
    cases hx : exitTo id k with
    | none =>
      rw [hx] at e
      simp only [jumpTo] at e
      exact leaveV_sound (jump := some (.exit id)) hg e h hF (fun hj => by rcases hj with hj | hj <;> cases hj) (fun l v w' hro hk hr c cs' hc => by subst hc; exact lv_exit hm hk hro ht hx hr)
    | some k' => rw [hx] at e; exact one_step h (st_exit hm ht hx) (hF.to _) (go_sound hg e)
  | goto id =>
    simp only [codeStep] at e
    cases hx : gotoIn id k with
    | none =>
      rw [hx] at e
      simp only [jumpTo] at e
      exact leaveV_sound (jump := some (.goto id)) hg e h hF (fun hj => by rcases hj with hj | hj <;> cases hj) (fun l v w' hro hk hr c cs' hc => by subst hc; exact lv_goto hm hk hro ht hx hr)
    | some k' => rw [hx] at e; exact one_step h (st_goto hm ht hx) (hF.to _) (go_sound hg e)
  | rangeFunc g ps a b => exact rangeFrom_sound hg e h hF
  | region id ops draw =>
    cases draw with
    | true =>
      simp only [codeStep] at e
      cases hd : dstOk ops fn.ntmps with
      | false => rw [hd] at e; cases e
      | true =>
        rw [hd] at e
        exact regionTo_sound hg e hF.lone_up fun r hr => hD ih hg f fn id ops k rd t ds up s r hd hr ρ w fr cs h hF
    | false =>
      simp only [codeStep] at e
      cases hd : dstOk ops fn.ntmps with
      | false => rw [hd] at e; cases e
      | true =>
        rw [hd] at e
        refine regionTo_sound hg e hF.lone_up fun r hr => ?_
        have := runOps_sound (k := k) (rd := rd) hE hg hd ops.toList (List.range ops.size) (idx_all ops) t ds up s r hr ρ w _ cs h (hF.to _)
        exact this.of_steps (.one (st_region hm ht)) (FR.refl ρ w) (Tops.refl hF) rfl
  | refuse why => cases e

theorem itemStep_sound (hE : EnvOk E) (hD : DrawnSound E) (hg : Good E.P ih) {i : Item} {k : List Item} {t : T V} {ds : List Dfr} {up : Option Md} {rd : Option Nat} {s : S} {out : Out}
    (e : itemStep i E f fn (goOf ih f fn) (recOf ih) (recROf ih) k t ds up rd s = some out) {ρ : Rho} {w : World} {fr : Frame} {cs : List Frame} (h : HR ρ s w) (hF : FrR E.P ρ f fn t (i :: k) ds .run up rd fr cs) :
    Fin E.P f up.isSome rd.isSome cs (lone fr cs w) ρ w out := by
  have hm := frun hF
  have ht := hF.todo rfl
  cases i <;> try (cases e; done)
  case code c => exact codeStep_sound hE hD hg e h hF
  case inBlock id => exact one_step h (st_inBlock hm ht) (hF.to k) (go_sound hg e)
  case inScope c => exact one_step h (st_inScope hm ht) (hF.to k) (go_sound hg e)
  case inLoop c => exact one_step h (st_inLoop hm ht) (hF.to _) (go_sound hg e)
  case beginRound =>
    simp only [itemStep] at e
    cases rd with
    | none => cases e
    | some l =>
      simp only at e
      unfold beginTo at e
      split at e
      · rename_i pend f' t' ps a b d nt hs
        obtain ⟨hu, lb, hl, hro⟩ := hF.rd
        obtain ⟨r, r1, r2, r3, r4, r5, r6, r7, r8, r9, r10⟩ := loop_at h hs hl
        obtain ⟨j1, j2⟩ := r10 .busy pend
        have hrun := run_beginRound (P := E.P) r1 r2
        have hst := st_beginRound (P := E.P) (cs := cs) hm hro ht hrun
        have hpe : ({ r with state := LoopState.busy } : Loop) = { r with state := .busy, pending := pend } := by rw [← r3]
        rw [hpe] at hst
        exact Fin.of_steps (.one hst) j2 (go_sound hg e _ _ _ _ j1 (hF.to k))
      · cases e

theorem frameStep_sound (hE : EnvOk E) (hD : DrawnSound E) (hg : Good E.P ih) {t : T V} {todo : List Item} {ds : List Dfr} {m : Md} {up : Option Md} {rd : Option Nat} {s : S} {out : Out}
    (e : frameStep E f fn (goOf ih f fn) (recOf ih) (recROf ih) t todo ds m up rd s = some out) : SoundF E.P f fn t todo ds m up rd s out := by
  intro ρ w fr cs h hF
  cases m with
  | run =>
    simp only [frameStep] at e
    cases todo with
    | nil =>
      simp only [todoStep] at e
      have hm := frun hF
      have ht := hF.todo rfl
      exact leaveV_sound hg e h hF (fun _ hro => st_end hm ht hro) (fun l v w' hro hk hr c cs' hc => by subst hc; exact lv_end hm hk hro ht hr)
    | cons i k => exact itemStep_sound hE hD hg e h hF
  | returning => exact unwind_sound hg (by intro q; cases q) e h hF
  | panicking c => exact unwind_sound hg (by intro q; cases q) e h hF

theorem initT_eq {β : Type} : ∀ (l : List V) (i : Nat) (t : T V) (k : T V → β), initT l i t k = k (initT l i t id)
  | [], _, _, _ => rfl
  | x :: r, i, t, k => by
    simp only [initT, T.setK_eq]
    exact initT_eq r (i + 1) _ k

theorem initT_get : ∀ (l : List V) (i : Nat) (t : T V) (j : Nat), (initT l i t id).get (pth j) = if i ≤ j ∧ j < i + l.length then l[j - i]? else t.get (pth j)
  | [], i, t, j => by rw [if_neg (by simp)]; rfl
  | x :: r, i, t, j => by
    simp only [initT, T.setK_eq]
    rw [initT_get r (i + 1) _ j, T.get_setN]
    simp only [List.length_cons]
    by_cases hj : i + 1 ≤ j ∧ j < i + 1 + r.length
    · rw [if_pos hj, if_pos (by omega), show j - i = (j - (i + 1)) + 1 by omega]; rfl
    · rw [if_neg hj]
      by_cases hi : i = j
      · subst hi; rw [if_pos rfl, if_pos (by omega)]; simp
      · rw [if_neg hi, if_neg (by omega)]

theorem putParams_eq {β : Type} : ∀ (ps : List Tmp) (l : List V) (t : T V) (k : T V → β), putParams t ps l k = k (putParams t ps l id)
  | [], l, t, k => by cases l <;> rfl
  | p :: ps, [], t, k => rfl
  | p :: ps, x :: l, t, k => by
    simp only [putParams, T.setK_eq]
    exact putParams_eq ps l _ k

theorem putParams_sound {ρ : Rho} : ∀ (ps : List Tmp) (l : List V) (ys : List Value) (t : T V) (tm : Array Value), TR ρ t tm → denL ρ l = some ys → (∀ p ∈ ps, p < tm.size) →
    TR ρ (putParams t ps l id) ((ps.zip ys).foldl (fun tmps x => tmps.setIfInBounds x.1 x.2) tm) ∧ ((ps.zip ys).foldl (fun tmps x => tmps.setIfInBounds x.1 x.2) tm).size = tm.size
  | [], l, ys, t, tm, ht, _, _ => by
    have : putParams t [] l id = t := by cases l <;> rfl
    rw [this]; exact ⟨ht, rfl⟩
  | p :: ps, [], ys, t, tm, ht, hd, _ => by cases hd; exact ⟨ht, rfl⟩
  | p :: ps, x :: l, ys, t, tm, ht, hd, hp => by
    obtain ⟨y, q, h1, h2, rfl⟩ := denL_cons.1 hd
    simp only [putParams, T.setK_eq, List.zip_cons_cons, List.foldl_cons]
    obtain ⟨k1, k2⟩ := putParams_sound ps l q _ (tm.setIfInBounds p y) (ht.put h1 (hp p (by simp))) h2 (fun p' hp' => by simpa using hp p' (by simp [hp']))
    exact ⟨k1, by simpa using k2⟩

/-- What must hold of the calls known beforehand. -/
structure OrcOk (E : Env) : Prop where
  call : ∀ f args s v s', E.orc f args s = some (v, s') → SoundC E.P f args none s ⟨.returned v, none, s'⟩

theorem enterV_sound (hg : Good E.P ih) {args : List V} {up : Option Md} {s : S} {out : Out} (e : enterV ih f args up s (E.P.funcs[f]?) = some out) : SoundC E.P f args up s out := by
  unfold enterV at e
  split at e
  · rename_i fn hf
    split at e
    · rename_i c hb
      cases hn : (fn.name == "runtime.NumGoroutine") with
      | true => rw [hn] at e; cases e
      | false =>
        rw [hn] at e
        simp only [cond_false] at e
        rw [initT_eq] at e
        intro ρ w ys h hd
        have hne : fn.name ≠ "runtime.NumGoroutine" := by simpa using hn
        refine ⟨fun w => by simp [callFunc, hf, hne, hb], fun cs hup => ?_⟩
        refine hg _ s out e ρ w _ cs h ⟨rfl, hf, ?_, ?_, fun _ => ?_, trivial, trivial, rfl, ?_⟩
        · intro i v hv
          rw [initT_get] at hv
          have hl := denL_length hd
          split at hv
          · rename_i hi
            obtain ⟨y, h1, h2⟩ := denL_get _ hd hv
            refine ⟨y, h1, ?_⟩
            have hi2 : i < ys.length := (List.getElem?_eq_some_iff.1 h2).1
            simp only [Nat.sub_zero] at h2
            show (ys.toArray ++ Array.replicate _ undef)[i]? = some y
            rw [Array.getElem?_append_left (by simpa using hi2)]
            simpa using h2
          · rw [T.get_leaf] at hv; cases hv
        · show fn.ntmps ≤ (ys.toArray ++ Array.replicate _ undef).size
          simp [hf]; omega
        · simp [Frame.enter, hf, hb]
        · cases up with
          | none => rfl
          | some u =>
            obtain ⟨c, cs', h1, h2⟩ := hup u rfl
            exact ⟨rfl, c, cs', h1, h2⟩
    · cases e
  · cases e

theorem roundV_sound (hg : Good E.P ih) {l : Nat} {args : List V} {s : S} {out : Out} (e : roundV E ih l args s (s.get l) = some out) : SoundR E.P l args s out := by
  intro ρ w lb ys h hl hd
  unfold roundV at e
  split at e
  · rename_i st pend f' t' ps a b d nt hs
    split at e
    · rename_i fn hf
      cases hb : (Nat.ble fn.ntmps nt && Nat.beq ps.size args.length && ps.toList.all (fun p => Nat.blt p nt)) with
      | false => rw [hb] at e; cases e
      | true =>
        rw [hb] at e
        simp only [cond_true] at e
        simp only [Bool.and_eq_true] at hb
        rw [putParams_eq] at e
        obtain ⟨r, r1, r2, r3, r4, r5, r6, r7, r8, r9, r10⟩ := loop_at h hs hl
        have hlen := denL_length hd
        have hsz : ys.toArray.size = r.params.size := by
          have := Nat.eq_of_beq_eq_true hb.1.2
          rw [r5, this]; simpa using hlen
        have hy := run_yield (P := E.P) (args := ys.toArray) r1 hsz
        have hfold : (r.params.zip ys.toArray).foldl (fun tmps (t, a) => tmps.setIfInBounds t a) r.tmps = (ps.toList.zip ys).foldl (fun tmps x => tmps.setIfInBounds x.1 x.2) r.tmps := by
          rw [← Array.foldl_toList, r5]
          simp
        obtain ⟨k1, k2⟩ := putParams_sound ps.toList args ys t' r.tmps r8 hd (fun p hp => Nat.lt_of_lt_of_le (blt_lt (List.all_eq_true.1 hb.2 p hp)) r9)
        rw [hfold] at hy
        refine ⟨_, _, _, _, hy, fun cs => ?_⟩
        rw [r4, r6, r7]
        refine hg _ s out e ρ w _ cs h ⟨rfl, hf, k1, ?_, fun _ => rfl, trivial, trivial, ⟨rfl, lb, hl, rfl⟩, rfl⟩
        exact Nat.le_trans (Nat.le_trans (Nat.le_of_ble_eq_true hb.1.1) r9) (Nat.le_of_eq k2.symm)
    · cases e
  · cases e

theorem jobStep_sound (hE : EnvOk E) (hO : OrcOk E) (hD : DrawnSound E) (hg : Good E.P ih) : Good E.P (jobStep E ih) := by
  intro j s out e
  cases j with
  | frame f fn t todo ds m up rd => exact frameStep_sound hE hD hg e
  | call f args up =>
    simp only [jobStep] at e
    unfold callOr at e
    split at e
    · rename_i v s' hv
      cases up with
      | some u => cases hv
      | none =>
        cases e
        exact hO.call f args s v s' hv
    · exact enterV_sound hg e
  | round l args => exact roundV_sound hg e

theorem runK_sound (hE : EnvOk E) (hO : OrcOk E) (hD : DrawnSound E) : ∀ n, Good E.P (runK E n)
  | 0 => fun j s out e => by cases e
  | n + 1 => jobStep_sound hE hO hD (runK_sound hE hO hD n)

end
end Go.AI
