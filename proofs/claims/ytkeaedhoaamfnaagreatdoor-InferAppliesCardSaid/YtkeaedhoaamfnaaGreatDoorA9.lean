/- The evaluator by which runs of the program are reckoned, and that it is sound: part 9. No conditions beyond those of the row. -/
import Derived.Test.YtkeaedhoaamfnaaGreatDoorA8
import Derived.IntWalk
set_option linter.unusedVariables false
set_option linter.unusedSimpArgs false
noncomputable section
/- Walks in the evaluator without fuel. -/
namespace Go.AI
variable {E : Env} {f : FuncId} {fn : Func} {t : T V} {i : Item} {k : List Item} {ds : List Dfr} {up : Option Md} {rd : Option Nat} {s : S} {o : Out}
def Fr (E : Env) (f : FuncId) (fn : Func) (t : T V) (todo : List Item) (ds : List Dfr) (up : Option Md) (rd : Option Nat) (s : S) (o : Out) : Prop := lim E (.frame f fn t todo ds .run up rd) s = some o
def Ca (E : Env) (f : FuncId) (args : List V) (s : S) (v : V) (s' : S) : Prop := lim E (.call f args none) s = some ⟨.returned v, none, s'⟩
theorem fr_of (h : jobStep E (lim E) (.frame f fn t (i :: k) ds .run up rd) s = some o) : Fr E f fn t (i :: k) ds up rd s o := by
  unfold Fr; rw [lim_eq]; exact h
theorem fr_seq {a b : Code} (h : Fr E f fn t (.code a :: .code b :: k) ds up rd s o) : Fr E f fn t (.code (.seq a b) :: k) ds up rd s o := fr_of h
theorem fr_skip (h : Fr E f fn t k ds up rd s o) : Fr E f fn t (.code .skip :: k) ds up rd s o := fr_of h
theorem fr_block {id : Nat} {c : Code} (h : Fr E f fn t (.code c :: .inBlock id :: k) ds up rd s o) : Fr E f fn t (.code (.block id c) :: k) ds up rd s o := fr_of h
theorem fr_inBlock {id : Nat} (h : Fr E f fn t k ds up rd s o) : Fr E f fn t (.inBlock id :: k) ds up rd s o := fr_of h
theorem fr_loop {c : Code} (h : Fr E f fn t (.code c :: .inLoop c :: k) ds up rd s o) : Fr E f fn t (.code (.loop c) :: k) ds up rd s o := fr_of h
theorem fr_scope {c : Code} (h : Fr E f fn t (.code c :: .inScope c :: k) ds up rd s o) : Fr E f fn t (.code (.scope c) :: k) ds up rd s o := fr_of h
theorem fr_inScope {c : Code} (h : Fr E f fn t k ds up rd s o) : Fr E f fn t (.inScope c :: k) ds up rd s o := fr_of h
theorem fr_label {l : Nat} (h : Fr E f fn t k ds up rd s o) : Fr E f fn t (.code (.label l) :: k) ds up rd s o := fr_of h
theorem fr_true {c : Operand} {a b : Code} (hc : eval t c = some (.bool true)) (h : Fr E f fn t (.code a :: k) ds up rd s o) : Fr E f fn t (.code (.cond c a b) :: k) ds up rd s o :=
  fr_of (by simp only [jobStep, frameStep, todoStep, itemStep, codeStep, hc, condTo]; exact h)
theorem fr_false {c : Operand} {a b : Code} (hc : eval t c = some (.bool false)) (h : Fr E f fn t (.code b :: k) ds up rd s o) : Fr E f fn t (.code (.cond c a b) :: k) ds up rd s o :=
  fr_of (by simp only [jobStep, frameStep, todoStep, itemStep, codeStep, hc, condTo]; exact h)
theorem fr_exit {id : Nat} {k' : List Item} (hx : exitTo id k = some k') (h : Fr E f fn t k' ds up rd s o) : Fr E f fn t (.code (.exit id) :: k) ds up rd s o :=
  fr_of (by simp only [jobStep, frameStep, todoStep, itemStep, codeStep, hx, jumpTo]; exact h)
theorem fr_region {id : Nat} {ops : Array Oper} {t' : T V} {ds' : List Dfr} {up' : Option Md} {s' : S} (hd : dstOk ops fn.ntmps = true) (hr : runOps E ops (recOf (lim E)) (recROf (lim E)) rd ops.toList t ds up s = some (.on t' ds' up' s'))
    (h : Fr E f fn t' k ds' up' rd s' o) : Fr E f fn t (.code (.region id ops false) :: k) ds up rd s o :=
  fr_of (by simp only [jobStep, frameStep, todoStep, itemStep, codeStep, hd, cond_true, hr, regionTo]; exact h)
theorem fr_drawn {id : Nat} {ops : Array Oper} {t' : T V} {ds' : List Dfr} {up' : Option Md} {s' : S} (hd : dstOk ops fn.ntmps = true) (hr : runDrawn E ops (recOf (lim E)) (recROf (lim E)) t ds up s = some (.on t' ds' up' s'))
    (h : Fr E f fn t' k ds' up' rd s' o) : Fr E f fn t (.code (.region id ops true) :: k) ds up rd s o :=
  fr_of (by simp only [jobStep, frameStep, todoStep, itemStep, codeStep, hd, cond_true, hr, regionTo]; exact h)
theorem fr_ret {v : V} (hv : resultsV E.P fn t s = some v) : Fr E f fn t (.code .ret :: k) [] none none s ⟨.returned v, none, s⟩ :=
  fr_of (by
    simp only [jobStep, frameStep, todoStep, itemStep, codeStep, leaveV, goOf]
    rw [lim_eq]
    simp only [jobStep, frameStep, unwindStep, leaveStep, hv, retOf])
theorem fr_end {v : V} (hv : resultsV E.P fn t s = some v) : Fr E f fn t [] [] none none s ⟨.returned v, none, s⟩ := by
  unfold Fr
  rw [lim_eq]
  simp only [jobStep, frameStep, todoStep, leaveV, goOf]
  rw [lim_eq]
  simp only [jobStep, frameStep, unwindStep, leaveStep, hv, retOf]
theorem ca_enter {args : List V} {v : V} {s' : S} {c : Code} (ho : E.orc f args s = none) (hf : E.P.funcs[f]? = some fn) (hb : fn.body = some c) (hn : (fn.name == "runtime.NumGoroutine") = false)
    (h : Fr E f fn (initT args 0 .leaf id) [.code c] [] none none s ⟨.returned v, none, s'⟩) : Ca E f args s v s' := by
  unfold Ca
  rw [lim_eq]
  simp only [jobStep, ho, callOr, enterV, hf, hb, hn, cond_false]
  rw [initT_eq]
  exact h
theorem ca_rec {args : List V} {v : V} {s' : S} (h : Ca E f args s v s') : recOf (lim E) f args none s = some ⟨.returned v, none, s'⟩ := h
/- ---- slots ---- -/
/- ---- operations in the order of the text ---- -/
variable {ops : Array Oper} {rec : RecF} {recR : RecR} {r : List Oper}
theorem ops_nil : runOps E ops rec recR rd [] t ds up s = some (.on t ds up s) := rfl
end Go.AI
/- Regions that draw their order, by a schedule that is reckoned of the text alone. -/
namespace Go.AI
def cntTo (m : Nat) : List Nat → Nat
  | [] => 0
  | e :: r => bif m.testBit e then 1 else cntTo m r + 1
def phSch (ms : List Nat) (effs m : Nat) (H : List Nat) : List (Nat × Oper) → Nat → Option (List (Option Nat × Nat) × Nat)
  | [], done => some ([], done)
  | (i, _) :: r, done =>
    bif !(m.testBit i) || done.testBit i then phSch ms effs m H r done
    else bif effs.testBit i then none
    else match phSch ms effs m H r (Nat.lor done (Nat.pow 2 i)) with
      | some (l, d) => some ((some (cntTo (ms.getD i 0) H), i) :: l, d)
      | none => none
def effSch (ms : List Nat) (effs n : Nat) (all : List (Nat × Oper)) : List (Nat × Oper) → List Nat → Nat → Option (List (Option Nat × Nat))
  | [], H, done => match phSch ms effs (Nat.pow 2 n - 1) H all done with
    | some (l, _) => some l
    | none => none
  | (i, _) :: r, H, done => match phSch ms effs (ms.getD i 0) H all done with
    | some (l, d) => bif !(d.testBit i) && effs.testBit i then (match effSch ms effs n all r (i :: H) (Nat.lor d (Nat.pow 2 i)) with
      | some l2 => some (l ++ (none, i) :: l2)
      | none => none) else none
    | none => none
def schOf (P : Program) (ops : Array Oper) : Option (List (Option Nat × Nat)) := match plan P ops with
  | some ⟨ms, l, es, mask⟩ => effSch ms mask ops.size l es [ops.size] 0
  | none => none
def floatDo1 (E : Env) (hist : List S) (t : T V) (s : S) (o : Oper) : Nat → Option (V × S)
  | 0 => valOnly s (doOp E t s o)
  | 1 => readBoth s (readAll E t o hist)
  | 2 => valBoth (doOp E t s o)
  | _ => none
def floatStep1 (E : Env) (hist : List S) (t : T V) (s : S) (o : Oper) : Option Bool → Option (V × S)
  | some true => floatDo1 E hist t s o (opKind E.P o.op)
  | some false => some (V.undef, s)
  | none => none
def runSch (E : Env) (ops : Array Oper) (rec : RecF) (ds : List Dfr) (up : Option Md) : List (Option Nat × Nat) → List S → T V → S → Option ROut
  | [], _, t, s => some (.on t ds up s)
  | (c, i) :: r, hist, t, s => match ops[i]? with
    | none => none
    | some o => match c with
      | some c => match floatStep1 E (hist.take c) t s o (wantedV ops t o) with
        | some (v, s) => runSch E ops rec ds up r hist (putD t o.dst v) s
        | none => none
      | none => match effStep E rec t s o (wantedV ops t o) with
        | some (v, s') => bif Nat.ble s.next s'.next then runSch E ops rec ds up r (s' :: hist) (putD t o.dst v) s' else none
        | none => none
theorem histTo_take (m : Nat) : ∀ (h : List (Nat × S)), histTo m h = (h.map (·.2)).take (cntTo m (h.map (·.1)))
  | [] => rfl
  | (e, s) :: r => by
    simp only [histTo, List.map_cons, cntTo]
    cases m.testBit e with
    | true => simp
    | false => simp [histTo_take m r]
theorem floatStep_1 {E : Env} {h : List (Nat × S)} {m : Nat} {t : T V} {s : S} {o : Oper} (b : Option Bool) : floatStep E h m t s o b = floatStep1 E ((h.map (·.2)).take (cntTo m (h.map (·.1)))) t s o b := by
  cases b with
  | none => rfl
  | some b => cases b with
    | false => rfl
    | true =>
      simp only [floatStep, floatStep1]
      unfold floatDo floatDo1
      rw [histTo_take]
      generalize opKind E.P o.op = q
      match q with
      | 0 => rfl
      | 1 => rfl
      | 2 => rfl
      | _ + 3 => rfl
theorem phSch_ok {E : Env} {ops : Array Oper} {rec : RecF} {ds : List Dfr} {up : Option Md} {ms : List Nat} {effs m : Nat} {hist : List (Nat × S)} :
    ∀ (l : List (Nat × Oper)) (done : Nat) (t : T V) (s : S), (∀ x ∈ l, ops[x.1]? = some x.2) → ∀ sc d, phSch ms effs m (hist.map (·.1)) l done = some (sc, d) → ∀ (rest : List (Option Nat × Nat)),
      runSch E ops rec ds up (sc ++ rest) (hist.map (·.2)) t s = match runPhase E ops ms effs hist m l done t s with
        | some (_, t, s) => runSch E ops rec ds up rest (hist.map (·.2)) t s
        | none => none
  | [], done, t, s, _, sc, d, h, rest => by cases h; rfl
  | (i, o) :: l, done, t, s, hops, sc, d, h, rest => by
    simp only [phSch] at h
    simp only [runPhase]
    cases hb : (!(m.testBit i) || done.testBit i) with
    | true =>
      rw [hb] at h
      simp only [cond_true] at h ⊢
      exact phSch_ok l done t s (fun x hx => hops x (List.mem_cons_of_mem _ hx)) sc d h rest
    | false =>
      rw [hb] at h
      simp only [cond_false] at h ⊢
      cases he : effs.testBit i with
      | true => rw [he] at h; cases h
      | false =>
        rw [he] at h
        simp only [cond_false] at h ⊢
        split at h
        · rename_i l1 d1 hp
          cases h
          simp only [List.cons_append, runSch]
          have ho : ops[i]? = some o := hops (i, o) (by simp)
          rw [ho]
          simp only
          rw [← floatStep_1]
          cases floatStep E hist (ms.getD i 0) t s o (wantedV ops t o) with
          | none => rfl
          | some x =>
            obtain ⟨v, s1⟩ := x
            simp only [putT_D]
            exact phSch_ok l _ _ s1 (fun x hx => hops x (List.mem_cons_of_mem _ hx)) l1 _ hp rest
        · cases h
theorem phSch_done {E : Env} {ops : Array Oper} {ms : List Nat} {effs m : Nat} {hist : List (Nat × S)} : ∀ (l : List (Nat × Oper)) (done : Nat) (t : T V) (s : S) sc d, phSch ms effs m (hist.map (·.1)) l done = some (sc, d) →
    ∀ d' t' s', runPhase E ops ms effs hist m l done t s = some (d', t', s') → d' = d
  | [], done, t, s, sc, d, h, d', t', s', e => by cases h; cases e; rfl
  | (i, o) :: l, done, t, s, sc, d, h, d', t', s', e => by
    simp only [phSch] at h
    simp only [runPhase] at e
    cases hb : (!(m.testBit i) || done.testBit i) with
    | true =>
      rw [hb] at h e
      exact phSch_done l done t s sc d h d' t' s' e
    | false =>
      rw [hb] at h e
      simp only [cond_false] at h e
      cases he : effs.testBit i with
      | true => rw [he] at h; cases h
      | false =>
        rw [he] at h e
        simp only [cond_false] at h e
        split at h
        · rename_i l1 d1 hp
          cases h
          split at e
          · rename_i v s1 hf
            rw [putT_D] at e
            exact phSch_done l _ _ s1 l1 d hp d' t' s' e
          · cases e
        · cases h
theorem effSch_ok {E : Env} {ops : Array Oper} {rec : RecF} {ds : List Dfr} {up : Option Md} {ms : List Nat} {effs : Nat} {all : List (Nat × Oper)} (hall : ∀ x ∈ all, ops[x.1]? = some x.2) :
    ∀ (es : List (Nat × Oper)), (∀ x ∈ es, ops[x.1]? = some x.2) → ∀ (hist : List (Nat × S)) (done : Nat) (t : T V) (s : S) sc, effSch ms effs ops.size all es (hist.map (·.1)) done = some sc →
      ∀ rr, runSch E ops rec ds up sc (hist.map (·.2)) t s = some rr → runEffs E ops ms effs all rec ds up es hist done t s = some rr
  | [], _, hist, done, t, s, sc, h, rr, e => by
    simp only [effSch] at h
    simp only [runEffs]
    split at h
    · rename_i l d hp
      cases h
      have := phSch_ok (E := E) (rec := rec) (ds := ds) (up := up) all done t s hall _ _ hp []
      rw [List.append_nil] at this
      rw [this] at e
      rw [← e]
      cases runPhase E ops ms effs hist (Nat.pow 2 ops.size - 1) all done t s with
      | none => rfl
      | some x => rfl
    · cases h
  | (i, o) :: r, hes, hist, done, t, s, sc, h, rr, e => by
    simp only [effSch] at h
    simp only [runEffs]
    split at h
    · rename_i l d hp
      cases hb : (!(d.testBit i) && effs.testBit i) with
      | false => rw [hb] at h; cases h
      | true =>
        rw [hb] at h
        simp only [cond_true] at h
        split at h
        · rename_i l2 h2
          cases h
          rw [phSch_ok (E := E) (rec := rec) (ds := ds) (up := up) all done t s hall _ _ hp] at e
          cases hph : runPhase E ops ms effs hist (ms.getD i 0) all done t s with
          | none => rw [hph] at e; cases e
          | some x =>
            obtain ⟨d1, t1, s1⟩ := x
            have hd := phSch_done all done t s _ _ hp _ _ _ hph
            subst hd
            rw [hph] at e
            simp only [runSch] at e
            have ho : ops[i]? = some o := hes (i, o) (by simp)
            rw [ho] at e
            simp only at e ⊢
            cases hst : effStep E rec t1 s1 o (wantedV ops t1 o) with
            | none => rw [hst] at e; cases e
            | some y =>
              obtain ⟨v, s2⟩ := y
              rw [hst] at e
              rw [effAll_val.2 hst]
              simp only [putT_D, Bool.and_assoc, hb, Bool.and_true] at e ⊢
              cases hn : Nat.ble s1.next s2.next with
              | false => rw [hn] at e; cases e
              | true =>
                rw [hn] at e
                simp only [cond_true] at e ⊢
                exact effSch_ok hall r (fun x hx => hes x (List.mem_cons_of_mem _ hx)) ((i, s2) :: hist) _ _ s2 l2 h2 rr e
        · cases h
    · cases h
theorem runDrawn_sch {E : Env} {ops : Array Oper} {sc : List (Option Nat × Nat)} (h : schOf E.P ops = some sc) (rec : RecF) (recR : RecR) (t : T V) (ds : List Dfr) (up : Option Md) (s : S) :
    ∀ rr, runSch E ops rec ds up sc [s] t s = some rr → runDrawn E ops rec recR t ds up s = some rr := by
  intro rr e
  unfold schOf at h
  unfold runDrawn
  split at h
  · rename_i ms l es mask hp
    rw [hp]
    simp only
    have hl : l = number ops.toList 0 ∧ es = effects E.P (number ops.toList 0) := by
      simp only [plan] at hp
      have hp := bif_some hp
      simp only [Option.some.injEq, Plan.mk.injEq] at hp
      exact ⟨hp.2.1.symm, hp.2.2.1.symm⟩
    obtain ⟨rfl, rfl⟩ := hl
    have hall : ∀ x ∈ number ops.toList 0, ops[x.1]? = some x.2 := fun x hx => number_ops.1 (by obtain ⟨a, b⟩ := x; exact hx)
    exact effSch_ok hall _ (fun x hx => hall x (List.mem_filter.1 hx).1) [(ops.size, s)] 0 t s sc h rr e
  · cases h
theorem fr_sch {E : Env} {f : FuncId} {fn : Func} {t : T V} {k : List Item} {ds : List Dfr} {up : Option Md} {rd : Option Nat} {s : S} {o : Out} {id : Nat} {ops : Array Oper} {t' : T V} {ds' : List Dfr} {up' : Option Md} {s' : S} (sc : List (Option Nat × Nat)) (hd : dstOk ops fn.ntmps = true)
    (hsc : schOf E.P ops = some sc) (hr : runSch E ops (recOf (lim E)) ds up sc [s] t s = some (.on t' ds' up' s')) (h : Fr E f fn t' k ds' up' rd s' o) : Fr E f fn t (.code (.region id ops true) :: k) ds up rd s o :=
  fr_drawn hd (runDrawn_sch hsc _ _ _ _ _ _ _ hr) h
end Go.AI
/- Equations for walks in the evaluator without fuel. -/
namespace Go.AI
theorem initT_cons (x : V) (r : List V) (i : Nat) (t : T V) : initT (x :: r) i t id = initT r (i + 1) (putD t (some i) x) id := by
  simp only [initT, T.setK_eq]; rfl
theorem initT_nil (i : Nat) (t : T V) : initT [] i t id = t := rfl
theorem get_putN (t : T V) (d i : Nat) (v : V) : (putD t (some d) v).get (pth i) = if d = i then some v else t.get (pth i) := by
  rw [get_putD]; simp
theorem putD_none (t : T V) (v : V) : putD t none v = t := rfl
theorem eval_tmp (t : T V) (i : Nat) : eval t (.tmp i) = t.get (pth i) := rfl
theorem eval_int (t : T V) (k : IntKind) (n : Int) : eval t (.const (.int k n)) = some (.int k n) := rfl
theorem eval_bool (t : T V) (b : Bool) : eval t (.const (.bool b)) = some (.bool b) := rfl
theorem eval_func (t : T V) (g : FuncId) : eval t (.func g) = some (.func (.func g) [] []) := rfl
theorem nxVal_some (s : S) (v : V) : nxVal s (some v) = some (.val v s) := rfl
section
variable {E : Env} {ops : Array Oper} {rec : RecF} {recR : RecR} {rd : Option Nat} {o : Oper} {r : List Oper} {t : T V} {ds : List Dfr} {up : Option Md} {s : S}
theorem runOps_cons : runOps E ops rec recR rd (o :: r) t ds up s = opThen E rec recR rd o t ds up s (runOps E ops rec recR rd r) (wantedV ops t o) := rfl
theorem runSch_nil {h : List S} : runSch E ops rec ds up [] h t s = some (.on t ds up s) := rfl
theorem runSch_float {c i : Nat} {r : List (Option Nat × Nat)} {h : List S} : runSch E ops rec ds up ((some c, i) :: r) h t s = match ops[i]? with
    | none => none
    | some o => match floatStep1 E (h.take c) t s o (wantedV ops t o) with
        | some (v, s) => runSch E ops rec ds up r h (putD t o.dst v) s
        | none => none := rfl
theorem runSch_eff {i : Nat} {r : List (Option Nat × Nat)} {h : List S} : runSch E ops rec ds up ((none, i) :: r) h t s = match ops[i]? with
    | none => none
    | some o => match effStep E rec t s o (wantedV ops t o) with
        | some (v, s') => bif Nat.ble s.next s'.next then runSch E ops rec ds up r (s' :: h) (putD t o.dst v) s' else none
        | none => none := rfl
end
end Go.AI
namespace Go.AI
theorem fr_ret1 {E : Env} {f : FuncId} {fn : Func} {t : T V} {k : List Item} {s : S} {i : Tmp} {v : V} (hr : fn.results = #[.tmp i]) (hv : t.get (pth i) = some v) : Fr E f fn t (.code .ret :: k) [] none none s ⟨.returned v, none, s⟩ :=
  fr_ret (by unfold resultsV; rw [hr]; simp only [resultL, resultV, hv]; rfl)
end Go.AI
namespace Go.AI
theorem doLoad_ptr (P : Program) (s : S) (ty : TypeId) (a : Ad) : doLoad P s ty (some (.ptr a)) = nxVal s (loadVar P s ty a) := rfl
theorem doStore_ptr (P : Program) (s : S) (ty : TypeId) (a : Ad) (v : V) : doStore P s ty (some (.ptr a)) (some v) = nxSkip (storeVar P s ty a v) := rfl
theorem natOf_cast (kd : IntKind) (k : Nat) : natOfO (some (.int kd (k : Int))) = some k := rfl
end Go.AI
/- Memory in walks: what is there, what a call leaves. -/
namespace Go.AI
def WF (s : S) : Prop := ∀ f B, s.get f = some B → f < s.next
def Ex (a s : S) : Prop := ∀ f vs, a.get f = some (.ro vs) → s.get f = some (.ro vs)
structure Fw (F : List Nat) (s s' : S) : Prop where
  keep : ∀ g B, g ∉ F → s.get g = some B → s'.get g = some B
  ro : ∀ g vs, s.get g = some (.ro vs) → s'.get g = some (.ro vs)
  next : s.next ≤ s'.next
  wf : WF s → WF s'
theorem Fw.refl (F : List Nat) (s : S) : Fw F s s := ⟨fun _ _ _ h => h, fun _ _ h => h, Nat.le_refl _, id⟩
theorem Fw.trans {F : List Nat} {a b c : S} (h : Fw F a b) (k : Fw F b c) : Fw F a c := ⟨fun g B hg hb => k.keep g B hg (h.keep g B hg hb), fun g vs hb => k.ro g vs (h.ro g vs hb), Nat.le_trans h.next k.next, fun hw => k.wf (h.wf hw)⟩
theorem Fw.mono {F G : List Nat} {a b : S} (h : Fw F a b) (hs : ∀ g ∈ F, g ∈ G) : Fw G a b := ⟨fun g B hg hb => h.keep g B (fun hf => hg (hs g hf)) hb, h.ro, h.next, h.wf⟩
theorem Fw.ex {F : List Nat} {a s s' : S} (h : Fw F s s') (he : Ex a s) : Ex a s' := fun f vs hf => h.ro f vs (he f vs hf)
theorem Fw.ble {F : List Nat} {s s' : S} (h : Fw F s s') : Nat.ble s.next s'.next = true := Nat.ble_eq_true_of_le h.next
theorem Fw.alloc (F : List Nat) {s : S} (hw : WF s) (B : Blk) : Fw F s (s.alloc B) := by
  refine ⟨fun g C _ hg => ?_, fun g vs hg => ?_, by rw [S.next_alloc]; omega, fun _ g C hg => ?_⟩
  · rw [S.get_alloc, if_neg (by have := hw g C hg; omega)]; exact hg
  · rw [S.get_alloc, if_neg (by have := hw g _ hg; omega)]; exact hg
  · rw [S.get_alloc] at hg
    rw [S.next_alloc]
    split at hg
    · omega
    · have := hw g C hg; omega
theorem Fw.put {F : List Nat} {s : S} {f : Nat} {B0 : Blk} (hf : f ∈ F) (h0 : s.get f = some B0) (hr : ∀ vs, B0 ≠ .ro vs) (B : Blk) : Fw F s (s.put f B) := by
  refine ⟨fun g C hg hb => ?_, fun g vs hb => ?_, by rw [S.next_put]; exact Nat.le_refl _, fun hw g C hg => ?_⟩
  · rw [S.get_put, if_neg (fun e => hg (by rw [← e]; exact hf))]; exact hb
  · rw [S.get_put, if_neg (fun e => by subst e; rw [h0] at hb; exact hr vs (Option.some.inj hb))]; exact hb
  · rw [S.get_put] at hg
    rw [S.next_put]
    split at hg
    · rename_i e; subst e; exact hw _ _ h0
    · exact hw g C hg
theorem Fw.drop {F : List Nat} {s s' : S} {f : Nat} (h : Fw (f :: F) s s') (hf : s.next ≤ f) (hw : WF s) : Fw F s s' :=
  ⟨fun g B hg hb => h.keep g B (fun hm => by
    rcases List.mem_cons.1 hm with rfl | hm
    · have := hw g B hb; omega
    · exact hg hm) hb, h.ro, h.next, h.wf⟩
/- ---- the walk's own blocks ---- -/
def Own (s : S) : List (Nat × Blk) → Prop
  | [] => True
  | (f, B) :: m => (s.get f = some B ∧ (∀ vs, B ≠ .ro vs) ∧ ∀ x ∈ m, x.1 ≠ f) ∧ Own s m
structure Me (F : List Nat) (s0 s : S) (m : List (Nat × Blk)) : Prop where
  wf0 : WF s0
  fw : Fw F s0 s
  own : Own s m
  hi : ∀ x ∈ m, s0.next ≤ x.1 ∨ x.1 ∈ F
theorem Own.at : ∀ {s : S} {m : List (Nat × Blk)} {i : Nat} {f : Nat} {B : Blk}, Own s m → m[i]? = some (f, B) → s.get f = some B
  | s, [], i, f, B, _, hi => by simp at hi
  | s, (g, C) :: m, 0, f, B, h, hi => by simp at hi; obtain ⟨rfl, rfl⟩ := hi; exact h.1.1
  | s, (g, C) :: m, i + 1, f, B, h, hi => by simp at hi; exact Own.at h.2 hi
theorem Me.at {F : List Nat} {s0 s : S} {m : List (Nat × Blk)} (h : Me F s0 s m) (i : Nat) {f : Nat} {B : Blk} (hi : m[i]? = some (f, B)) : s.get f = some B := h.own.at hi
theorem Me.wf {F : List Nat} {s0 s : S} {m : List (Nat × Blk)} (h : Me F s0 s m) : WF s := h.fw.wf h.wf0
theorem Own.mem : ∀ {s : S} {m : List (Nat × Blk)} {x : Nat × Blk}, Own s m → x ∈ m → s.get x.1 = some x.2
  | s, [], x, _, hx => by cases hx
  | s, (g, C) :: m, x, h, hx => by
    rcases List.mem_cons.1 hx with rfl | hx
    · exact h.1.1
    · exact Own.mem h.2 hx
theorem Own.keep : ∀ {s s' : S} {m : List (Nat × Blk)}, Own s m → (∀ x ∈ m, s'.get x.1 = some x.2) → Own s' m
  | s, s', [], _, _ => trivial
  | s, s', (g, C) :: m, h, k => ⟨⟨k (g, C) (by simp), h.1.2⟩, Own.keep h.2 fun x hx => k x (List.mem_cons_of_mem _ hx)⟩
theorem Me.start {F : List Nat} {s : S} (hw : WF s) : Me F s s [] := ⟨hw, Fw.refl F s, trivial, by simp⟩
theorem Me.alloc {F : List Nat} {s0 s : S} {m : List (Nat × Blk)} (h : Me F s0 s m) {B : Blk} (hr : ∀ vs, B ≠ .ro vs) : Me F s0 (s.alloc B) ((s.next, B) :: m) := by
  have hf := Fw.alloc F h.wf B
  refine ⟨h.wf0, h.fw.trans hf, ⟨⟨by rw [S.get_alloc, if_pos rfl], hr, fun x hx => ?_⟩, h.own.keep fun x hx => ?_⟩, fun x hx => ?_⟩
  · have := h.wf _ _ (h.own.mem hx); omega
  · exact (Fw.alloc [] h.wf B).keep _ _ (by simp) (h.own.mem hx)
  · rcases List.mem_cons.1 hx with rfl | hx
    · exact .inl h.fw.next
    · exact h.hi x hx
theorem Me.call {F : List Nat} {s0 s s' : S} {m : List (Nat × Blk)} (h : Me F s0 s m) (hf : Fw [] s s') : Me F s0 s' m :=
  ⟨h.wf0, h.fw.trans (hf.mono (by simp)), h.own.keep fun x hx => hf.keep _ _ (by simp) (h.own.mem hx), h.hi⟩
theorem Own.set : ∀ {s s' : S} {m : List (Nat × Blk)} {i f : Nat} {B B' : Blk}, Own s m → m[i]? = some (f, B) → (∀ vs, B' ≠ .ro vs) → s'.get f = some B' → (∀ g C, g ≠ f → s.get g = some C → s'.get g = some C) → Own s' (m.set i (f, B'))
  | s, s', [], i, f, B, B', _, hi, _, _, _ => by simp at hi
  | s, s', (g, C) :: m, 0, f, B, B', h, hi, hr, h1, h2 => by
    simp at hi; obtain ⟨rfl, rfl⟩ := hi
    exact ⟨⟨h1, hr, h.1.2.2⟩, h.2.keep fun x hx => h2 _ _ (h.1.2.2 x hx) (h.2.mem hx)⟩
  | s, s', (g, C) :: m, i + 1, f, B, B', h, hi, hr, h1, h2 => by
    simp at hi
    have hm : (f, B) ∈ m := List.mem_of_getElem? hi
    have hne : f ≠ g := h.1.2.2 _ hm
    refine ⟨⟨h2 _ _ (fun e => hne e.symm) h.1.1, h.1.2.1, fun x hx => ?_⟩, Own.set h.2 hi hr h1 h2⟩
    rcases List.mem_or_eq_of_mem_set hx with hx | rfl
    · exact h.1.2.2 x hx
    · exact hne
theorem Own.ne : ∀ {s : S} {m : List (Nat × Blk)} {i f : Nat} {B : Blk}, Own s m → m[i]? = some (f, B) → ∀ vs, B ≠ .ro vs
  | s, [], i, f, B, _, hi => by simp at hi
  | s, (g, C) :: m, 0, f, B, h, hi => by simp at hi; obtain ⟨rfl, rfl⟩ := hi; exact h.1.2.1
  | s, (g, C) :: m, i + 1, f, B, h, hi => by simp at hi; exact Own.ne h.2 hi
theorem Me.call1 {F : List Nat} {s0 s s' : S} {m : List (Nat × Blk)} (h : Me F s0 s m) (i : Nat) {f : Nat} {B B' : Blk} (hi : m[i]? = some (f, B)) (hr : ∀ vs, B' ≠ .ro vs) (hf : Fw [f] s s') (hB : s'.get f = some B') : Me F s0 s' (m.set i (f, B')) := by
  have hm : (f, B) ∈ m := List.mem_of_getElem? hi
  refine ⟨h.wf0, ?_, h.own.set hi hr hB fun g C hg hC => hf.keep g C (by simpa using hg) hC, fun x hx => ?_⟩
  · rcases h.hi _ hm with hh | hh
    · have h1 : Fw (f :: F) s0 s' := (h.fw.mono (fun g hg => List.mem_cons_of_mem _ hg)).trans (hf.mono (fun g hg => by simp at hg; subst hg; simp))
      exact h1.drop hh h.wf0
    · exact h.fw.trans (hf.mono (fun g hg => by simp at hg; subst hg; exact hh))
  · rcases List.mem_or_eq_of_mem_set hx with hx | rfl
    · exact h.hi x hx
    · exact h.hi (f, B) hm
theorem Me.put {F : List Nat} {s0 s : S} {m : List (Nat × Blk)} (h : Me F s0 s m) (i : Nat) {f : Nat} {B : Blk} (hi : m[i]? = some (f, B)) {B' : Blk} (hr : ∀ vs, B' ≠ .ro vs) : Me F s0 (s.put f B') (m.set i (f, B')) :=
  h.call1 i hi hr (Fw.put (by simp) (h.at i hi) (h.own.ne hi) B') (by rw [S.get_put, if_pos rfl])
/- ---- loads and stores at blocks of one version ---- -/
section
variable {s : S} {f : Nat} {e : TypeId} {sb : Bool} {nv : Nat} {cs : List V}
theorem ble0 (c : Nat) : Nat.ble 0 c = true := Nat.ble_eq_true_of_le (Nat.zero_le c)
theorem ld1 (h : s.get f = some (.cells e sb nv [⟨0, 0, cs⟩])) (c : Nat) : loadCell s ⟨f, 0, c⟩ = cs[c]? := by
  unfold loadCell; rw [h]; simp [findVer, ble0]
theorem ldn (h : s.get f = some (.cells e sb nv [⟨0, 0, cs⟩])) (c n : Nat) : loadCells s ⟨f, 0, c⟩ n = takeExact n (cs.drop c) := by
  unfold loadCells; rw [h]; simp [findVer, ble0]
theorem st1 (h : s.get f = some (.cells e sb nv [⟨0, 0, cs⟩])) (c : Nat) (new : List V) (h1 : new.all V.one = true) {cs' : List V} (h2 : overwrite cs c new = some cs') : storeCells s ⟨f, 0, c⟩ new = some (s.put f (.cells e sb nv [⟨0, 0, cs'⟩])) := by
  unfold storeCells; rw [h]; simp [findVer, h1, h2, ble0]
end
theorem get_alloc_same (s : S) (B : Blk) : (s.alloc B).get s.next = some B := by rw [S.get_alloc, if_pos rfl]
theorem wrap_in (n : Int) (h : -9223372036854775808 ≤ n ∧ n ≤ 9223372036854775807) : IntKind.i64.wrap n = n := IntWalk.i64_in n h
end Go.AI
namespace Go.AI
theorem bTT : (true == true) = true := rfl
theorem bFT : (false == true) = false := rfl
end Go.AI
/- Walks with a condition at the end. -/
namespace Go.AI
variable {E : Env} {f : FuncId} {fn : Func} {t : T V} {i : Item} {k : List Item} {ds : List Dfr} {up : Option Md} {rd : Option Nat} {s : S} {Q : Out → Prop}
def Wp (E : Env) (f : FuncId) (fn : Func) (t : T V) (todo : List Item) (ds : List Dfr) (up : Option Md) (rd : Option Nat) (s : S) (Q : Out → Prop) : Prop := ∃ o, Fr E f fn t todo ds up rd s o ∧ Q o
def Cw (E : Env) (f : FuncId) (args : List V) (s : S) (Q : V → S → Prop) : Prop := ∃ v s', Ca E f args s v s' ∧ Q v s'
def Ret (Q : V → S → Prop) : Out → Prop := fun o => ∃ v s, o = ⟨.returned v, none, s⟩ ∧ Q v s
theorem Wp.map {t' : T V} {k' : List Item} {ds' : List Dfr} {up' : Option Md} {s' : S} (h : Wp E f fn t' k' ds' up' rd s' Q) (m : ∀ o, Fr E f fn t' k' ds' up' rd s' o → Fr E f fn t k ds up rd s o) : Wp E f fn t k ds up rd s Q := by
  obtain ⟨o, h1, h2⟩ := h; exact ⟨o, m o h1, h2⟩
theorem wp_seq {a b : Code} (h : Wp E f fn t (.code a :: .code b :: k) ds up rd s Q) : Wp E f fn t (.code (.seq a b) :: k) ds up rd s Q := h.map fun _ => fr_seq
theorem wp_skip (h : Wp E f fn t k ds up rd s Q) : Wp E f fn t (.code .skip :: k) ds up rd s Q := h.map fun _ => fr_skip
theorem wp_block {id : Nat} {c : Code} (h : Wp E f fn t (.code c :: .inBlock id :: k) ds up rd s Q) : Wp E f fn t (.code (.block id c) :: k) ds up rd s Q := h.map fun _ => fr_block
theorem wp_inBlock {id : Nat} (h : Wp E f fn t k ds up rd s Q) : Wp E f fn t (.inBlock id :: k) ds up rd s Q := h.map fun _ => fr_inBlock
theorem wp_scope {c : Code} (h : Wp E f fn t (.code c :: .inScope c :: k) ds up rd s Q) : Wp E f fn t (.code (.scope c) :: k) ds up rd s Q := h.map fun _ => fr_scope
theorem wp_inScope {c : Code} (h : Wp E f fn t k ds up rd s Q) : Wp E f fn t (.inScope c :: k) ds up rd s Q := h.map fun _ => fr_inScope
theorem wp_label {l : Nat} (h : Wp E f fn t k ds up rd s Q) : Wp E f fn t (.code (.label l) :: k) ds up rd s Q := h.map fun _ => fr_label
theorem wp_cond {c : Operand} {a b : Code} (q : Bool) (hc : eval t c = some (.bool q)) (h1 : q = true → Wp E f fn t (.code a :: k) ds up rd s Q) (h2 : q = false → Wp E f fn t (.code b :: k) ds up rd s Q) : Wp E f fn t (.code (.cond c a b) :: k) ds up rd s Q := by
  cases q with
  | true => exact (h1 rfl).map fun _ => fr_true hc
  | false => exact (h2 rfl).map fun _ => fr_false hc
theorem wp_exit {id : Nat} {k' : List Item} (hx : exitTo id k = some k') (h : Wp E f fn t k' ds up rd s Q) : Wp E f fn t (.code (.exit id) :: k) ds up rd s Q := h.map fun _ => fr_exit hx
theorem wp_region {id : Nat} {ops : Array Oper} {t' : T V} {ds' : List Dfr} {up' : Option Md} {s' : S} (hd : dstOk ops fn.ntmps = true) (hr : runOps E ops (recOf (lim E)) (recROf (lim E)) rd ops.toList t ds up s = some (.on t' ds' up' s'))
    (h : Wp E f fn t' k ds' up' rd s' Q) : Wp E f fn t (.code (.region id ops false) :: k) ds up rd s Q := h.map fun _ => fr_region hd hr
theorem wp_sch {id : Nat} {ops : Array Oper} {t' : T V} {ds' : List Dfr} {up' : Option Md} {s' : S} (sc : List (Option Nat × Nat)) (hd : dstOk ops fn.ntmps = true)
    (hsc : schOf E.P ops = some sc) (hr : runSch E ops (recOf (lim E)) ds up sc [s] t s = some (.on t' ds' up' s')) (h : Wp E f fn t' k ds' up' rd s' Q) : Wp E f fn t (.code (.region id ops true) :: k) ds up rd s Q := h.map fun _ => fr_sch sc hd hsc hr
theorem wp_ret {Q : V → S → Prop} (v : V) (hv : resultsV E.P fn t s = some v) (h : Q v s) : Wp E f fn t (.code .ret :: k) [] none none s (Ret Q) := ⟨_, fr_ret hv, v, s, rfl, h⟩
theorem wp_ret1 {Q : V → S → Prop} (v : V) (i : Tmp) (hr : fn.results = #[.tmp i]) (hv : t.get (pth i) = some v) (h : Q v s) : Wp E f fn t (.code .ret :: k) [] none none s (Ret Q) := ⟨_, fr_ret1 hr hv, v, s, rfl, h⟩
theorem wp_loop_inv {c : Code} (I : Nat → T V → S → Prop)
    (step : ∀ j t s, I j t s → (∀ j' t' s', j' < j → I j' t' s' → Wp E f fn t' (.inLoop c :: k) ds up rd s' Q) → Wp E f fn t (.code c :: .inLoop c :: k) ds up rd s Q) :
    ∀ (n : Nat) (t : T V) (s : S), I n t s → Wp E f fn t (.code (.loop c) :: k) ds up rd s Q := by
  intro n
  induction n using Nat.strongRecOn with
  | ind n ih =>
    intro t s h
    refine (step n t s h fun j' t' s' hj hI => ?_).map fun _ => fr_loop
    refine (ih j' hj t' s' hI).map fun o ho => ?_
    unfold Fr at ho ⊢
    rw [lim_eq] at ho ⊢
    exact ho
theorem cw_enter {args : List V} {Q : V → S → Prop} {c : Code} (ho : E.orc f args s = none) (hf : E.P.funcs[f]? = some fn) (hb : fn.body = some c) (hn : (fn.name == "runtime.NumGoroutine") = false)
    (h : Wp E f fn (initT args 0 .leaf id) [.code c] [] none none s (Ret Q)) : Cw E f args s Q := by
  obtain ⟨o, h1, v, s', rfl, h2⟩ := h
  exact ⟨v, s', ca_enter ho hf hb hn h1, h2⟩
theorem Cw.mono {args : List V} {Q Q' : V → S → Prop} (h : Cw E f args s Q) (m : ∀ v s', Q v s' → Q' v s') : Cw E f args s Q' := by
  obtain ⟨v, s', h1, h2⟩ := h; exact ⟨v, s', h1, m v s' h2⟩
end Go.AI
namespace Go.AI
section
variable {E : Env} {ops : Array Oper} {rec : RecF} {recR : RecR} {rd : Option Nat} {o : Oper} {t : T V} {ds : List Dfr} {up : Option Md} {s s' : S} {k : RK} {d : Option Tmp} {v : V}
theorem opThen_true : opThen E rec recR rd o t ds up s k (some true) = nxThen rec recR rd o.dst t ds up k (opDo o.op E t s) := rfl
theorem opThen_false : opThen E rec recR rd o t ds up s k (some false) = k (putD t o.dst V.undef) ds up s := by simp only [opThen, putT_D]
theorem nxThen_val : nxThen rec recR rd d t ds up k (some (.val v s)) = k (putD t d v) ds up s := by simp only [nxThen, putT_D]
theorem nxThen_skip : nxThen rec recR rd d t ds up k (some (.skip s)) = k (putD t d V.undef) ds up s := by simp only [nxThen, putT_D]
theorem nxThen_enter {f : FuncId} {args : List V} : nxThen rec recR rd d t ds up k (some (.enter f args s)) = outThen d t ds up k (rec f args none s) := rfl
theorem nxThen_round {l : Nat} {args : List V} : nxThen rec recR rd d t ds up k (some (.round l args s)) = outThen d t ds up k (recR l args s) := rfl
theorem outThen_ret {u : Option Md} : outThen d t ds up k (some ⟨.returned v, u, s⟩) = k (putD t d v) ds up s := by simp only [outThen, putT_D]
def schThen (d : Option Tmp) (t : T V) (k : T V → S → Option ROut) : Option (V × S) → Option ROut
  | some (v, s) => k (putD t d v) s
  | none => none
def schFloat (E : Env) (ops : Array Oper) (h : List S) (t : T V) (s : S) (k : T V → S → Option ROut) : Option Oper → Option ROut
  | some o => schThen o.dst t k (floatStep1 E h t s o (wantedV ops t o))
  | none => none
def schNext (s s' : S) (d : Option Tmp) (t : T V) (v : V) (k : S → T V → S → Option ROut) : Bool → Option ROut
  | true => k s' (putD t d v) s'
  | false => none
def schEThen (s : S) (d : Option Tmp) (t : T V) (k : S → T V → S → Option ROut) : Option (V × S) → Option ROut
  | some (v, s') => schNext s s' d t v k (Nat.ble s.next s'.next)
  | none => none
def schEff (E : Env) (ops : Array Oper) (rec : RecF) (t : T V) (s : S) (k : S → T V → S → Option ROut) : Option Oper → Option ROut
  | some o => schEThen s o.dst t k (effStep E rec t s o (wantedV ops t o))
  | none => none
def runSchK (E : Env) (ops : Array Oper) (rec : RecF) (ds : List Dfr) (up : Option Md) (r : List (Option Nat × Nat)) (h : List S) (t : T V) (s : S) : Option ROut := runSch E ops rec ds up r h t s
def runSchE (E : Env) (ops : Array Oper) (rec : RecF) (ds : List Dfr) (up : Option Md) (r : List (Option Nat × Nat)) (h : List S) (s1 : S) (t : T V) (s : S) : Option ROut := runSch E ops rec ds up r (s1 :: h) t s
theorem runSch_f {c i : Nat} {r : List (Option Nat × Nat)} {h : List S} : runSch E ops rec ds up ((some c, i) :: r) h t s = schFloat E ops (h.take c) t s (runSchK E ops rec ds up r h) (ops[i]?) := by
  rw [runSch_float]
  cases ops[i]? with
  | none => rfl
  | some o =>
    simp only [schFloat]
    cases floatStep1 E (h.take c) t s o (wantedV ops t o) with
    | none => rfl
    | some x => rfl
theorem runSch_e {i : Nat} {r : List (Option Nat × Nat)} {h : List S} : runSch E ops rec ds up ((none, i) :: r) h t s = schEff E ops rec t s (runSchE E ops rec ds up r h) (ops[i]?) := by
  rw [runSch_eff]
  cases ops[i]? with
  | none => rfl
  | some o =>
    simp only [schEff]
    cases effStep E rec t s o (wantedV ops t o) with
    | none => rfl
    | some x =>
      obtain ⟨v, s'⟩ := x
      simp only [schEThen]
      cases Nat.ble s.next s'.next <;> rfl
theorem runSchK_eq {r : List (Option Nat × Nat)} {h : List S} : runSchK E ops rec ds up r h t s = runSch E ops rec ds up r h t s := rfl
theorem runSchE_eq {r : List (Option Nat × Nat)} {h : List S} {s1 : S} : runSchE E ops rec ds up r h s1 t s = runSch E ops rec ds up r (s1 :: h) t s := rfl
theorem schFloat_some {h : List S} {k : T V → S → Option ROut} : schFloat E ops h t s k (some o) = schThen o.dst t k (floatStep1 E h t s o (wantedV ops t o)) := rfl
theorem schThen_some {k : T V → S → Option ROut} : schThen d t k (some (v, s)) = k (putD t d v) s := rfl
theorem schEff_some {k : S → T V → S → Option ROut} : schEff E ops rec t s k (some o) = schEThen s o.dst t k (effStep E rec t s o (wantedV ops t o)) := rfl
theorem schEThen_some {k : S → T V → S → Option ROut} : schEThen s d t k (some (v, s')) = schNext s s' d t v k (Nat.ble s.next s'.next) := rfl
theorem schNext_true {k : S → T V → S → Option ROut} : schNext s s' d t v k true = k s' (putD t d v) s' := rfl
theorem floatStep1_true {h : List S} : floatStep1 E h t s o (some true) = floatDo1 E h t s o (opKind E.P o.op) := rfl
theorem floatStep1_false {h : List S} : floatStep1 E h t s o (some false) = some (V.undef, s) := rfl
theorem effStep_true : effStep E rec t s o (some true) = effDo rec (opDo o.op E t s) := rfl
theorem effStep_false : effStep E rec t s o (some false) = some (V.undef, s) := rfl
theorem effDo_val : effDo rec (some (.val v s)) = some (v, s) := rfl
theorem effDo_skip : effDo rec (some (.skip s)) = some (V.undef, s) := rfl
theorem effDo_enter {f : FuncId} {args : List V} : effDo rec (some (.enter f args s)) = effEnd (rec f args none s) := rfl
theorem effEnd_ret {u : Option Md} : effEnd (some ⟨.returned v, u, s⟩) = some (v, s) := rfl
theorem floatDo1_0 {h : List S} : floatDo1 E h t s o 0 = valOnly s (opDo o.op E t s) := rfl
theorem floatDo1_1 {h : List S} {x : S} : floatDo1 E [x] t s o 1 = readBoth s (readAll E t o [x]) := rfl
theorem floatDo1_2 {h : List S} : floatDo1 E h t s o 2 = valBoth (opDo o.op E t s) := rfl
theorem valOnly_val : valOnly s (some (.val v s')) = some (v, s) := rfl
theorem valBoth_val : valBoth (some (.val v s')) = some (v, s') := rfl
theorem readBoth_some : readBoth s (some v) = some (v, s) := rfl
def readTo : Option Nx → Option V
  | some (.val v _) => some v
  | _ => none
theorem readTo_val : readTo (some (.val v s)) = some v := rfl
theorem readAll_one {x : S} : readAll E t o [x] = readTo (opDo o.op E t x) := by
  simp only [readAll, doOp]
  cases opDo o.op E t x with
  | none => rfl
  | some n => cases n <;> rfl
end
def guardV (t : T V) (want : Bool) : Option Tmp → Option Bool
  | some d => guardB want (t.get (pth d))
  | none => none
 where
  guardB (want : Bool) : Option V → Option Bool
    | some (.bool b) => some (b == want)
    | some (.tuple _) => some false
    | _ => none
theorem wantedV_none {ops : Array Oper} {t : T V} {dst : Option Tmp} {op : Op} {ty : TypeId} {pos : String} {aft : Array Edge} : wantedV ops t ⟨dst, op, ty, pos, aft, none⟩ = some true := rfl
theorem wantedV_some {ops : Array Oper} {t : T V} {dst : Option Tmp} {op : Op} {ty : TypeId} {pos : String} {aft : Array Edge} {j : Nat} {w : Bool} : wantedV ops t ⟨dst, op, ty, pos, aft, some (j, w)⟩ = guardV t w ((ops[j]?).bind (·.dst)) := by
  simp only [wantedV]
  cases (ops[j]?).bind (·.dst) with
  | none => rfl
  | some d =>
    simp only [guardV]
    cases t.get (pth d) with
    | none => rfl
    | some v => cases v <;> rfl
theorem guardV_some {t : T V} {w : Bool} {d : Tmp} : guardV t w (some d) = guardV.guardB w (t.get (pth d)) := rfl
theorem guardB_bool {w b : Bool} : guardV.guardB w (some (.bool b)) = some (b == w) := rfl
end Go.AI
namespace Go.AI
mutual
theorem sameV_refl : ∀ v : V, sameVs.sameV v v = true
  | .bool _ => by simp [sameVs.sameV]
  | .int _ _ => by simp [sameVs.sameV]
  | .str _ => by simp [sameVs.sameV]
  | .ptr a => by simp [sameVs.sameV]
  | .nilptr => rfl
  | .slice .. => by simp [sameVs.sameV]
  | .nilslice => rfl
  | .map _ => by simp [sameVs.sameV]
  | .nilmap => rfl
  | .nilFunc => rfl
  | .nilIface => rfl
  | .func f a b => by simp [sameVs.sameV, sameVs_refl a, sameVs_refl b]
  | .iface t v => by simp [sameVs.sameV, sameV_refl v]
  | .agg a => by simp [sameVs.sameV, sameVs_refl a]
  | .tuple a => by simp [sameVs.sameV, sameVs_refl a]
  | .atom a => by simp [sameVs.sameV]
theorem sameVs_refl : ∀ l : List V, sameVs l l = true
  | [] => rfl
  | v :: l => by simp [sameVs, sameV_refl v, sameVs_refl l]
end
def readCons : Option V → Option V → Option V
  | some v, some w => bif sameVs [v] [w] then some v else none
  | _, _ => none
theorem readAll_two {E : Env} {t : T V} {o : Oper} {x y : S} {r : List S} : readAll E t o (x :: y :: r) = readCons (readTo (opDo o.op E t x)) (readAll E t o (y :: r)) := by
  simp only [readAll, doOp]
  cases opDo o.op E t x with
  | none => rfl
  | some n =>
    cases n <;> try rfl
    simp only [readTo]
    cases readAll E t o (y :: r) <;> rfl
theorem readCons_same (v : V) : readCons (some v) (some v) = some v := by simp [readCons, sameVs_refl]
end Go.AI
namespace Go.AI
theorem nxSkip_some (s : S) : nxSkip (some s) = some (.skip s) := rfl
theorem takeExact_all : ∀ (l : List V) (n : Nat), l.length = n → takeExact n l = some l
  | [], 0, _ => rfl
  | [], _ + 1, h => by simp at h
  | _ :: _, 0, h => by simp at h
  | x :: l, n + 1, h => by simp [takeExact, takeExact_all l n (by simpa using h)]
end Go.AI
namespace Go.AI
end Go.AI
namespace Go.AI
theorem ble_self (n : Nat) : Nat.ble n n = true := Nat.ble_eq_true_of_le (Nat.le_refl n)
theorem ble_put (s : S) (f : Nat) (B : Blk) : Nat.ble s.next (s.put f B).next = true := by rw [S.next_put]; exact ble_self _
theorem ble_alloc1 (s : S) (B : Blk) : Nat.ble s.next (s.alloc B).next = true := by rw [S.next_alloc]; exact Nat.ble_eq_true_of_le (Nat.le_succ _)
theorem Me.start1 {F : List Nat} {s : S} (hw : WF s) {f : Nat} {B : Blk} (hf : f ∈ F) (hB : s.get f = some B) (hr : ∀ vs, B ≠ .ro vs) : Me F s s [(f, B)] :=
  ⟨hw, Fw.refl F s, ⟨⟨hB, hr, by simp⟩, trivial⟩, fun x hx => by simp at hx; subst hx; exact .inr hf⟩
end Go.AI
