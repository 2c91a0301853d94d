/- The evaluator without a bound on its steps; calls of the machine; calls known beforehand. No conditions. -/
import Derived.Test.YthedakdjiljmhaaGreatDoorA8
import Derived.Test.YthedakdjiljmhaaGreatDoorA11
set_option linter.unusedVariables false
set_option linter.unusedSimpArgs false
noncomputable section
/- The evaluator without fuel: the limit of all fuels, and its equation. -/
namespace Go.AI

abbrev Ih := Job → S → Option Out

/-- What R answers, all later members of a chain answer. -/
def Lim (c : Nat → Ih) (R : Ih) : Prop := ∀ j s o, R j s = some o → ∃ n, ∀ m, n ≤ m → c m j s = some o

/-- A reckoning that looks at the evaluator finitely often. -/
def Fin1 {α : Type} (c : Nat → Ih) (R : Ih) (Φ : Ih → Option α) : Prop := ∀ x, Φ R = some x → ∃ n, ∀ m, n ≤ m → Φ (c m) = some x

section
variable {c : Nat → Ih} {R : Ih} {α β : Type}

theorem Fin1.const (x : Option α) : Fin1 c R (fun _ => x) := fun _ h => ⟨0, fun _ _ => h⟩

/-- One reckoning, and one behind it that takes its answer. -/
theorem Fin1.bind {Φ : Ih → Option α} {Ψ : Ih → Option α → Option β} (h : Fin1 c R Φ) (hn : ∀ ih, Ψ ih none = none) (hs : ∀ x, Fin1 c R (fun ih => Ψ ih (some x))) : Fin1 c R (fun ih => Ψ ih (Φ ih)) := by
  intro y hy
  cases hx : Φ R with
  | none => simp only [hx, hn] at hy; cases hy
  | some x =>
    simp only [hx] at hy
    obtain ⟨n1, h1⟩ := h x hx
    obtain ⟨n2, h2⟩ := hs x y hy
    refine ⟨max n1 n2, fun m hm => ?_⟩
    simp only [h1 m (by omega)]
    exact h2 m (by omega)

theorem Fin1.ih (h : Lim c R) (j : Job) (s : S) : Fin1 c R (fun ih => ih j s) := fun o ho => h j s o ho


theorem fin_outThen (h : Lim c R) {Φ : Ih → Option Out} (hΦ : Fin1 c R Φ) (d : Option Tmp) (t : T V) (ds : List Dfr) (up : Option Md) {k : Ih → RK} (hk : ∀ t ds up s, Fin1 c R (fun ih => k ih t ds up s)) : Fin1 c R (fun ih => outThen d t ds up (k ih) (Φ ih)) := by
  refine hΦ.bind (Ψ := fun ih x => outThen d t ds up (k ih) x) (fun _ => rfl) fun o => ?_
  obtain ⟨e, u, s⟩ := o
  cases e with
  | returned v => simp only [outThen, putT_D]; exact hk _ _ _ _
  | panicked c => exact Fin1.const _

theorem fin_nxThen (h : Lim c R) (rd : Option Nat) (d : Option Tmp) (t : T V) (ds : List Dfr) (up : Option Md) {k : Ih → RK} (hk : ∀ t ds up s, Fin1 c R (fun ih => k ih t ds up s)) (x : Option Nx) :
    Fin1 c R (fun ih => nxThen (recOf ih) (recROf ih) rd d t ds up (k ih) x) := by
  cases x with
  | none => exact Fin1.const _
  | some x =>
    cases x with
    | val v s => simp only [nxThen, putT_D]; exact hk _ _ _ _
    | skip s => simp only [nxThen, putT_D]; exact hk _ _ _ _
    | enter f args s => exact fin_outThen h (Fin1.ih h _ _) d t ds up hk
    | round l args s => exact fin_outThen h (Fin1.ih h _ _) d t ds up hk
    | defer df s => cases rd <;> simp only [nxThen, putT_D, Option.isSome_some, Option.isSome_none, cond_true, cond_false] <;> first | exact hk _ _ _ _ | exact Fin1.const _
    | recover s =>
      simp only [nxThen]
      unfold recovered
      split
      · simp only [putT_D]; exact hk _ _ _ _
      · simp only [putT_D]; exact hk _ _ _ _
      · exact Fin1.const _
    | panic v s => exact Fin1.const _

theorem fin_opThen (h : Lim c R) {E : Env} (rd : Option Nat) (o : Oper) (t : T V) (ds : List Dfr) (up : Option Md) (s : S) {k : Ih → RK} (hk : ∀ t ds up s, Fin1 c R (fun ih => k ih t ds up s)) (b : Option Bool) :
    Fin1 c R (fun ih => opThen E (recOf ih) (recROf ih) rd o t ds up s (k ih) b) := by
  cases b with
  | none => exact Fin1.const _
  | some b => cases b with
    | true => exact fin_nxThen h rd _ t ds up hk _
    | false => simp only [opThen, putT_D]; exact hk _ _ _ _

theorem fin_runOps (h : Lim c R) {E : Env} {ops : Array Oper} (rd : Option Nat) : ∀ (l : List Oper) (t : T V) (ds : List Dfr) (up : Option Md) (s : S), Fin1 c R (fun ih => runOps E ops (recOf ih) (recROf ih) rd l t ds up s)
  | [], _, _, _, _ => Fin1.const _
  | o :: l, t, ds, up, s => fin_opThen h rd o t ds up s (fun t ds up s => fin_runOps h rd l t ds up s) _

theorem fin_effStep (h : Lim c R) {E : Env} (t : T V) (s : S) (o : Oper) (b : Option Bool) : Fin1 c R (fun ih => effStep E (recOf ih) t s o b) := by
  cases b with
  | none => exact Fin1.const _
  | some b => cases b with
    | false => exact Fin1.const _
    | true =>
      simp only [effStep]
      cases doOp E t s o with
      | none => exact Fin1.const _
      | some x => cases x with
        | enter f args s =>
          simp only [effDo]
          refine (Fin1.ih h (.call f args none) s).bind (Ψ := fun _ x => effEnd x) (fun _ => rfl) fun o => Fin1.const _
        | _ => exact Fin1.const _

theorem fin_runEffs (h : Lim c R) {E : Env} {ops : Array Oper} {ms : List Nat} {effs : Nat} {all : List (Nat × Oper)} (ds : List Dfr) (up : Option Md) : ∀ (es : List (Nat × Oper)) (hist : List (Nat × S)) (done : Nat) (t : T V) (s : S),
    Fin1 c R (fun ih => runEffs E ops ms effs all (recOf ih) ds up es hist done t s)
  | [], _, _, _, _ => Fin1.const _
  | (i, o) :: r, hist, done, t, s => by
    simp only [runEffs]
    cases runPhase E ops ms effs hist (ms.getD i 0) all done t s with
    | none => exact Fin1.const _
    | some x =>
      obtain ⟨d1, t1, s1⟩ := x
      simp only
      refine (fin_effStep h t1 s1 o (wantedV ops t1 o)).bind (Ψ := fun ih x => match x with
        | some (v, s') => bif Nat.ble s1.next s'.next && !(d1.testBit i) && effs.testBit i then putT t1 o.dst (some v) fun t => runEffs E ops ms effs all (recOf ih) ds up r ((i, s') :: hist) (Nat.lor d1 (Nat.pow 2 i)) t s' else none
        | none => none) (fun _ => rfl) fun x => ?_
      obtain ⟨v, s'⟩ := x
      simp only
      cases (Nat.ble s1.next s'.next && !(d1.testBit i) && effs.testBit i) with
      | false => exact Fin1.const _
      | true => simp only [cond_true, putT_D]; exact fin_runEffs h ds up r _ _ _ _

theorem fin_runDrawn (h : Lim c R) {E : Env} {ops : Array Oper} (t : T V) (ds : List Dfr) (up : Option Md) (s : S) : Fin1 c R (fun ih => runDrawn E ops (recOf ih) (recROf ih) t ds up s) := by
  unfold runDrawn
  cases plan E.P ops with
  | none => exact Fin1.const _
  | some p => exact fin_runEffs h ds up _ _ _ _ _

variable {f : FuncId} {fn : Func}

theorem fin_go (h : Lim c R) (t : T V) (todo : List Item) (ds : List Dfr) (m : Md) (up : Option Md) (rd : Option Nat) (s : S) : Fin1 c R (fun ih => goOf ih f fn t todo ds m up rd s) := Fin1.ih h _ _

theorem fin_leaveV (h : Lim c R) (t : T V) (ds : List Dfr) (up : Option Md) (rd : Option Nat) (s : S) (jump : Option Code) : Fin1 c R (fun ih => leaveV (goOf ih f fn) t ds up rd s jump) := by
  unfold leaveV
  split
  · split
    · exact fin_go h _ _ _ _ _ _ _
    · exact fin_go h _ _ _ _ _ _ _
    · exact Fin1.const _
  · split <;> exact Fin1.const _

theorem fin_regionTo (h : Lim c R) {Φ : Ih → Option ROut} (hΦ : Fin1 c R Φ) (k : List Item) (rd : Option Nat) : Fin1 c R (fun ih => regionTo (goOf ih f fn) k rd (Φ ih)) := by
  refine hΦ.bind (Ψ := fun ih x => regionTo (goOf ih f fn) k rd x) (fun _ => rfl) fun x => ?_
  cases x <;> exact fin_go h _ _ _ _ _ _ _

theorem fin_rangeTo (h : Lim c R) {Φ : Ih → Option Out} (hΦ : Fin1 c R Φ) (k : List Item) (t : T V) (ds : List Dfr) (up : Option Md) (rd : Option Nat) (d l : Nat) : Fin1 c R (fun ih => rangeTo (goOf ih f fn) k t ds up rd d l (Φ ih)) := by
  refine hΦ.bind (Ψ := fun ih x => rangeTo (goOf ih f fn) k t ds up rd d l x) (fun _ => rfl) fun x => ?_
  obtain ⟨e, u, s⟩ := x
  cases e with
  | panicked c => exact fin_go h _ _ _ _ _ _ _
  | returned v =>
    simp only [rangeTo]
    unfold loopOver
    split
    · split
      · exact Fin1.const _
      · exact fin_go h _ _ _ _ _ _ _
    · exact Fin1.const _

theorem fin_rangeFrom (h : Lim c R) (nt : Nat) (k : List Item) (t : T V) (ds : List Dfr) (up : Option Md) (rd : Option Nat) (s : S) (ps : Array Tmp) (a b : Code) (x : Option V) : Fin1 c R (fun ih => rangeFrom f nt (goOf ih f fn) (recOf ih) k t ds up rd s ps a b x) := by
  unfold rangeFrom
  split
  · split
    · split
      · exact fin_rangeTo h (Fin1.ih h _ _) _ _ _ _ _ _ _
      · exact Fin1.const _
    · exact Fin1.const _
  · exact Fin1.const _

theorem fin_codeStep (h : Lim c R) {E : Env} (co : Code) (k : List Item) (t : T V) (ds : List Dfr) (up : Option Md) (rd : Option Nat) (s : S) : Fin1 c R (fun ih => codeStep co E f fn (goOf ih f fn) (recOf ih) (recROf ih) k t ds up rd s) := by
  cases co <;> simp only [codeStep] <;> try exact fin_go h _ _ _ _ _ _ _
  case ret => exact fin_leaveV h _ _ _ _ _ _
  case cond q a b =>
    unfold condTo
    split
    · exact fin_go h _ _ _ _ _ _ _
    · exact Fin1.const _
  case exit id =>
    unfold jumpTo
    split
    · exact fin_go h _ _ _ _ _ _ _
    · exact fin_leaveV h _ _ _ _ _ _
  case goto l =>
    unfold jumpTo
    split
    · exact fin_go h _ _ _ _ _ _ _
    · exact fin_leaveV h _ _ _ _ _ _
  case rangeFunc g ps a b => exact fin_rangeFrom h _ _ _ _ _ _ _ _ _ _ _
  case region id ops draws =>
    cases draws <;> simp only [] <;> cases dstOk ops fn.ntmps <;> simp only [cond_true, cond_false] <;> first | exact Fin1.const _ | exact fin_regionTo h (fin_runOps h _ _ _ _ _ _) _ _ | exact fin_regionTo h (fin_runDrawn h _ _ _ _) _ _
  case refuse => exact Fin1.const _

theorem fin_itemStep (h : Lim c R) {E : Env} (i : Item) (k : List Item) (t : T V) (ds : List Dfr) (up : Option Md) (rd : Option Nat) (s : S) : Fin1 c R (fun ih => itemStep i E f fn (goOf ih f fn) (recOf ih) (recROf ih) k t ds up rd s) := by
  cases i <;> simp only [itemStep] <;> try (first | exact fin_go h _ _ _ _ _ _ _ | exact Fin1.const _)
  case code co => exact fin_codeStep h co _ _ _ _ _ _
  case beginRound =>
    cases rd with
    | none => exact Fin1.const _
    | some l =>
      simp only
      unfold beginTo
      split
      · exact fin_go h _ _ _ _ _ _ _
      · exact Fin1.const _

theorem fin_unwind (h : Lim c R) {E : Env} (ds : List Dfr) (t : T V) (m : Md) (up : Option Md) (rd : Option Nat) (s : S) : Fin1 c R (fun ih => unwindStep ds E fn (goOf ih f fn) (recOf ih) t m up rd s) := by
  cases ds with
  | nil => exact Fin1.const _
  | cons d ds =>
    cases d with
    | collected b =>
      simp only [unwindStep]
      unfold collectedTo
      split
      · exact fin_go h _ _ _ _ _ _ _
      · exact Fin1.const _
    | call fn cap args =>
      cases fn with
      | func g =>
        simp only [unwindStep]
        refine (Fin1.ih h (.call g (args ++ cap) (some m)) s).bind (Ψ := fun ih x => deferTo2 (goOf ih f _) t ds up rd x) (fun _ => rfl) fun x => ?_
        unfold deferTo2
        split
        · split
          · exact Fin1.const _
          · exact fin_go h _ _ _ _ _ _ _
        · exact fin_go h _ _ _ _ _ _ _
        · exact Fin1.const _
      | _ => exact Fin1.const _

theorem fin_jobStep (h : Lim c R) {E : Env} (j : Job) (s : S) : Fin1 c R (fun ih => jobStep E ih j s) := by
  cases j with
  | frame f fn t todo ds m up rd =>
    simp only [jobStep]
    cases m with
    | run =>
      simp only [frameStep]
      cases todo with
      | nil => simp only [todoStep]; exact fin_leaveV h _ _ _ _ _ _
      | cons i k => simp only [todoStep]; exact fin_itemStep h i _ _ _ _ _ _
    | returning => simp only [frameStep]; exact fin_unwind h _ _ _ _ _ _
    | panicking c => simp only [frameStep]; exact fin_unwind h _ _ _ _ _ _
  | call f args up =>
    simp only [jobStep]
    unfold callOr
    split
    · exact Fin1.const _
    · unfold enterV
      split
      · split
        · rename_i fn _ _ co _
          cases hn : (fn.name == "runtime.NumGoroutine") with
          | true => exact Fin1.const _
          | false =>
            have : (fun ih : Ih => bif false then none else initT args 0 .leaf fun t => ih (.frame f fn t [.code co] [] .run up none) s) = fun ih => ih (.frame f fn (initT args 0 .leaf id) [.code co] [] .run up none) s := funext fun ih => initT_eq args 0 .leaf _
            rw [this]
            exact Fin1.ih h _ _
        · exact Fin1.const _
      · exact Fin1.const _
  | round l args =>
    simp only [jobStep]
    unfold roundV
    split
    · split
      · rename_i _ _ f0 t0 ps assign body _ nt _ _ fn _
        cases hn : (Nat.ble fn.ntmps nt && Nat.beq ps.size args.length && ps.toList.all (fun p => Nat.blt p nt)) with
        | false => exact Fin1.const _
        | true =>
          have : (fun ih : Ih => bif true then putParams t0 ps.toList args fun t => ih (.frame f0 fn t [.code assign, .beginRound, .code body] [] .run none (some l)) s else none) = fun ih => ih (.frame f0 fn (putParams t0 ps.toList args id) [.code assign, .beginRound, .code body] [] .run none (some l)) s := funext fun ih => putParams_eq ps.toList args t0 _
          rw [this]
          exact Fin1.ih h _ _
      · exact Fin1.const _
    · exact Fin1.const _

end

/-- The limit. -/
noncomputable def lim (E : Env) : Ih := fun j s => open Classical in if h : ∃ o n, runK E n j s = some o then some h.choose else none

theorem runK_succ (E : Env) (n : Nat) : runK E (n + 1) = jobStep E (runK E n) := rfl

theorem runK_mono1 (E : Env) : ∀ n j s o, runK E n j s = some o → runK E (n + 1) j s = some o
  | 0, _, _, _, h => by cases h
  | n + 1, j, s, o, h => by
    have hl : Lim (fun _ => runK E (n + 1)) (runK E n) := fun j s o h => ⟨0, fun _ _ => runK_mono1 E n j s o h⟩
    obtain ⟨k, hk⟩ := fin_jobStep hl (E := E) j s o h
    exact hk k (Nat.le_refl _)

theorem runK_mono (E : Env) {n m : Nat} (hm : n ≤ m) {j : Job} {s : S} {o : Out} (h : runK E n j s = some o) : runK E m j s = some o := by
  induction hm with
  | refl => exact h
  | step _ ih => exact runK_mono1 E _ j s o ih

theorem runK_lim {E : Env} {n : Nat} {j : Job} {s : S} {o : Out} (h : runK E n j s = some o) : lim E j s = some o := by
  have hex : ∃ o n, runK E n j s = some o := ⟨o, n, h⟩
  unfold lim
  rw [dif_pos hex]
  obtain ⟨m, hm⟩ := hex.choose_spec
  have h1 := runK_mono E (Nat.le_max_left n m) h
  have h2 := runK_mono E (Nat.le_max_right n m) hm
  rw [h1] at h2
  rw [← Option.some.inj h2]

theorem lim_runK {E : Env} {j : Job} {s : S} {o : Out} (h : lim E j s = some o) : ∃ n, runK E n j s = some o := by
  unfold lim at h
  split at h
  · rename_i hex
    cases h
    exact hex.choose_spec
  · cases h

theorem lim_Lim (E : Env) : Lim (runK E) (lim E) := fun j s o h => by
  obtain ⟨n, hn⟩ := lim_runK h
  exact ⟨n, fun m hm => runK_mono E hm hn⟩

/-- THE LIMIT's EQUATION. -/
theorem lim_eq (E : Env) (j : Job) (s : S) : lim E j s = jobStep E (lim E) j s := by
  cases h : jobStep E (lim E) j s with
  | some o =>
    obtain ⟨n, hn⟩ := fin_jobStep (lim_Lim E) j s o h
    exact runK_lim (n := n + 1) (hn n (Nat.le_refl _))
  | none =>
    cases h2 : lim E j s with
    | none => rfl
    | some o =>
      obtain ⟨n, hn⟩ := lim_runK h2
      cases n with
      | zero => cases hn
      | succ n =>
        have hl : Lim (fun _ => lim E) (runK E n) := fun j s o h => ⟨0, fun _ _ => runK_lim h⟩
        obtain ⟨k, hk⟩ := fin_jobStep hl (E := E) j s o hn
        have h3 : jobStep E (lim E) j s = some o := hk k (Nat.le_refl _)
        rw [h] at h3; cases h3

theorem lim_good {E : Env} (hE : EnvOk E) (hO : OrcOk E) (hD : DrawnSound E) : Good E.P (lim E) := fun j s o h => by
  obtain ⟨n, hn⟩ := lim_runK h
  exact runK_sound hE hO hD n j s o hn

end Go.AI
/- From the evaluator to calls of the machine; calls known beforehand. -/
namespace Go.AI

def Rho.no : Rho := fun _ _ => none

theorem HR.empty (w : World) (n : Nat) : HR Rho.no ⟨.leaf, n⟩ w :=
  ⟨fun _ _ _ => rfl, fun _ _ _ _ _ _ e => (by cases e), fun _ _ _ e => (by cases e), fun f B hB => by (rw [S.get_eq, T.get_leaf] at hB; cases hB), fun f B hB => by (rw [S.get_eq, T.get_leaf] at hB; cases hB), fun f B hB => by (rw [S.get_eq, T.get_leaf] at hB; cases hB)⟩

theorem calls_of_sound {P : Program} {f : FuncId} {args : List V} {s : S} {v : V} {u : Option Md} {s' : S} (h : SoundC P f args none s ⟨.returned v, u, s'⟩) {ρ : Rho} {w : World} {ys : List Value} (hr : HR ρ s w) (hd : denL ρ args = some ys) :
    Calls P f ys.toArray w fun e w' => ∃ ρ' y, e = .returned y ∧ den ρ' v = some y ∧ HR ρ' s' w' ∧ FR ρ w ρ' w' := by
  intro cs
  obtain ⟨_, h2⟩ := h ρ w ys hr hd
  obtain ⟨ρ', w', k1, k2, fr', e, k3, k4, k5, k6⟩ := h2 cs (fun u hu => by cases hu)
  cases e with
  | panicked _ => exact k3.elim
  | outgrown => exact k3.elim
  | returned y => exact ⟨.returned y, w', fr', ⟨ρ', y, rfl, k3, k1, k2⟩, k4, k5, k6⟩

/-- What begins with nothing leaves all that there was. -/
theorem FR.keeps {w : World} {ρ' : Rho} {w' : World} (h : FR Rho.no w ρ' w') : ∀ b, b < w.heap.size → w'.heap[b]? = w.heap[b]? := fun b hb => h.same b hb fun f v l e => by cases e

theorem soundC_pure {P : Program} {f : FuncId} {args : List V} {v : V} {n : Nat} {s1 : S} (h : SoundC P f args none ⟨.leaf, n⟩ ⟨.returned v, none, s1⟩)
    (ha : ∀ ρ ys, denL ρ args = some ys → denL Rho.no args = some ys) (hv : ∀ ρ y, den ρ v = some y → ∀ ρ', den ρ' v = some y) (s : S) : SoundC P f args none s ⟨.returned v, none, s⟩ := by
  intro ρ w ys hr hd
  obtain ⟨h1, h2⟩ := h Rho.no w ys (HR.empty w n) (ha ρ ys hd)
  refine ⟨h1, fun cs hup => ?_⟩
  obtain ⟨ρ', w', k1, k2, fr', e, k3, k4, k5, k6⟩ := h2 cs (fun u hu => by cases hu)
  refine ⟨ρ, w', hr.frame k2.size k2.keeps, ⟨ρ.le_refl, k2.size, k2.os, k2.tape, k2.output, fun b hb _ => k2.keeps b hb, fun f v l e _ => ⟨f, v, l, e, rfl, id⟩⟩, fr', e, ?_, k4, k5, k6⟩
  cases e with
  | panicked _ => exact k3.elim
  | outgrown => exact k3.elim
  | returned y => exact hv _ _ k3 _

/- ---- states that say less ---- -/
def Sub (a s : S) : Prop := (∀ f B, a.get f = some B → s.get f = some B) ∧ s.next ≤ a.next

theorem HR.sub {ρ : Rho} {a s : S} {w : World} (h : HR ρ s w) (hs : Sub a s) : HR ρ a w :=
  ⟨fun f v hf => h.fresh f v (Nat.le_trans hs.2 hf), h.inj, h.low, fun f B hB => h.blk f B (hs.1 f B hB), fun f B hB => Nat.lt_of_lt_of_le (h.dom f B (hs.1 f B hB)) hs.2, fun f B hB => h.rw f B (hs.1 f B hB)⟩

theorem soundC_sub {P : Program} {f : FuncId} {args : List V} {v : V} {a a' s b : S} (h : SoundC P f args none a ⟨.returned v, none, a'⟩) (h1 : Sub a s) (h2 : Sub b a') : SoundC P f args none s ⟨.returned v, none, b⟩ := by
  intro ρ w ys hr hd
  obtain ⟨k1, k2⟩ := h ρ w ys (hr.sub h1) hd
  refine ⟨k1, fun cs hup => ?_⟩
  obtain ⟨ρ', w', j1, j2, fr', e, j3, j4, j5, j6⟩ := k2 cs (fun u hu => by cases hu)
  exact ⟨ρ', w', j1.sub h2, j2, fr', e, j3, j4, j5, j6⟩

def sameVer (u v : Ver) : Bool := Nat.beq u.v v.v && Nat.beq u.lo v.lo && sameVs u.cells v.cells
def sameVers : List Ver → List Ver → Bool
  | [], [] => true
  | u :: r, v :: q => sameVer u v && sameVers r q
  | _, _ => false
def sameEnt (x y : Ent) : Bool := sameVs [x.key, x.val] [y.key, y.val] && Nat.beq x.born y.born
def sameEnts : List Ent → List Ent → Bool
  | [], [] => true
  | u :: r, v :: q => sameEnt u v && sameEnts r q
  | _, _ => false
def sameBlk : Blk → Blk → Bool
  | .cells e sb nv vs, .cells e' sb' nv' vs' => Nat.beq e e' && (sb == sb') && Nat.beq nv nv' && sameVers vs vs'
  | .map es c, .map es' c' => sameEnts es es' && Nat.beq c c'
  | .gone, .gone => true
  | _, _ => false
def sameBlkO : Option Blk → Option Blk → Bool
  | none, _ => true
  | some a, some b => sameBlk a b
  | some _, none => false
def subT : T Blk → T Blk → Bool
  | .leaf, _ => true
  | .node l v r, .node l' v' r' => sameBlkO v v' && subT l l' && subT r r'
  | .node _ _ _, .leaf => false
def subS (a s : S) : Bool := Nat.ble s.next a.next && subT a.h s.h

theorem sameVer_spec {u v : Ver} (h : sameVer u v = true) : u = v := by
  unfold sameVer at h
  simp only [Bool.and_eq_true] at h
  cases u; cases v
  simp only at h
  rw [Nat.eq_of_beq_eq_true h.1.1, Nat.eq_of_beq_eq_true h.1.2, sameVs_spec h.2]
theorem sameVers_spec : ∀ {a b : List Ver}, sameVers a b = true → a = b
  | [], [], _ => rfl
  | [], _ :: _, h => by cases h
  | _ :: _, [], h => by cases h
  | u :: r, v :: q, h => by
    simp only [sameVers, Bool.and_eq_true] at h
    rw [sameVer_spec h.1, sameVers_spec h.2]
theorem sameEnt_spec {u v : Ent} (h : sameEnt u v = true) : u = v := by
  unfold sameEnt at h
  simp only [Bool.and_eq_true] at h
  have h1 := sameVs_spec h.1
  have h2 := Nat.eq_of_beq_eq_true h.2
  cases u; cases v
  simp only [List.cons.injEq, and_true] at h1 h2
  rw [h1.1, h1.2, h2]
theorem sameEnts_spec : ∀ {a b : List Ent}, sameEnts a b = true → a = b
  | [], [], _ => rfl
  | [], _ :: _, h => by cases h
  | _ :: _, [], h => by cases h
  | u :: r, v :: q, h => by
    simp only [sameEnts, Bool.and_eq_true] at h
    rw [sameEnt_spec h.1, sameEnts_spec h.2]
theorem sameBlk_spec : ∀ {a b : Blk}, sameBlk a b = true → a = b := by
  intro a b h
  unfold sameBlk at h
  split at h
  · simp only [Bool.and_eq_true, beq_iff_eq] at h
    rw [Nat.eq_of_beq_eq_true h.1.1.1, h.1.1.2, Nat.eq_of_beq_eq_true h.1.2, sameVers_spec h.2]
  · simp only [Bool.and_eq_true] at h
    rw [sameEnts_spec h.1, Nat.eq_of_beq_eq_true h.2]
  · rfl
  · cases h
theorem subT_spec : ∀ {a b : T Blk}, subT a b = true → ∀ p B, a.get p = some B → b.get p = some B
  | .leaf, _, _, p, B, e => by rw [T.get_leaf] at e; cases e
  | .node _ _ _, .leaf, h, _, _, _ => by cases h
  | .node l v r, .node l' v' r', h, p, B, e => by
    simp only [subT, Bool.and_eq_true] at h
    cases p with
    | o =>
      rw [T.get_o] at e ⊢
      subst e
      cases v' with
      | none => have := h.1.1; cases this
      | some B' => rw [sameBlk_spec (a := B) (b := B') h.1.1]
    | l p => rw [T.get_l] at e ⊢; exact subT_spec h.1.2 p B e
    | r p => rw [T.get_r] at e ⊢; exact subT_spec h.2 p B e
theorem subS_spec {a s : S} (h : subS a s = true) : Sub a s := by
  unfold subS at h
  simp only [Bool.and_eq_true] at h
  exact ⟨fun f B hB => by rw [S.get_eq] at hB ⊢; exact subT_spec h.2 _ B hB, Nat.le_of_ble_eq_true h.1⟩

end Go.AI
/- Calls known beforehand, by the kernel. -/
namespace Go.AI

/-- A call's run from a state that says little comes to a value, and to a state of which b says some. -/
noncomputable def okCall (E : Env) (n : Nat) (f : FuncId) (args : List V) (a : S) (v : V) (b : S) : Bool :=
  match runK E n (.call f args none) a with
  | some ⟨.returned v', none, s'⟩ => sameVs [v] [v'] && subS b s'
  | _ => false

theorem okCall_sound {E : Env} (hE : EnvOk E) (hO : OrcOk E) (hD : DrawnSound E) {n : Nat} {f : FuncId} {args : List V} {a : S} {v : V} {b : S} (h : okCall E n f args a v b = true) {s : S} (hs : Sub a s) : SoundC E.P f args none s ⟨.returned v, none, b⟩ := by
  unfold okCall at h
  split at h
  · rename_i v' s' hr
    simp only [Bool.and_eq_true] at h
    have h1 := sameVs_spec h.1
    simp at h1
    subst h1
    exact soundC_sub (runK_sound hE hO hD n _ _ _ hr) hs (subS_spec h.2)
  · cases h

/-- A call that looks at no memory, and leaves none that is wanted. -/
noncomputable def okPure (E : Env) (n : Nat) (f : FuncId) (args : List V) (v : V) : Bool :=
  match runK E n (.call f args none) ⟨.leaf, 0⟩ with
  | some ⟨.returned v', none, _⟩ => sameVs [v] [v']
  | _ => false

def V.flat : V → Bool
  | .bool _ => true
  | .int _ _ => true
  | .str _ => true
  | .nilptr => true
  | .nilslice => true
  | .nilmap => true
  | .nilFunc => true
  | .nilIface => true
  | _ => false

theorem flat_den {v : V} (h : v.flat = true) : ∀ ρ y, den ρ v = some y → ∀ ρ', den ρ' v = some y := by
  intro ρ y e ρ'
  cases v <;> simp [V.flat] at h <;> exact e

theorem flat_denL : ∀ {l : List V}, l.all V.flat = true → ∀ ρ ys, denL ρ l = some ys → denL Rho.no l = some ys
  | [], _, _, _, e => e
  | v :: l, h, ρ, ys, e => by
    simp only [List.all_cons, Bool.and_eq_true] at h
    obtain ⟨y, q, h1, h2, rfl⟩ := denL_cons.1 e
    exact denL_cons.2 ⟨y, q, flat_den h.1 _ _ h1 _, flat_denL h.2 _ _ h2, rfl⟩

theorem okPure_sound {E : Env} (hE : EnvOk E) (hO : OrcOk E) (hD : DrawnSound E) {n : Nat} {f : FuncId} {args : List V} {v : V} (h : okPure E n f args v = true) (ha : args.all V.flat = true) (hv : v.flat = true) (s : S) : SoundC E.P f args none s ⟨.returned v, none, s⟩ := by
  unfold okPure at h
  split at h
  · rename_i v' s' hr
    have h1 := sameVs_spec h
    simp at h1
    subst h1
    exact soundC_pure (runK_sound hE hO hD n _ _ _ hr) (flat_denL ha) (flat_den hv) s
  · cases h

/-- One call known: its function, its arguments, what must be there, what it answers, what is there then. -/
structure Known where
  f : FuncId
  args : List V
  a : S
  v : V
  b : S

def Known.fits (k : Known) (f : FuncId) (args : List V) (s : S) : Bool := Nat.beq f k.f && (sameVs args k.args && subS k.a s)

def knownIn : List Known → FuncId → List V → S → Option (V × S)
  | [], _, _, _ => none
  | k :: r, f, args, s => bif k.fits f args s then some (k.v, k.b) else knownIn r f args s

theorem knownIn_spec : ∀ {l : List Known} {f : FuncId} {args : List V} {s : S} {v : V} {s' : S}, knownIn l f args s = some (v, s') → ∃ k ∈ l, k.f = f ∧ k.args = args ∧ Sub k.a s ∧ k.v = v ∧ k.b = s'
  | [], _, _, _, _, _, h => by cases h
  | k :: r, f, args, s, v, s', h => by
    simp only [knownIn] at h
    cases hb : k.fits f args s with
    | true =>
      rw [hb] at h
      cases h
      unfold Known.fits at hb
      simp only [Bool.and_eq_true] at hb
      exact ⟨k, by simp, (Nat.eq_of_beq_eq_true hb.1).symm, (sameVs_spec hb.2.1).symm, subS_spec hb.2.2, rfl, rfl⟩
    | false =>
      rw [hb] at h
      obtain ⟨k', h1, h2⟩ := knownIn_spec h
      exact ⟨k', List.mem_cons_of_mem _ h1, h2⟩

/-- Texts whose answer by one function is known. -/
def knownText (f0 : FuncId) (l : List (List Nat × V)) (f : FuncId) (args : List V) (s : S) : Option (V × S) := bif Nat.beq f f0 then look args l else none
 where
  look : List V → List (List Nat × V) → Option (V × S)
    | [.str x], (y, v) :: r => bif x == y then some (v, s) else look [.str x] r
    | _, _ => none

theorem look_spec {s : S} : ∀ {l : List (List Nat × V)} {args : List V} {v : V} {s' : S}, knownText.look s args l = some (v, s') → ∃ x, args = [.str x] ∧ (x, v) ∈ l ∧ s' = s
  | [], args, v, s', h => by
    have : knownText.look s args [] = none := by cases args with
      | nil => rfl
      | cons a r => cases a <;> cases r <;> rfl
    rw [this] at h; cases h
  | (y, u) :: r, args, v, s', h => by
    unfold knownText.look at h
    split at h
    · rename_i x y' u' r' he
      cases he
      cases hb : (x == y) with
      | true =>
        rw [hb] at h
        cases h
        have : x = y := by simpa using hb
        subst this
        exact ⟨x, rfl, by simp, rfl⟩
      | false =>
        rw [hb] at h
        obtain ⟨x', h1, h2, h3⟩ := look_spec h
        exact ⟨x', h1, List.mem_cons_of_mem _ h2, h3⟩
    · cases h

theorem knownText_spec {f0 : FuncId} {l : List (List Nat × V)} {f : FuncId} {args : List V} {s : S} {v : V} {s' : S} (h : knownText f0 l f args s = some (v, s')) : f = f0 ∧ ∃ x, args = [.str x] ∧ (x, v) ∈ l ∧ s' = s := by
  unfold knownText at h
  cases hb : Nat.beq f f0 with
  | false => rw [hb] at h; cases h
  | true => rw [hb] at h; exact ⟨Nat.eq_of_beq_eq_true hb, look_spec h⟩

end Go.AI
