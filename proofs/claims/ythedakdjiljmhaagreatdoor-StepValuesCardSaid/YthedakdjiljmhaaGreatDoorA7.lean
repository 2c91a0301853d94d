/- Steps of the machine and regions in the order of the text. No conditions. -/
import Derived.Test.YthedakdjiljmhaaGreatDoorA6
import Derived.Defers
import Derived.Recover
import Derived.RangeFuncRecord
set_option linter.unusedVariables false
set_option linter.unusedSimpArgs false
noncomputable section
/- Frames: what an abstract frame stands for, and the machine's steps that only move control. -/
namespace Go.AI

def PanR (ρ : Rho) : List Pan → List PanicEntry → Prop
  | [], [] => True
  | p :: ps, e :: es => (den ρ p.v = some e.v ∧ p.recovered = e.recovered ∧ e.goexit = false) ∧ PanR ρ ps es
  | _, _ => False

theorem PanR.mono {ρ ρ' : Rho} (h : ρ.le ρ') : ∀ {c : List Pan} {ch : List PanicEntry}, PanR ρ c ch → PanR ρ' c ch
  | [], [], _ => trivial
  | _ :: _, _ :: _, ⟨⟨a, b⟩, k⟩ => ⟨⟨den_mono h _ _ a, b⟩, PanR.mono h k⟩
  | [], _ :: _, k => k.elim
  | _ :: _, [], k => k.elim

theorem PanR.append {ρ : Rho} : ∀ {c d : List Pan} {ch dh : List PanicEntry}, PanR ρ c ch → PanR ρ d dh → PanR ρ (c ++ d) (ch ++ dh)
  | [], _, [], _, _, k => k
  | _ :: _, _, _ :: _, _, ⟨a, h⟩, k => ⟨a, PanR.append h k⟩
  | [], _, _ :: _, _, h, _ => h.elim
  | _ :: _, _, [], _, h, _ => h.elim

def MdR (ρ : Rho) : Md → FrameMode → Prop
  | .run, .run => True
  | .returning, .returning => True
  | .panicking c, .panicking ch => PanR ρ c ch
  | _, _ => False

theorem MdR.mono {ρ ρ' : Rho} (h : ρ.le ρ') {m : Md} {fm : FrameMode} (k : MdR ρ m fm) : MdR ρ' m fm := by
  cases m <;> cases fm <;> first | exact k | exact PanR.mono h k

theorem DfrR.mono {ρ ρ' : Rho} (h : ρ.le ρ') {d : Dfr} {r : Deferred} (k : DfrR ρ d r) : DfrR ρ' d r := by
  cases d with
  | call fn cap args =>
    obtain ⟨g, c, a, h1, h2, h3, h4⟩ := k
    exact ⟨g, c, a, denFn_mono h h1, denL_mono h _ _ h2, denL_mono h _ _ h3, h4⟩
  | collected r =>
    obtain ⟨l, h1, h2⟩ := k
    exact ⟨l, h _ _ _ h1, h2⟩

def DfrsR (ρ : Rho) : List Dfr → List Deferred → Prop
  | [], [] => True
  | d :: ds, r :: rs => DfrR ρ d r ∧ DfrsR ρ ds rs
  | _, _ => False

theorem DfrsR.mono {ρ ρ' : Rho} (h : ρ.le ρ') : ∀ {c : List Dfr} {ch : List Deferred}, DfrsR ρ c ch → DfrsR ρ' c ch
  | [], [], _ => trivial
  | _ :: _, _ :: _, ⟨a, k⟩ => ⟨a.mono h, DfrsR.mono h k⟩
  | [], _ :: _, k => k.elim
  | _ :: _, [], k => k.elim

def EndR (ρ : Rho) : End → Ending → Prop
  | .returned v, .returned y => den ρ v = some y
  | .panicked c, .panicked ch => PanR ρ c ch
  | _, _ => False

/-- A frame that a call, or a round, comes back to. -/
def resume (c : Frame) : Ending → Frame
  | .returned v => c.finish v
  | .panicked ch => c.raise ch
  | .outgrown => c

def RdR (ρ : Rho) (up : Option Md) (rd ro : Option Nat) : Prop := match rd with
  | none => ro = none
  | some l => up = none ∧ ∃ lb : Loc, ρ l 0 = some lb ∧ ro = some lb.b

def UpR (ρ : Rho) (up : Option Md) (kind : CallKind) (cs : List Frame) : Prop := match up with
  | none => kind = .normal
  | some u => kind = .deferred ∧ ∃ c cs', cs = c :: cs' ∧ MdR ρ u c.mode

/-- A frame that an abstract one stands for. -/
structure FrR (P : Program) (ρ : Rho) (f : FuncId) (fn : Func) (t : T V) (todo : List Item) (ds : List Dfr) (m : Md) (up : Option Md) (rd : Option Nat) (fr : Frame) (cs : List Frame) : Prop where
  name : fr.fn = f
  func : P.funcs[f]? = some fn
  tr : TR ρ t fr.tmps
  size : fn.ntmps ≤ fr.tmps.size
  todo : m = .run → fr.todo = todo
  ds : DfrsR ρ ds fr.defers
  md : MdR ρ m fr.mode
  rd : RdR ρ up rd fr.roundOf
  up : UpR ρ up fr.kind cs

/-- How a frame's work ends. -/
def Fin (P : Program) (f : FuncId) (up rd : Bool) (cs : List Frame) (M : Machine) (ρ : Rho) (w : World) (out : Out) : Prop :=
  ∃ ρ' w', HR ρ' out.s w' ∧ FR ρ w ρ' w' ∧
    match rd, up with
    | true, _ => ∀ c cs', cs = c :: cs' → ∃ e, EndR ρ' out.e e ∧ Steps P M (lone (resume c e) cs' w')
    | false, false => ∃ fr' e, EndR ρ' out.e e ∧ Steps P M (lone fr' cs w') ∧ fr'.fn = f ∧ fr'.leaving P w' e
    | false, true => ∀ c cs', cs = c :: cs' → ∃ fr' e u u', out.up = some u ∧ MdR ρ' u u' ∧ EndR ρ' out.e e ∧
        Steps P M (lone fr' ({ c with mode := u' } :: cs') w') ∧ fr'.kind = .deferred ∧ fr'.going P w' e

theorem Fin.of_steps {P : Program} {f : FuncId} {up rd : Bool} {cs : List Frame} {M M0 : Machine} {ρ ρ1 : Rho} {w w1 : World} {out : Out} (hs : Steps P M0 M) (hf : FR ρ w ρ1 w1) (h : Fin P f up rd cs M ρ1 w1 out) :
    Fin P f up rd cs M0 ρ w out := by
  obtain ⟨ρ', w', h1, h2, h3⟩ := h
  refine ⟨ρ', w', h1, hf.trans h2, ?_⟩
  cases rd with
  | true => intro c cs' hc; obtain ⟨e, k1, k2⟩ := h3 c cs' hc; exact ⟨e, k1, hs.trans k2⟩
  | false => cases up with
    | false => obtain ⟨fr', e, k1, k2, k3⟩ := h3; exact ⟨fr', e, k1, hs.trans k2, k3⟩
    | true => intro c cs' hc; obtain ⟨fr', e, u, u', k1, k2, k3, k4, k5⟩ := h3 c cs' hc; exact ⟨fr', e, u, u', k1, k2, k3, hs.trans k4, k5⟩

/-- The mode of the frame above is of no weight. -/
theorem Fin.of_mode {P : Program} {f : FuncId} {c : Frame} {cs : List Frame} {M : Machine} {ρ : Rho} {w : World} {out : Out} {u1 : FrameMode} (h : Fin P f true false ({ c with mode := u1 } :: cs) M ρ w out) :
    Fin P f true false (c :: cs) M ρ w out := by
  obtain ⟨ρ', w', h1, h2, h3⟩ := h
  refine ⟨ρ', w', h1, h2, fun c1 cs1 hc => ?_⟩
  cases hc
  exact h3 { c with mode := u1 } cs rfl

def SoundF (P : Program) (f : FuncId) (fn : Func) (t : T V) (todo : List Item) (ds : List Dfr) (m : Md) (up : Option Md) (rd : Option Nat) (s : S) (out : Out) : Prop :=
  ∀ ρ w fr cs, HR ρ s w → FrR P ρ f fn t todo ds m up rd fr cs → Fin P f up.isSome rd.isSome cs (lone fr cs w) ρ w out

def kindOf : Option Md → CallKind
  | none => .normal
  | some _ => .deferred

def SoundC (P : Program) (f : FuncId) (args : List V) (up : Option Md) (s : S) (out : Out) : Prop :=
  ∀ ρ w ys, HR ρ s w → denL ρ args = some ys → (∀ w, (callFunc f ys.toArray).run P w = .ok (.enter f ys.toArray) w) ∧
    ∀ cs, (∀ u, up = some u → ∃ c cs', cs = c :: cs' ∧ MdR ρ u c.mode) → Fin P f up.isSome false cs (lone (Frame.enter P f ys.toArray (kindOf up)) cs w) ρ w out

def SoundR (P : Program) (l : Nat) (args : List V) (s : S) (out : Out) : Prop :=
  ∀ ρ w lb ys, HR ρ s w → ρ l 0 = some lb → denL ρ args = some ys →
    ∃ f tmps assign body, (Instr.yield lb.b ys.toArray).run P w = .ok (.round lb.b f tmps assign body) w ∧
      ∀ cs, Fin P f false true cs (lone (Frame.round lb.b f tmps assign body .normal) cs w) ρ w out

def Sound (P : Program) : Job → S → Out → Prop
  | .frame f fn t todo ds m up rd, s, out => SoundF P f fn t todo ds m up rd s out
  | .call f args up, s, out => SoundC P f args up s out
  | .round l args, s, out => SoundR P l args s out

def Good (P : Program) (ih : Job → S → Option Out) : Prop := ∀ j s out, ih j s = some out → Sound P j s out

/- ---- the machine's steps ---- -/
section steps
variable {P : Program} {fr : Frame} {k : List Item} {cs : List Frame} {w : World}

theorem st_skip (hm : fr.mode = .run) (ht : fr.todo = .code .skip :: k) : step P (lone fr cs w) = .next (lone { fr with todo := k } cs w) := step_lone_go (by simp [stepG, stepG.exec, hm, ht])
theorem st_label {l : Nat} (hm : fr.mode = .run) (ht : fr.todo = .code (.label l) :: k) : step P (lone fr cs w) = .next (lone { fr with todo := k } cs w) := step_lone_go (by simp [stepG, stepG.exec, hm, ht])
theorem st_inBlock {l : Nat} (hm : fr.mode = .run) (ht : fr.todo = .inBlock l :: k) : step P (lone fr cs w) = .next (lone { fr with todo := k } cs w) := step_lone_go (by simp [stepG, stepG.exec, hm, ht])
theorem st_inScope {c : Code} (hm : fr.mode = .run) (ht : fr.todo = .inScope c :: k) : step P (lone fr cs w) = .next (lone { fr with todo := k } cs w) := step_lone_go (by simp [stepG, stepG.exec, hm, ht])
theorem st_seq {a b : Code} (hm : fr.mode = .run) (ht : fr.todo = .code (.seq a b) :: k) : step P (lone fr cs w) = .next (lone { fr with todo := .code a :: .code b :: k } cs w) := step_lone_go (by simp [stepG, stepG.exec, hm, ht])
theorem st_cond {c : Operand} {a b : Code} {q : Bool} (hm : fr.mode = .run) (ht : fr.todo = .code (.cond c a b) :: k) (hc : rv fr.tmps c = .bool q) : step P (lone fr cs w) = .next (lone { fr with todo := .code (if q then a else b) :: k } cs w) :=
  step_lone_go (by
    have he : fr.eval c = .bool q := by rw [frame_eval]; exact hc
    simp [stepG, stepG.exec, hm, ht, he])
theorem st_block {id : Nat} {c : Code} (hm : fr.mode = .run) (ht : fr.todo = .code (.block id c) :: k) : step P (lone fr cs w) = .next (lone { fr with todo := .code c :: .inBlock id :: k } cs w) := step_lone_go (by simp [stepG, stepG.exec, hm, ht])
theorem st_loop {c : Code} (hm : fr.mode = .run) (ht : fr.todo = .code (.loop c) :: k) : step P (lone fr cs w) = .next (lone { fr with todo := .code c :: .inLoop c :: k } cs w) := step_lone_go (by simp [stepG, stepG.exec, hm, ht])
theorem st_inLoop {c : Code} (hm : fr.mode = .run) (ht : fr.todo = .inLoop c :: k) : step P (lone fr cs w) = .next (lone { fr with todo := .code c :: .inLoop c :: k } cs w) := step_lone_go (by simp [stepG, stepG.exec, hm, ht])
theorem st_scope {c : Code} (hm : fr.mode = .run) (ht : fr.todo = .code (.scope c) :: k) : step P (lone fr cs w) = .next (lone { fr with todo := .code c :: .inScope c :: k } cs w) := step_lone_go (by simp [stepG, stepG.exec, hm, ht])
theorem st_exit {id : Nat} {k' : List Item} (hm : fr.mode = .run) (ht : fr.todo = .code (.exit id) :: k) (h : exitTo id k = some k') : step P (lone fr cs w) = .next (lone { fr with todo := k' } cs w) := step_lone_go (by simp [stepG, stepG.exec, hm, ht, h])
theorem st_goto {l : Nat} {k' : List Item} (hm : fr.mode = .run) (ht : fr.todo = .code (.goto l) :: k) (h : gotoIn l k = some k') : step P (lone fr cs w) = .next (lone { fr with todo := k' } cs w) := step_lone_go (by simp [stepG, stepG.exec, hm, ht, h])
theorem st_ret (hm : fr.mode = .run) (ht : fr.todo = .code .ret :: k) (hr : fr.roundOf = none) : step P (lone fr cs w) = .next (lone { fr with mode := .returning } cs w) := step_lone_go (by simp [stepG, stepG.exec, hm, ht, hr])
theorem st_end (hm : fr.mode = .run) (ht : fr.todo = []) (hr : fr.roundOf = none) : step P (lone fr cs w) = .next (lone { fr with mode := .returning } cs w) := step_lone_go (by simp [stepG, stepG.exec, hm, ht, hr])
theorem st_region {id : Nat} {ops : Array Oper} (hm : fr.mode = .run) (ht : fr.todo = .code (.region id ops false) :: k) : step P (lone fr cs w) = .next (lone { fr with todo := .inRegion ops (List.range ops.size) :: k } cs w) := step_lone_go (by simp [stepG, stepG.exec, hm, ht])
theorem st_regionEnd {ops : Array Oper} (hm : fr.mode = .run) (ht : fr.todo = .inRegion ops [] :: k) : step P (lone fr cs w) = .next (lone { fr with todo := k } cs w) := step_lone_go (by simp [stepG, stepG.exec, hm, ht])

/-- An operation that is not wanted. -/
theorem st_unwanted {ops : Array Oper} {i : Nat} {rest : List Nat} (hm : fr.mode = .run) (ht : fr.todo = .inRegion ops (i :: rest) :: k) (h : ((ops[i]?).map (Region.wanted · (yielded ops fr.tmps))).getD false = false) :
    step P (lone fr cs w) = .next (lone (fr.finish undef) cs w) := step_lone_go (by simp [stepG, stepG.exec, hm, ht, h])

/-- An operation that is. -/
theorem stepG_oper {ops : Array Oper} {i : Nat} {rest : List Nat} {o : Oper} (hm : fr.mode = .run) (ht : fr.todo = .inRegion ops (i :: rest) :: k) (ho : ops[i]? = some o) (hw : Region.wanted o (yielded ops fr.tmps) = true)
    (hd : fr.roundOf = none ∨ ∀ c, o.op ≠ .defer c) :
    stepG P true { frame := fr, callers := cs, status := .running, dying := none } w = stepG.apply P true fr cs none (execOp (rv fr.tmps) o) w := by
  have he : fr.eval = rv fr.tmps := frame_eval fr
  rcases hd with hd | hd
  · simp [stepG, stepG.exec, stepG.oper, Frame.oper?, hm, ht, ho, hw, he, hd]
  · cases hr : fr.roundOf with
    | none => simp [stepG, stepG.exec, stepG.oper, Frame.oper?, hm, ht, ho, hw, he, hr]
    | some l =>
      simp only [stepG, stepG.exec, stepG.oper, Frame.oper?, hm, ht, ho, hw, he, hr, Option.map_some, Option.getD_some, if_true]
      split
      · rename_i hc; exact absurd hc (hd _)
      · rfl

end steps
end Go.AI
/- Regions in the order of the text; leaving a frame. -/
namespace Go.AI

theorem frun {P : Program} {ρ : Rho} {f : FuncId} {fn : Func} {t : T V} {todo : List Item} {ds : List Dfr} {up : Option Md} {rd : Option Nat} {fr : Frame} {cs : List Frame}
    (h : FrR P ρ f fn t todo ds .run up rd fr cs) : fr.mode = .run := by
  have := h.md
  cases hm : fr.mode <;> rw [hm] at this <;> first | rfl | exact this.elim

theorem FrR.to {P : Program} {ρ : Rho} {f : FuncId} {fn : Func} {t : T V} {todo : List Item} {ds : List Dfr} {up : Option Md} {rd : Option Nat} {fr : Frame} {cs : List Frame}
    (h : FrR P ρ f fn t todo ds .run up rd fr cs) (todo' : List Item) : FrR P ρ f fn t todo' ds .run up rd { fr with todo := todo' } cs :=
  ⟨h.name, h.func, h.tr, h.size, fun _ => rfl, h.ds, h.md, h.rd, h.up⟩

theorem FrR.mono {P : Program} {ρ ρ' : Rho} (hl : ρ.le ρ') {f : FuncId} {fn : Func} {t : T V} {todo : List Item} {ds : List Dfr} {m : Md} {up : Option Md} {rd : Option Nat} {fr : Frame} {cs : List Frame}
    (h : FrR P ρ f fn t todo ds m up rd fr cs) : FrR P ρ' f fn t todo ds m up rd fr cs := by
  refine ⟨h.name, h.func, h.tr.mono hl, h.size, h.todo, h.ds.mono hl, h.md.mono hl, ?_, ?_⟩
  · have := h.rd
    cases rd with
    | none => exact this
    | some l => obtain ⟨h1, lb, h2, h3⟩ := this; exact ⟨h1, lb, hl _ _ _ h2, h3⟩
  · have := h.up
    cases up with
    | none => exact this
    | some u => obtain ⟨h1, c, cs', h2, h3⟩ := this; exact ⟨h1, c, cs', h2, h3.mono hl⟩

/-- One step of control. -/
theorem one_step {P : Program} {ρ : Rho} {w : World} {f : FuncId} {fn : Func} {t' : T V} {todo' : List Item} {ds' : List Dfr} {m' : Md} {up : Option Md} {rd : Option Nat} {fr fr' : Frame} {cs : List Frame} {s : S} {out : Out}
    (h : HR ρ s w) (hs : step P (lone fr cs w) = .next (lone fr' cs w)) (hF : FrR P ρ f fn t' todo' ds' m' up rd fr' cs) (hgo : SoundF P f fn t' todo' ds' m' up rd s out) : Fin P f up.isSome rd.isSome cs (lone fr cs w) ρ w out :=
  Fin.of_steps (.one hs) (FR.refl ρ w) (hgo _ _ _ _ h hF)

/-- The frames above, but for the mode of the first. -/
def Tops (up : Option Md) (cs cs' : List Frame) : Prop := match up with
  | none => cs' = cs
  | some _ => ∃ c tl u, cs = c :: tl ∧ cs' = { c with mode := u } :: tl

theorem Tops.refl {P : Program} {ρ : Rho} {f : FuncId} {fn : Func} {t : T V} {todo : List Item} {ds : List Dfr} {m : Md} {up : Option Md} {rd : Option Nat} {fr : Frame} {cs : List Frame}
    (h : FrR P ρ f fn t todo ds m up rd fr cs) : Tops up cs cs := by
  have := h.up
  cases up with
  | none => rfl
  | some u => obtain ⟨_, c, cs', h2, _⟩ := this; exact ⟨c, cs', c.mode, h2, h2⟩

theorem Tops.trans {up up' : Option Md} (hu : up'.isSome = up.isSome) {a b c : List Frame} (h : Tops up a b) (k : Tops up' b c) : Tops up a c := by
  cases up with
  | none => cases up' with
    | none => exact Eq.trans k h
    | some _ => cases hu
  | some _ => cases up' with
    | none => cases hu
    | some _ =>
      obtain ⟨c1, t1, u1, rfl, rfl⟩ := h
      obtain ⟨c2, t2, u2, h1, rfl⟩ := k
      cases h1
      exact ⟨c1, t1, u2, rfl, rfl⟩

theorem Fin.of_tops {P : Program} {f : FuncId} {up : Option Md} {rd : Option Nat} {cs cs' : List Frame} {M : Machine} {ρ : Rho} {w : World} {out : Out} (hr : up.isSome = true → rd = none)
    (ht : Tops up cs cs') (h : Fin P f up.isSome rd.isSome cs' M ρ w out) : Fin P f up.isSome rd.isSome cs M ρ w out := by
  cases up with
  | none => cases ht; exact h
  | some u =>
    cases hr rfl
    obtain ⟨c, tl, u1, rfl, rfl⟩ := ht
    exact Fin.of_mode h

theorem FrR.lone_up {P : Program} {ρ : Rho} {f : FuncId} {fn : Func} {t : T V} {todo : List Item} {ds : List Dfr} {m : Md} {up : Option Md} {rd : Option Nat} {fr : Frame} {cs : List Frame}
    (h : FrR P ρ f fn t todo ds m up rd fr cs) : up.isSome = true → rd = none := by
  intro hu
  have := h.rd
  cases rd with
  | none => rfl
  | some l => rw [this.1] at hu; cases hu

/- ---- regions in the order of the text ---- -/
def putD (t : T V) (d : Option Tmp) (v : V) : T V := putT t d (some v) id

theorem putT_D {β : Type} (t : T V) (d : Option Tmp) (v : V) (k : T V → β) : putT t d (some v) k = k (putD t d v) := putT_eq t d (some v) k

def putM (tm : Array Value) (d : Option Tmp) (y : Value) : Array Value := match d with
  | some i => tm.setIfInBounds i y
  | none => tm

theorem TR.putD {ρ : Rho} {t : T V} {tm : Array Value} (h : TR ρ t tm) {d : Option Tmp} {v : V} {y : Value} (hv : den ρ v = some y) (hd : ∀ i, d = some i → i < tm.size) : TR ρ (AI.putD t d v) (putM tm d y) := by
  cases d with
  | none => exact h
  | some i =>
    have := TR.put h hv (hd i rfl)
    exact this

theorem finish_op {fr : Frame} {ops : Array Oper} {i : Nat} {rest : List Nat} {k : List Item} {o : Oper} (ht : fr.todo = .inRegion ops (i :: rest) :: k) (ho : ops[i]? = some o) (y : Value) :
    fr.finish y = { fr with tmps := putM fr.tmps o.dst y, todo := .inRegion ops rest :: k } := by
  simp only [Frame.finish, ht, ho, Option.bind_some, putM]
  cases o.dst <;> rfl

section
variable {P : Program} {ρ : Rho} {f : FuncId} {fn : Func} {t : T V} {ds : List Dfr} {up : Option Md} {rd : Option Nat} {fr : Frame} {cs : List Frame} {ops : Array Oper} {i : Nat} {rest : List Nat} {k : List Item} {o : Oper}

theorem FrR.finish (h : FrR P ρ f fn t (.inRegion ops (i :: rest) :: k) ds .run up rd fr cs) (ho : ops[i]? = some o) (hd : ∀ d, o.dst = some d → d < fn.ntmps) {v : V} {y : Value} (hv : den ρ v = some y) :
    FrR P ρ f fn (putD t o.dst v) (.inRegion ops rest :: k) ds .run up rd (fr.finish y) cs := by
  rw [finish_op (h.todo rfl) ho]
  refine ⟨h.name, h.func, h.tr.putD hv fun i hi => Nat.lt_of_lt_of_le (hd i hi) h.size, ?_, fun _ => rfl, h.ds, h.md, h.rd, h.up⟩
  show fn.ntmps ≤ (putM fr.tmps o.dst y).size
  have := h.size
  unfold putM
  split <;> simpa using this

theorem wantedV_sound (h : TR ρ t fr.tmps) {b : Bool} (e : wantedV ops t o = some b) : Region.wanted o (yielded ops fr.tmps) = b := by
  unfold wantedV at e
  unfold Region.wanted
  split at e
  · rename_i hg; rw [hg]; cases e; rfl
  · rename_i j want hg
    rw [hg]
    split at e
    · rename_i d hd
      split at e
      · rename_i q hq
        obtain ⟨y, h1, h2⟩ := h d _ hq
        cases h1; cases e
        simp [yielded, hd, h2]
      · rename_i q hq
        obtain ⟨y, h1, h2⟩ := h d _ hq
        cases e
        simp only [den] at h1
        split at h1
        · cases h1; simp [yielded, hd, h2]
        · cases h1
      · cases e
    · cases e
end

def ROk (P : Program) (ρ : Rho) (w : World) (f : FuncId) (fn : Func) (k : List Item) (up : Option Md) (rd : Option Nat) (cs : List Frame) (M : Machine) (r : ROut) : Prop :=
  ∃ ρ' w' fr' cs', Steps P M (lone fr' cs' w') ∧ FR ρ w ρ' w' ∧ Tops up cs cs' ∧ match r with
    | .on t' ds' up' s' => HR ρ' s' w' ∧ FrR P ρ' f fn t' k ds' .run up' rd fr' cs' ∧ up'.isSome = up.isSome
    | .panicked c t' ds' up' s' => HR ρ' s' w' ∧ FrR P ρ' f fn t' k ds' (.panicking c) up' rd fr' cs' ∧ up'.isSome = up.isSome

theorem ROk.of_steps {P : Program} {ρ ρ1 : Rho} {w w1 : World} {f : FuncId} {fn : Func} {k : List Item} {up up1 : Option Md} {rd : Option Nat} {cs cs1 : List Frame} {M M0 : Machine} {r : ROut}
    (hs : Steps P M0 M) (hf : FR ρ w ρ1 w1) (ht : Tops up cs cs1) (hu : up1.isSome = up.isSome) (h : ROk P ρ1 w1 f fn k up1 rd cs1 M r) : ROk P ρ w f fn k up rd cs M0 r := by
  obtain ⟨ρ', w', fr', cs', h1, h2, h3, h4⟩ := h
  refine ⟨ρ', w', fr', cs', hs.trans h1, hf.trans h2, ht.trans hu h3, ?_⟩
  cases r <;> (simp only at h4 ⊢; exact ⟨h4.1, h4.2.1, h4.2.2.trans hu⟩)

theorem dstOk_spec {ops : Array Oper} {n : Nat} (h : dstOk ops n = true) {i : Nat} {o : Oper} (ho : ops[i]? = some o) : ∀ d, o.dst = some d → d < n := by
  intro d hd
  have := List.all_eq_true.1 h o (by
    have := Array.mem_of_getElem? ho
    simpa using this)
  rw [hd] at this
  exact blt_lt this

theorem raise_run {fr : Frame} (hm : fr.mode = .run) (ch : List PanicEntry) : fr.raise ch = { fr with mode := .panicking ch } := by
  simp [Frame.raise, hm]

theorem rec_sound {E : Env} {ih : Job → S → Option Out} (hg : Good E.P ih) {ρ : Rho} {w : World} {s : S} (h : HR ρ s w) {f : FuncId} {args : List V} {ys : List Value} (hd : denL ρ args = some ys) {out : Out}
    (e : recOf ih f args none s = some out) : (∀ w, (callFunc f ys.toArray).run E.P w = .ok (.enter f ys.toArray) w) ∧ ∀ c cs, ∃ ρ' w' e, HR ρ' out.s w' ∧ FR ρ w ρ' w' ∧ EndR ρ' out.e e ∧
      Steps E.P (lone (Frame.enter E.P f ys.toArray .normal) (c :: cs) w) (lone (resume c e) cs w') := by
  have hs := hg (.call f args none) s out e
  obtain ⟨h1, h2⟩ := hs ρ w ys h hd
  refine ⟨h1, fun c cs => ?_⟩
  obtain ⟨ρ', w', k1, k2, fr', e', k3, k4, k5, k6⟩ := h2 (c :: cs) (fun u hu => by cases hu)
  refine ⟨ρ', w', e', k1, k2, k3, k4.trans (.one ?_)⟩
  cases e' with
  | returned v => exact step_leave_returned k6
  | panicked ch => exact step_leave_panicked k6
  | outgrown => cases hout : out.e <;> rw [hout] at k3 <;> exact k3.elim

end Go.AI
/- One operation in a frame; regions in the order of the text. -/
namespace Go.AI

section ap
variable {P : Program} {fr : Frame} {cs : List Frame} {w w' : World} {sem : Sem Next}

theorem ap_value {v : Value} (hst : stepG P true { frame := fr, callers := cs, status := .running, dying := none } w = stepG.apply P true fr cs none sem w) (hr : sem.run P w = .ok (.value v) w') :
    step P (lone fr cs w) = .next (lone (fr.finish v) cs w') := step_lone_go (by rw [hst]; simp [stepG.apply, hr])
theorem ap_skip (hst : stepG P true { frame := fr, callers := cs, status := .running, dying := none } w = stepG.apply P true fr cs none sem w) (hr : sem.run P w = .ok .skip w') :
    step P (lone fr cs w) = .next (lone (fr.finish undef) cs w') := step_lone_go (by rw [hst]; simp [stepG.apply, hr])
theorem ap_enter {ops : Array Oper} {l : List Nat} {k : List Item} {f : FuncId} {args : Array Value} (ht : fr.todo = .inRegion ops l :: k) (hst : stepG P true { frame := fr, callers := cs, status := .running, dying := none } w = stepG.apply P true fr cs none sem w) (hr : sem.run P w = .ok (.enter f args) w') :
    step P (lone fr cs w) = .next (lone (Frame.enter P f args .normal) (fr :: cs) w') := step_lone_go (by rw [hst]; simp [stepG.apply, hr, ht])
theorem ap_round {l : Nat} {f : FuncId} {tmps : Array Value} {a b : Code} (hst : stepG P true { frame := fr, callers := cs, status := .running, dying := none } w = stepG.apply P true fr cs none sem w) (hr : sem.run P w = .ok (.round l f tmps a b) w') :
    step P (lone fr cs w) = .next (lone (Frame.round l f tmps a b .normal) (fr :: cs) w') := step_lone_go (by rw [hst]; simp [stepG.apply, hr])
theorem ap_defer {d : Deferred} (hst : stepG P true { frame := fr, callers := cs, status := .running, dying := none } w = stepG.apply P true fr cs none sem w) (hr : sem.run P w = .ok (.defer d) w') :
    step P (lone fr cs w) = .next (lone ({ fr with defers := d :: fr.defers }.finish undef) cs w') := step_lone_go (by rw [hst]; simp [stepG.apply, hr])
theorem ap_panic {v : Value} (hst : stepG P true { frame := fr, callers := cs, status := .running, dying := none } w = stepG.apply P true fr cs none sem w) (hr : sem.run P w = .halt (.panic v) w') :
    step P (lone fr cs w) = .next (lone (fr.raise [{ v, recovered := false }]) cs w') := step_lone_go (by rw [hst]; simp [stepG.apply, hr])
theorem ap_recover_some {v : Value} {cs' : List Frame} (hro : fr.roundOf = none) (ht : tryRecover fr cs = some (v, cs')) (hst : stepG P true { frame := fr, callers := cs, status := .running, dying := none } w = stepG.apply P true fr cs none sem w) (hr : sem.run P w = .ok .recover w') :
    step P (lone fr cs w) = .next (lone (fr.finish v) cs' w') := step_lone_go (by rw [hst]; simp [stepG.apply, hr, hro, ht])
theorem ap_recover_none (hro : fr.roundOf = none) (ht : tryRecover fr cs = none) (hst : stepG P true { frame := fr, callers := cs, status := .running, dying := none } w = stepG.apply P true fr cs none sem w) (hr : sem.run P w = .ok .recover w') :
    step P (lone fr cs w) = .next (lone (fr.finish .nilIface) cs w') := step_lone_go (by rw [hst]; simp [stepG.apply, hr, hro, ht])
end ap

section
variable {E : Env} {ih : Job → S → Option Out} {f : FuncId} {fn : Func} {ops : Array Oper} {k : List Item} {rd : Option Nat}

/-- What is behind an operation. -/
def Next1 (P : Program) (f : FuncId) (fn : Func) (ops : Array Oper) (rest : List Nat) (k : List Item) (rd : Option Nat) (kk : RK) : Prop :=
  ∀ t ds up s r, kk t ds up s = some r → ∀ ρ w fr cs, HR ρ s w → FrR P ρ f fn t (.inRegion ops rest :: k) ds .run up rd fr cs → ROk P ρ w f fn k up rd cs (lone fr cs w) r

theorem deferless {o : Oper} {t : T V} {s : S} {nx : Nx} (h : doOp E t s o = some nx) (hn : ∀ d s', nx ≠ .defer d s') : ∀ c, o.op ≠ .defer c := by
  intro c hc
  unfold doOp at h
  rw [hc] at h
  simp only [opDo, deferTo] at h
  split at h
  · split at h
    · unfold deferV at h
      split at h
      · cases h; exact hn _ _ rfl
      · cases h
    · cases h
  · cases h

theorem opThen_sound (hE : EnvOk E) (hg : Good E.P ih) (hdst : dstOk ops fn.ntmps = true) {i : Nat} {rest : List Nat} {o : Oper} (ho : ops[i]? = some o) {kk : RK} (hk : Next1 E.P f fn ops rest k rd kk)
    {t : T V} {ds : List Dfr} {up : Option Md} {s : S} {r : ROut} (e : opThen E (recOf ih) (recROf ih) rd o t ds up s kk (wantedV ops t o) = some r)
    {ρ : Rho} {w : World} {fr : Frame} {cs : List Frame} (h : HR ρ s w) (hF : FrR E.P ρ f fn t (.inRegion ops (i :: rest) :: k) ds .run up rd fr cs) : ROk E.P ρ w f fn k up rd cs (lone fr cs w) r := by
  have hm := frun hF
  have ht := hF.todo rfl
  have hd := dstOk_spec hdst ho
  have hT := Tops.refl hF
  unfold opThen at e
  split at e
  · rename_i hw
    have hwant := wantedV_sound hF.tr hw
    cases hdo : doOp E t s o with
    | none => rw [hdo] at e; cases e
    | some nx =>
      rw [hdo] at e
      have hop := opDo_sound hE h hF.tr o hdo
      have hst : fr.roundOf = none ∨ (∀ c, o.op ≠ .defer c) → stepG E.P true { frame := fr, callers := cs, status := .running, dying := none } w = stepG.apply E.P true fr cs none (execOp (rv fr.tmps) o) w := fun q => stepG_oper hm ht ho hwant q
      cases nx with
      | val v s1 =>
        obtain ⟨ρ1, y, w1, h1, h2, h3, h4⟩ := hop
        have hst := hst (.inr (deferless hdo (fun d s' => by intro h; cases h)))
        simp only [nxThen, putT_D] at e
        exact (hk _ _ _ _ _ e ρ1 w1 (fr.finish y) cs h3 ((hF.mono h4.ext).finish ho hd h2)).of_steps (.one (ap_value hst h1)) h4 hT rfl
      | skip s1 =>
        obtain ⟨ρ1, w1, h1, h3, h4⟩ := hop
        have hst := hst (.inr (deferless hdo (fun d s' => by intro h; cases h)))
        simp only [nxThen, putT_D] at e
        exact (hk _ _ _ _ _ e ρ1 w1 (fr.finish undef) cs h3 ((hF.mono h4.ext).finish ho hd rfl)).of_steps (.one (ap_skip hst h1)) h4 hT rfl
      | enter g args s1 =>
        obtain ⟨ys, h1, h2, h3⟩ := hop
        have hst := hst (.inr (deferless hdo (fun d s' => by intro h; cases h)))
        simp only [nxThen] at e
        cases hr : recOf ih g args none s1 with
        | none => rw [hr] at e; cases e
        | some out =>
          rw [hr] at e
          obtain ⟨hcall, hfin⟩ := rec_sound hg h3 h1 hr
          rw [hcall] at h2
          obtain ⟨ρ1, w1, en, j1, j2, j3, j4⟩ := hfin fr cs
          have hsteps : Steps E.P (lone fr cs w) (lone (resume fr en) cs w1) := .head (ap_enter ht hst h2) j4
          obtain ⟨oe, oup, os⟩ := out
          cases oe with
          | returned v =>
            cases en with
            | returned y =>
              simp only [outThen, putT_D] at e
              exact (hk _ _ _ _ _ e ρ1 w1 (fr.finish y) cs j1 ((hF.mono j2.ext).finish ho hd j3)).of_steps hsteps j2 hT rfl
            | panicked _ => exact j3.elim
            | outgrown => exact j3.elim
          | panicked c =>
            cases en with
            | returned _ => exact j3.elim
            | outgrown => exact j3.elim
            | panicked ch =>
              simp only [outThen, Option.some.injEq] at e
              subst e
              have hF1 := hF.mono j2.ext
              exact ⟨ρ1, w1, _, cs, hsteps, j2, hT, j1, ⟨hF1.name.symm ▸ (by rw [resume, raise_run hm]), hF1.func, by rw [resume, raise_run hm]; exact hF1.tr, by rw [resume, raise_run hm]; exact hF1.size, (fun q => by cases q), by rw [resume, raise_run hm]; exact hF1.ds, by rw [resume, raise_run hm]; exact j3, by rw [resume, raise_run hm]; exact hF1.rd, by rw [resume, raise_run hm]; exact hF1.up⟩, rfl⟩
      | round l args s1 =>
        obtain ⟨lb, ys, h0, h1, h2, h3⟩ := hop
        have hst := hst (.inr (deferless hdo (fun d s' => by intro h; cases h)))
        simp only [nxThen] at e
        cases hr : recROf ih l args s1 with
        | none => rw [hr] at e; cases e
        | some out =>
          rw [hr] at e
          obtain ⟨f', tmps, a, b, hy, hfin⟩ := hg (.round l args) s1 out hr ρ w lb ys h3 h0 h1
          rw [hy] at h2
          obtain ⟨ρ1, w1, j1, j2, j5⟩ := hfin (fr :: cs)
          obtain ⟨en, j3, j4⟩ := j5 fr cs rfl
          have hsteps : Steps E.P (lone fr cs w) (lone (resume fr en) cs w1) := .head (ap_round hst h2) j4
          obtain ⟨oe, oup, os⟩ := out
          cases oe with
          | returned v =>
            cases en with
            | returned y =>
              simp only [outThen, putT_D] at e
              exact (hk _ _ _ _ _ e ρ1 w1 (fr.finish y) cs j1 ((hF.mono j2.ext).finish ho hd j3)).of_steps hsteps j2 hT rfl
            | panicked _ => exact j3.elim
            | outgrown => exact j3.elim
          | panicked c =>
            cases en with
            | returned _ => exact j3.elim
            | outgrown => exact j3.elim
            | panicked ch =>
              simp only [outThen, Option.some.injEq] at e
              subst e
              have hF1 := hF.mono j2.ext
              exact ⟨ρ1, w1, _, cs, hsteps, j2, hT, j1, ⟨hF1.name.symm ▸ (by rw [resume, raise_run hm]), hF1.func, by rw [resume, raise_run hm]; exact hF1.tr, by rw [resume, raise_run hm]; exact hF1.size, (fun q => by cases q), by rw [resume, raise_run hm]; exact hF1.ds, by rw [resume, raise_run hm]; exact j3, by rw [resume, raise_run hm]; exact hF1.rd, by rw [resume, raise_run hm]; exact hF1.up⟩, rfl⟩
      | defer df s1 =>
        obtain ⟨rdf, h1, h2, h3⟩ := hop
        simp only [nxThen] at e
        cases hrd : rd with
        | some l => rw [hrd] at e; cases e
        | none =>
          rw [hrd] at e
          simp only [Option.isSome_none, cond_false, putT_D] at e
          subst hrd
          have hro : fr.roundOf = none := hF.rd
          have hst := hst (.inl hro)
          have hF' : FrR E.P ρ f fn t (.inRegion ops (i :: rest) :: k) (df :: ds) .run up none { fr with defers := rdf :: fr.defers } cs :=
            ⟨hF.name, hF.func, hF.tr, hF.size, hF.todo, ⟨h1, hF.ds⟩, hF.md, hF.rd, hF.up⟩
          exact (hk _ _ _ _ _ e ρ w _ cs h3 (hF'.finish ho hd rfl)).of_steps (.one (ap_defer hst h2)) (FR.refl ρ w) hT rfl
      | recover s1 =>
        obtain ⟨h1, h2⟩ := hop
        have hst := hst (.inr (deferless hdo (fun d s' => by intro h; cases h)))
        simp only [nxThen] at e
        cases up with
        | none => cases e
        | some u =>
          have hro : fr.roundOf = none := by cases hF.lone_up rfl; exact hF.rd
          obtain ⟨hkd, c, tl, rfl, hmd⟩ := hF.up
          have hrec : ∀ m', u = m' → (∀ v older, m' ≠ .panicking (⟨v, false⟩ :: older)) → tryRecover fr (c :: tl) = none := by
            intro m' hu hne
            subst hu
            cases hcm : c.mode with
            | run => simp [tryRecover, hkd, hcm]
            | returning => simp [tryRecover, hkd, hcm]
            | panicking ch =>
              cases u with
              | run => rw [hcm] at hmd; exact hmd.elim
              | returning => rw [hcm] at hmd; exact hmd.elim
              | panicking pl =>
                rw [hcm] at hmd
                cases pl with
                | nil => cases ch with
                  | nil => simp [tryRecover, hkd, hcm]
                  | cons _ _ => exact hmd.elim
                | cons p ps => cases ch with
                  | nil => exact hmd.elim
                  | cons q qs =>
                    obtain ⟨⟨q1, q2, q3⟩, _⟩ := hmd
                    obtain ⟨pv, pr⟩ := p
                    cases pr with
                    | false => exact absurd rfl (hne pv ps)
                    | true =>
                      obtain ⟨qv, qr, qg⟩ := q
                      simp only at q2 q3
                      subst q2
                      simp [tryRecover, hkd, hcm]
          unfold recovered at e
          split at e
          · rename_i v older hu
            cases hu
            cases hcm : c.mode with
            | run => rw [hcm] at hmd; exact hmd.elim
            | returning => rw [hcm] at hmd; exact hmd.elim
            | panicking ch =>
              rw [hcm] at hmd
              cases ch with
              | nil => exact hmd.elim
              | cons q qs =>
                obtain ⟨⟨q1, q2, q3⟩, q4⟩ := hmd
                obtain ⟨qv, qr, qg⟩ := q
                simp only at q1 q2 q3
                subst q2; subst q3
                have htr : tryRecover fr (c :: tl) = some (qv, { c with mode := .panicking ({ v := qv, recovered := true } :: qs) } :: tl) := by
                  simp [tryRecover, hkd, hcm]
                rw [putT_D] at e
                have hF' := hF.finish ho hd q1
                have hF'' : FrR E.P ρ f fn (putD t o.dst v) (.inRegion ops rest :: k) ds .run (some (.panicking (⟨v, true⟩ :: older))) rd (fr.finish qv) ({ c with mode := .panicking ({ v := qv, recovered := true } :: qs) } :: tl) := by
                  refine ⟨hF'.name, hF'.func, hF'.tr, hF'.size, hF'.todo, hF'.ds, hF'.md, ?_, ?_⟩
                  · cases hF.lone_up rfl; exact hF'.rd
                  · exact ⟨hF'.up.1, _, _, rfl, ⟨⟨q1, rfl, rfl⟩, q4⟩⟩
                exact (hk _ _ _ _ _ e ρ w _ _ h2 hF'').of_steps (.one (ap_recover_some hro htr hst h1)) (FR.refl ρ w) ⟨c, tl, _, rfl, rfl⟩ rfl
          · rename_i hne hu
            cases hu
            rw [putT_D] at e
            have htr := hrec _ rfl (fun v older hq => hne v older hq)
            exact (hk _ _ _ _ _ e ρ w _ _ h2 (hF.finish ho hd rfl)).of_steps (.one (ap_recover_none hro htr hst h1)) (FR.refl ρ w) hT rfl
          · cases e
      | panic v s1 =>
        obtain ⟨y, h1, h2, h3⟩ := hop
        have hst := hst (.inr (deferless hdo (fun d s' => by intro h; cases h)))
        simp only [nxThen, Option.some.injEq] at e
        subst e
        refine ⟨ρ, w, _, cs, .one (ap_panic hst h2), FR.refl ρ w, hT, h3, ?_, rfl⟩
        rw [raise_run hm]
        exact ⟨hF.name, hF.func, hF.tr, hF.size, (fun q => by cases q), hF.ds, ⟨⟨h1, rfl, rfl⟩, trivial⟩, hF.rd, hF.up⟩
  · rename_i hw
    have hwant := wantedV_sound hF.tr hw
    rw [putT_D] at e
    exact (hk _ _ _ _ _ e ρ w _ _ h (hF.finish ho hd (y := undef) rfl)).of_steps (.one (st_unwanted hm ht (by simp [ho, hwant]))) (FR.refl ρ w) hT rfl
  · cases e

theorem runOps_sound (hE : EnvOk E) (hg : Good E.P ih) (hdst : dstOk ops fn.ntmps = true) : ∀ (l : List Oper) (idx : List Nat), idx.map (ops[·]?) = l.map some → Next1 E.P f fn ops idx k rd (runOps E ops (recOf ih) (recROf ih) rd l)
  | [], [], _ => fun t ds up s r e ρ w fr cs h hF => by
    simp only [runOps, Option.some.injEq] at e
    subst e
    exact ⟨ρ, w, _, cs, .one (st_regionEnd (frun hF) (hF.todo rfl)), FR.refl ρ w, Tops.refl hF, h, hF.to k, rfl⟩
  | o :: l, i :: idx, hl => fun t ds up s r e ρ w fr cs h hF => by
    simp only [List.map_cons, List.cons.injEq] at hl
    exact opThen_sound hE hg hdst hl.1 (runOps_sound hE hg hdst l idx hl.2) e h hF
  | [], _ :: _, hl => by cases hl
  | _ :: _, [], hl => by cases hl

theorem idx_all (ops : Array Oper) : (List.range ops.size).map (ops[·]?) = ops.toList.map some := by
  apply List.ext_getElem?
  intro j
  rw [List.getElem?_map, List.getElem?_map, Array.getElem?_toList]
  by_cases hj : j < ops.size
  · simp [hj]
  · simp [hj]

end
end Go.AI
