/- The evaluator by which runs of the program are reckoned, and that it is sound: part 10. No conditions beyond those of the row. -/
import Derived.Test.YtkeaedhoaamfnaaGreatDoorA9
set_option linter.unusedVariables false
set_option linter.unusedSimpArgs false
noncomputable section
/- Walks that may end in a panic. -/
namespace Go.AI
variable {E : Env} {f : FuncId} {fn : Func} {t : T V} {k : List Item} {ds : List Dfr} {up : Option Md} {rd : Option Nat} {s : S} {Q : Out → Prop}
def Co (E : Env) (f : FuncId) (args : List V) (s : S) (Q : Out → Prop) : Prop := ∃ o, lim E (.call f args none) s = some o ∧ Q o
def RP (Qr : V → S → Prop) (Qp : List Pan → S → Prop) : Out → Prop := fun o => (∃ v s, o = ⟨.returned v, none, s⟩ ∧ Qr v s) ∨ (∃ c s, o = ⟨.panicked c, none, s⟩ ∧ Qp c s)
theorem co_enter {args : List V} {c : Code} (ho : E.orc f args s = none) (hf : E.P.funcs[f]? = some fn) (hb : fn.body = some c) (hn : (fn.name == "runtime.NumGoroutine") = false)
    (h : Wp E f fn (initT args 0 .leaf id) [.code c] [] none none s Q) : Co E f args s Q := by
  obtain ⟨o, h1, h2⟩ := h
  refine ⟨o, ?_, h2⟩
  rw [lim_eq]
  simp only [jobStep, ho, callOr, enterV, hf, hb, hn, cond_false]
  rw [initT_eq]
  exact h1
theorem Co.mono {args : List V} {Q Q' : Out → Prop} (h : Co E f args s Q) (m : ∀ o, Q o → Q' o) : Co E f args s Q' := by
  obtain ⟨o, h1, h2⟩ := h; exact ⟨o, h1, m o h2⟩
theorem wp_retP {Qr : V → S → Prop} {Qp : List Pan → S → Prop} (v : V) (hv : resultsV E.P fn t s = some v) (h : Qr v s) : Wp E f fn t (.code .ret :: k) [] none none s (RP Qr Qp) := ⟨_, fr_ret hv, .inl ⟨v, s, rfl, h⟩⟩
theorem fr_pan {id : Nat} {ops : Array Oper} {t' : T V} {c : List Pan} {s' : S} (hd : dstOk ops fn.ntmps = true) (hr : runOps E ops (recOf (lim E)) (recROf (lim E)) rd ops.toList t [] up s = some (.panicked c t' [] up s')) :
    Fr E f fn t (.code (.region id ops false) :: k) [] up rd s ⟨.panicked c, up, s'⟩ :=
  fr_of (by
    simp only [jobStep, frameStep, todoStep, itemStep, codeStep, hd, cond_true, hr, regionTo, goOf]
    rw [lim_eq]
    simp only [jobStep, frameStep, unwindStep, leaveStep])
theorem wp_pan {id : Nat} {ops : Array Oper} {t' : T V} {c : List Pan} {s' : S} {Qr : V → S → Prop} {Qp : List Pan → S → Prop} (hd : dstOk ops fn.ntmps = true)
    (hr : runOps E ops (recOf (lim E)) (recROf (lim E)) none ops.toList t [] none s = some (.panicked c t' [] none s')) (h : Qp c s') : Wp E f fn t (.code (.region id ops false) :: k) [] none none s (RP Qr Qp) :=
  ⟨_, fr_pan hd hr, .inr ⟨c, s', rfl, h⟩⟩
theorem outThen_pan {d : Option Tmp} {kk : RK} {c : List Pan} {u : Option Md} : outThen d t ds up kk (some ⟨.panicked c, u, s⟩) = some (.panicked c t ds up s) := rfl
theorem nxThen_panic {rec : RecF} {recR : RecR} {d : Option Tmp} {kk : RK} {v : V} : nxThen rec recR rd d t ds up kk (some (.panic v s)) = some (.panicked [⟨v, false⟩] t ds up s) := rfl
theorem doPanic_some {ty : TypeId} {v : V} : doPanic s (some (.iface ty v)) = some (.panic (.iface ty v) s) := rfl
end Go.AI
namespace Go.AI
theorem one_str (l : List Nat) : (V.str l).one = true := rfl
theorem one_int (k : IntKind) (n : Int) : (V.int k n).one = true := rfl
theorem floatDo1_1c {E : Env} {t : T V} {s x : S} {r : List S} {o : Oper} : floatDo1 E (x :: r) t s o 1 = readBoth s (readAll E t o (x :: r)) := rfl
theorem nxPair_some (v : V) (s : S) : nxPair (some (v, s)) = some (.val v s) := rfl
theorem wp_retc1 {E : Env} {f : FuncId} {fn : Func} {t : T V} {k : List Item} {s : S} {Q : V → S → Prop} (v : V) (a : Tmp) (p : Ad) (ty : TypeId) (hr : fn.results = #[.cell a ty]) (ha : t.get (pth a) = some (.ptr p)) (hv : loadVar E.P s ty p = some v) (h : Q v s) : Wp E f fn t (.code .ret :: k) [] none none s (Ret Q) :=
  wp_ret v (by simp only [resultsV, hr, resultL, resultV, ha, hv, oneOr]) h
end Go.AI
