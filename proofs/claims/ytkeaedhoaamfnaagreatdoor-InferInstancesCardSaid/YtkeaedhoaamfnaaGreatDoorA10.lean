/- The evaluator by which runs of the program are reckoned, and that it is sound: part 10. No conditions beyond those of the row. -/
import Derived.Test.YtkeaedhoaamfnaaGreatDoorA9
set_option linter.unusedVariables false
set_option linter.unusedSimpArgs false
noncomputable section
namespace Go.AI
variable {E : cg} {f : FuncId} {fn : Func} {t : T V} {k : List Item} {ds : List dT} {up : Option Md} {rd : Option Nat} {s : S} {Q : cX → Prop}
def Co (E : cg) (f : FuncId) (args : List V) (s : S) (Q : cX → Prop) : Prop := ∃ o, lim E (.call f args none) s = some o ∧ Q o
def RP (Qr : V → S → Prop) (Qp : List tX → S → Prop) : cX → Prop := fun o => (∃ v s, o = ⟨.returned v, none, s⟩ ∧ Qr v s) ∨ (∃ c s, o = ⟨.panicked c, none, s⟩ ∧ Qp c s)
theorem qN {args : List V} {c : Code} (ho : E.orc f args s = none) (hf : E.P.funcs[f]? = some fn) (hb : fn.body = some c) (hn : (fn.name == "runtime.NumGoroutine") = false)
 (h : Wp E f fn (bi args 0 .leaf id) [.code c] [] none none s Q) : Co E f args s Q := by
 obtain ⟨o, h1, h2⟩ := h
 refine ⟨o, ?_, h2⟩
 rw [ey]
 simp only [aU, ho, mp, pB, hf, hb, hn, cond_false]
 rw [ln]
 exact h1
theorem Co.mono {args : List V} {Q Q' : cX → Prop} (h : Co E f args s Q) (m : ∀ o, Q o → Q' o) : Co E f args s Q' := by
 obtain ⟨o, h1, h2⟩ := h; exact ⟨o, h1, m o h2⟩
theorem GJ {Qr : V → S → Prop} {Qp : List tX → S → Prop} (v : V) (hv : cJ E.P fn t s = some v) (h : Qr v s) : Wp E f fn t (.code .ret :: k) [] none none s (RP Qr Qp) := ⟨_, Ax hv, .inl ⟨v, s, rfl, h⟩⟩
theorem LS {id : Nat} {ops : Array Oper} {t' : T V} {c : List tX} {s' : S} (hd : gp ops fn.ntmps = true) (hr : gG E ops (bq (lim E)) (dW (lim E)) rd ops.toList t [] up s = some (.panicked c t' [] up s')) :
 Fr E f fn t (.code (.region id ops false) :: k) [] up rd s ⟨.panicked c, up, s'⟩ :=
 gQ (by
  simp only [aU, aV, cQ, dD, cA, hd, cond_true, hr, iE, fF]
  rw [ey]
  simp only [aU, aV, cn, jt])
theorem JK {id : Nat} {ops : Array Oper} {t' : T V} {c : List tX} {s' : S} {Qr : V → S → Prop} {Qp : List tX → S → Prop} (hd : gp ops fn.ntmps = true)
 (hr : gG E ops (bq (lim E)) (dW (lim E)) none ops.toList t [] none s = some (.panicked c t' [] none s')) (h : Qp c s') : Wp E f fn t (.code (.region id ops false) :: k) [] none none s (RP Qr Qp) :=
 ⟨_, LS hd hr, .inr ⟨c, s', rfl, h⟩⟩
theorem ss {d : Option Tmp} {kk : RK} {c : List tX} {u : Option Md} : eH d t ds up kk (some ⟨.panicked c, u, s⟩) = some (.panicked c t ds up s) := rfl
theorem qj {rec : fu} {recR : pK} {d : Option Tmp} {kk : RK} {v : V} : dX rec recR rd d t ds up kk (some (.panic v s)) = some (.panicked [⟨v, false⟩] t ds up s) := rfl
theorem AK {ty : TypeId} {v : V} : qH s (some (.iface ty v)) = some (.panic (.iface ty v) s) := rfl
theorem nZ (l : List Nat) : (V.str l).one = true := rfl
theorem fD (k : IntKind) (n : Int) : (V.int k n).one = true := rfl
theorem iH {E : cg} {t : T V} {s x : S} {r : List S} {o : Oper} : iI E (x :: r) t s o 1 = jI s (du E t o (x :: r)) := rfl
theorem sB (v : V) (s : S) : ff (some (v, s)) = some (.val v s) := rfl
theorem JI {E : cg} {f : FuncId} {fn : Func} {t : T V} {k : List Item} {s : S} {Q : V → S → Prop} (v : V) (a : Tmp) (p : Ad) (ty : TypeId) (hr : fn.results = #[.cell a ty]) (ha : t.get (eT a) = some (.ptr p)) (hv : loadVar E.P s ty p = some v) (h : Q v s) : Wp E f fn t (.code .ret :: k) [] none none s (tW Q) :=
 PE v (by simp only [cJ, hr, fC, fX, ha, hv, qi]) h
end Go.AI
