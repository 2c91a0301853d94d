/- The evaluator by which runs of the program are reckoned, and that it is sound: part 10. No conditions beyond those of the row. -/
import Derived.Test.YtkeaedhoaamfnaaGreatDoorA9
set_option linter.unusedVariables false
set_option linter.unusedSimpArgs false
noncomputable section
namespace Go.AI
variable {E : cx} {f : FuncId} {fn : Func} {t : T V} {k : List Item} {ds : List ei} {up : Option Md} {rd : Option Nat} {s : S} {Q : dz → Prop}
def Co (E : cx) (f : FuncId) (args : List V) (s : S) (Q : dz → Prop) : Prop := ∃ o, lim E (.call f args none) s = some o ∧ Q o
def RP (Qr : V → S → Prop) (Qp : List vJ → S → Prop) : dz → Prop := fun o => (∃ v s, o = ⟨.returned v, none, s⟩ ∧ Qr v s) ∨ (∃ c s, o = ⟨.panicked c, none, s⟩ ∧ Qp c s)
theorem rX {args : List V} {c : Code} (ho : E.orc f args s = none) (hf : E.P.funcs[f]? = some fn) (hb : fn.body = some c) (hn : (fn.name == "runtime.NumGoroutine") = false)
 (h : Wp E f fn (aO args 0 .leaf id) [.code c] [] none none s Q) : Co E f args s Q := by
 obtain ⟨o, h1, h2⟩ := h
 refine ⟨o, ?_, h2⟩
 rw [eN]
 simp only [bg, ho, nc, qB, hf, hb, hn, cond_false]
 rw [lO]
 exact h1
theorem Co.mono {args : List V} {Q Q' : dz → Prop} (h : Co E f args s Q) (m : ∀ o, Q o → Q' o) : Co E f args s Q' := by
 obtain ⟨o, h1, h2⟩ := h; exact ⟨o, h1, m o h2⟩
theorem Kt {Qr : V → S → Prop} {Qp : List vJ → S → Prop} (v : V) (hv : de E.P fn t s = some v) (h : Qr v s) : Wp E f fn t (.code .ret :: k) [] none none s (RP Qr Qp) := ⟨_, CQ hv, .inl ⟨v, s, rfl, h⟩⟩
theorem PK {id : Nat} {ops : Array Oper} {t' : T V} {c : List vJ} {s' : S} (hd : gY ops fn.ntmps = true) (hr : ij E ops (bI (lim E)) (er (lim E)) rd ops.toList t [] up s = some (.panicked c t' [] up s')) :
 Fr E f fn t (.code (.region id ops false) :: k) [] up rd s ⟨.panicked c, up, s'⟩ :=
 ix (by
  simp only [bg, bh, dy, dQ, cR, hd, cond_true, hr, jd, fY]
  rw [eN]
  simp only [bg, bh, cF, jR])
theorem NU {id : Nat} {ops : Array Oper} {t' : T V} {c : List vJ} {s' : S} {Qr : V → S → Prop} {Qp : List vJ → S → Prop} (hd : gY ops fn.ntmps = true)
 (hr : ij E ops (bI (lim E)) (er (lim E)) none ops.toList t [] none s = some (.panicked c t' [] none s')) (h : Qp c s') : Wp E f fn t (.code (.region id ops false) :: k) [] none none s (RP Qr Qp) :=
 ⟨_, PK hd hr, .inr ⟨c, s', rfl, h⟩⟩
theorem tR {d : Option Tmp} {kk : RK} {c : List vJ} {u : Option Md} : eZ d t ds up kk (some ⟨.panicked c, u, s⟩) = some (.panicked c t ds up s) := rfl
theorem rk {rec : fO} {recR : qK} {d : Option Tmp} {kk : RK} {v : V} : et rec recR rd d t ds up kk (some (.panic v s)) = some (.panicked [⟨v, false⟩] t ds up s) := rfl
theorem De {ty : TypeId} {v : V} : rM s (some (.iface ty v)) = some (.panic (.iface ty v) s) := rfl
theorem iW (l : List Nat) : (V.str l).one = true := rfl
theorem eA (k : IntKind) (n : Int) : (V.int k n).one = true := rfl
theorem jf {E : cx} {t : T V} {s x : S} {r : List S} {o : Oper} : jg E (x :: r) t s o 1 = kf s (dK E t o (x :: r)) := rfl
theorem tX (v : V) (s : S) : fF (some (v, s)) = some (.val v s) := rfl
theorem NS {E : cx} {f : FuncId} {fn : Func} {t : T V} {k : List Item} {s : S} {Q : V → S → Prop} (v : V) (a : Tmp) (p : Ad) (ty : TypeId) (hr : fn.results = #[.cell a ty]) (ha : t.get (eV a) = some (.ptr p)) (hv : loadVar E.P s ty p = some v) (h : Q v s) : Wp E f fn t (.code .ret :: k) [] none none s (sq Q) :=
 Ts v (by simp only [de, hr, fW, gD, ha, hv, rj]) h
end Go.AI
