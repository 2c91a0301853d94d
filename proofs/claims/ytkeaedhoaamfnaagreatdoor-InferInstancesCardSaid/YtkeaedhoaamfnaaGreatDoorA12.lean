/- The evaluator by which runs of the program are reckoned, and that it is sound: part 12. No conditions beyond those of the row. -/
import Derived.Test.YtkeaedhoaamfnaaGreatDoorA10
set_option linter.unusedVariables false
set_option linter.unusedSimpArgs false
noncomputable section
namespace Go.AI
variable {E : cg} {f : FuncId} {fn : Func} {t : T V} {k : List Item} {ds : List dT} {up : Option Md} {rd : Option Nat} {s : S} {Q : cX → Prop}
def Un (E : cg) (f : FuncId) (fn : Func) (t : T V) (ds : List dT) (m : Md) (up : Option Md) (s : S) (Q : cX → Prop) : Prop := ∃ o, lim E (.frame f fn t [] ds m up none) s = some o ∧ Q o
theorem Ng (h : Un E f fn t ds .returning up s Q) : Wp E f fn t (.code .ret :: k) ds up none s Q := by
 obtain ⟨o, h1, h2⟩ := h
 exact ⟨o, gQ (by simp only [aU, aV, cQ, dD, cA, iU, fF]; exact h1), h2⟩
theorem GR {g : FuncId} {cap args : List V} {m u : Md} {v : V} {s' : S} (hc : lim E (.call g (args ++ cap) (some m)) s = some ⟨.returned v, some u, s'⟩) (hm : m ≠ .run) (hu : u ≠ .run)
 (h : Un E f fn t ds (kq u) up s' Q) : Un E f fn t (.call (.func g) cap args :: ds) m up s Q := by
 obtain ⟨o, h1, h2⟩ := h
 refine ⟨o, ?_, h2⟩
 rw [ey]
 cases m with
 | run => exact absurd rfl hm
 | returning =>
  simp only [aU, aV, cn, bq, hc, jX, fF]
  cases u with
  | run => exact absurd rfl hu
  | returning => exact h1
  | panicking c => exact h1
 | panicking c =>
  simp only [aU, aV, cn, bq, hc, jX, fF]
  cases u with
  | run => exact absurd rfl hu
  | returning => exact h1
  | panicking c => exact h1
theorem pT {d : Nat} {m : Md} (hm : m ≠ .run) (hg : s.get d = some .deferred) (h : Un E f fn t ds m up (s.put d .gone) Q) : Un E f fn t (.collected d :: ds) m up s Q := by
 obtain ⟨o, h1, h2⟩ := h
 refine ⟨o, ?_, h2⟩
 rw [ey]
 cases m with
 | run => exact absurd rfl hm
 | returning => simp only [aU, aV, cn, iO, hg, fF]; exact h1
 | panicking c => simp only [aU, aV, cn, iO, hg, fF]; exact h1
theorem zq {v : V} (hv : cJ E.P fn t s = some v) (h : Q ⟨.returned v, up, s⟩) : Un E f fn t [] .returning up s Q := by
 refine ⟨_, ?_, h⟩
 rw [ey]
 simp only [aU, aV, cn, jt, hv, Cm]
theorem JJ {g : Operand} {ps : Array Tmp} {a b : Code} {g' : FuncId} {first cap : List V} {Qr : V → S → Prop} {Qp : List tX → S → Prop} (hg : eval t g = some (.func (.func g') first cap))
 (hc : Co E g' (first ++ ([.func (.yield (s.alloc .deferred).next) [] []] ++ cap)) ((s.alloc .deferred).alloc (.loop .ready none f t ps a b s.next fn.ntmps)) (RP Qr Qp))
 (hr : ∀ v s', Qr v s' → s'.get (s.alloc .deferred).next = some (.loop .ready none f t ps a b s.next fn.ntmps) ∧ Wp E f fn t k (.collected s.next :: ds) up none (s'.put (s.alloc .deferred).next (.loop .exhausted none f t ps a b s.next fn.ntmps)) Q)
 (hp : ∀ c s', Qp c s' → Un E f fn t (.collected s.next :: ds) (.panicking c) up s' Q) :
 Wp E f fn t (.code (.rangeFunc g ps a b) :: k) ds up none s Q := by
 obtain ⟨o, h1, h2⟩ := hc
 rcases h2 with ⟨v, s', rfl, h2⟩ | ⟨c, s', rfl, h2⟩
 ·obtain ⟨h3, o, h4, h5⟩ := hr v s' h2
  refine ⟨o, gQ ?_, h5⟩
  simp only [aU, aV, cQ, dD, cA, hg, ik, bq]
  rw [h1]
  simp only [kv, h3, qq, Option.map, Option.toList, List.nil_append, fF]
  exact h4
 ·obtain ⟨o, h4, h5⟩ := hp c s' h2
  refine ⟨o, gQ ?_, h5⟩
  simp only [aU, aV, cQ, dD, cA, hg, ik, bq]
  rw [h1]
  simp only [kv, fF]
  have : lim E (.frame f fn t k (.collected s.next :: ds) (.panicking c) up none) s' = lim E (.frame f fn t [] (.collected s.next :: ds) (.panicking c) up none) s' := by
   rw [ey, ey]; simp only [aU, aV]
  rw [this]; exact h4
theorem KM {l : Nat} {args : List V} {st : LoopState} {pend : Option Code} {ps : Array Tmp} {a b : Code} {d nt : Nat} {t0 : T V} {o : cX} (hg : s.get l = some (.loop st pend f t0 ps a b d nt)) (hf : E.P.funcs[f]? = some fn)
 (hok : (Nat.ble fn.ntmps nt && Nat.beq ps.size args.length && ps.toList.all (fun p => Nat.blt p nt)) = true)
 (h : Fr E f fn (cK t0 ps.toList args id) [.code a, .beginRound, .code b] [] none (some l) s o) (hk : ∀ {β : Type} (k : T V → β), cK t0 ps.toList args k = k (cK t0 ps.toList args id)) : lim E (.round l args) s = some o := by
 rw [ey]
 simp only [aU, hg, uH, hf, hok, cond_true]
 rw [hk]
 exact h
theorem JM {l : Nat} {pend : Option Code} {ps : Array Tmp} {a b : Code} {d nt : Nat} {t0 : T V} {f0 : FuncId} (hg : s.get l = some (.loop .ready pend f0 t0 ps a b d nt))
 (h : Wp E f fn t k ds up (some l) (s.put l (.loop .busy pend f0 t0 ps a b d nt)) Q) : Wp E f fn t (.beginRound :: k) ds up (some l) s Q := by
 obtain ⟨o, h1, h2⟩ := h
 exact ⟨o, gQ (by simp only [aU, aV, cQ, dD, tV, hg, fF]; exact h1), h2⟩
theorem Bw {l : Nat} {st : LoopState} {pend : Option Code} {ps : Array Tmp} {a b : Code} {d nt : Nat} {t0 : T V} {f0 : FuncId} (hg : s.get l = some (.loop st pend f0 t0 ps a b d nt))
 (h : Q ⟨.returned (.bool true), up, s.put l (.loop .ready none f0 t0 ps a b d nt)⟩) : Wp E f fn t [] ds up (some l) s Q := by
 refine ⟨_, ?_, h⟩
 unfold Fr
 rw [ey]
 simp only [aU, aV, cQ, iU, hg]
 rfl
theorem BF {g : FuncId} {gn : Func} {args : List V} {c : Code} {m : Md} {o : cX} (hf : E.P.funcs[g]? = some gn) (hb : gn.body = some c) (hn : (gn.name == "runtime.NumGoroutine") = false)
 (h : Fr E g gn (bi args 0 .leaf id) [.code c] [] (some m) none s o) : lim E (.call g args (some m)) s = some o := by
 rw [ey]
 simp only [aU, mp, pB, hf, hb, hn, cond_false]
 rw [ln]
 exact h
end Go.AI
