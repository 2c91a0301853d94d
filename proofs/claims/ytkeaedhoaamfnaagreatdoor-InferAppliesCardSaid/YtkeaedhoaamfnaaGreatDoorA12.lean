/- The evaluator by which runs of the program are reckoned, and that it is sound: part 12. No conditions beyond those of the row. -/
import Derived.Test.YtkeaedhoaamfnaaGreatDoorA10
set_option linter.unusedVariables false
set_option linter.unusedSimpArgs false
noncomputable section
/- Walks through range-over-func loops and deferred calls. -/
namespace Go.AI
variable {E : Env} {f : FuncId} {fn : Func} {t : T V} {k : List Item} {ds : List Dfr} {up : Option Md} {rd : Option Nat} {s : S} {Q : Out → Prop}
def Un (E : Env) (f : FuncId) (fn : Func) (t : T V) (ds : List Dfr) (m : Md) (up : Option Md) (s : S) (Q : Out → Prop) : Prop := ∃ o, lim E (.frame f fn t [] ds m up none) s = some o ∧ Q o
theorem wp_retU (h : Un E f fn t ds .returning up s Q) : Wp E f fn t (.code .ret :: k) ds up none s Q := by
  obtain ⟨o, h1, h2⟩ := h
  exact ⟨o, fr_of (by simp only [jobStep, frameStep, todoStep, itemStep, codeStep, leaveV, goOf]; exact h1), h2⟩
theorem un_call {g : FuncId} {cap args : List V} {m u : Md} {v : V} {s' : S} (hc : lim E (.call g (args ++ cap) (some m)) s = some ⟨.returned v, some u, s'⟩) (hm : m ≠ .run) (hu : u ≠ .run)
    (h : Un E f fn t ds (settleV u) up s' Q) : Un E f fn t (.call (.func g) cap args :: ds) m up s Q := by
  obtain ⟨o, h1, h2⟩ := h
  refine ⟨o, ?_, h2⟩
  rw [lim_eq]
  cases m with
  | run => exact absurd rfl hm
  | returning =>
    simp only [jobStep, frameStep, unwindStep, recOf, hc, deferTo2, goOf]
    cases u with
    | run => exact absurd rfl hu
    | returning => exact h1
    | panicking c => exact h1
  | panicking c =>
    simp only [jobStep, frameStep, unwindStep, recOf, hc, deferTo2, goOf]
    cases u with
    | run => exact absurd rfl hu
    | returning => exact h1
    | panicking c => exact h1
theorem un_collected {d : Nat} {m : Md} (hm : m ≠ .run) (hg : s.get d = some .deferred) (h : Un E f fn t ds m up (s.put d .gone) Q) : Un E f fn t (.collected d :: ds) m up s Q := by
  obtain ⟨o, h1, h2⟩ := h
  refine ⟨o, ?_, h2⟩
  rw [lim_eq]
  cases m with
  | run => exact absurd rfl hm
  | returning => simp only [jobStep, frameStep, unwindStep, collectedTo, hg, goOf]; exact h1
  | panicking c => simp only [jobStep, frameStep, unwindStep, collectedTo, hg, goOf]; exact h1
theorem un_ret {v : V} (hv : resultsV E.P fn t s = some v) (h : Q ⟨.returned v, up, s⟩) : Un E f fn t [] .returning up s Q := by
  refine ⟨_, ?_, h⟩
  rw [lim_eq]
  simp only [jobStep, frameStep, unwindStep, leaveStep, hv, retOf]
theorem wp_range {g : Operand} {ps : Array Tmp} {a b : Code} {g' : FuncId} {first cap : List V} {Qr : V → S → Prop} {Qp : List Pan → S → Prop} (hg : eval t g = some (.func (.func g') first cap))
    (hc : Co E g' (first ++ ([.func (.yield (s.alloc .deferred).next) [] []] ++ cap)) ((s.alloc .deferred).alloc (.loop .ready none f t ps a b s.next fn.ntmps)) (RP Qr Qp))
    (hr : ∀ v s', Qr v s' → s'.get (s.alloc .deferred).next = some (.loop .ready none f t ps a b s.next fn.ntmps) ∧ Wp E f fn t k (.collected s.next :: ds) up none (s'.put (s.alloc .deferred).next (.loop .exhausted none f t ps a b s.next fn.ntmps)) Q)
    (hp : ∀ c s', Qp c s' → Un E f fn t (.collected s.next :: ds) (.panicking c) up s' Q) :
    Wp E f fn t (.code (.rangeFunc g ps a b) :: k) ds up none s Q := by
  obtain ⟨o, h1, h2⟩ := hc
  rcases h2 with ⟨v, s', rfl, h2⟩ | ⟨c, s', rfl, h2⟩
  · obtain ⟨h3, o, h4, h5⟩ := hr v s' h2
    refine ⟨o, fr_of ?_, h5⟩
    simp only [jobStep, frameStep, todoStep, itemStep, codeStep, hg, rangeFrom, recOf]
    rw [h1]
    simp only [rangeTo, h3, loopOver, Option.map, Option.toList, List.nil_append, goOf]
    exact h4
  · obtain ⟨o, h4, h5⟩ := hp c s' h2
    refine ⟨o, fr_of ?_, h5⟩
    simp only [jobStep, frameStep, todoStep, itemStep, codeStep, hg, rangeFrom, recOf]
    rw [h1]
    simp only [rangeTo, goOf]
    have : lim E (.frame f fn t k (.collected s.next :: ds) (.panicking c) up none) s' = lim E (.frame f fn t [] (.collected s.next :: ds) (.panicking c) up none) s' := by
      rw [lim_eq, lim_eq]; simp only [jobStep, frameStep]
    rw [this]; exact h4
theorem round_of {l : Nat} {args : List V} {st : LoopState} {pend : Option Code} {ps : Array Tmp} {a b : Code} {d nt : Nat} {t0 : T V} {o : Out} (hg : s.get l = some (.loop st pend f t0 ps a b d nt)) (hf : E.P.funcs[f]? = some fn)
    (hok : (Nat.ble fn.ntmps nt && Nat.beq ps.size args.length && ps.toList.all (fun p => Nat.blt p nt)) = true)
    (h : Fr E f fn (putParams t0 ps.toList args id) [.code a, .beginRound, .code b] [] none (some l) s o) (hk : ∀ {β : Type} (k : T V → β), putParams t0 ps.toList args k = k (putParams t0 ps.toList args id)) : lim E (.round l args) s = some o := by
  rw [lim_eq]
  simp only [jobStep, hg, roundV, hf, hok, cond_true]
  rw [hk]
  exact h
theorem wp_begin {l : Nat} {pend : Option Code} {ps : Array Tmp} {a b : Code} {d nt : Nat} {t0 : T V} {f0 : FuncId} (hg : s.get l = some (.loop .ready pend f0 t0 ps a b d nt))
    (h : Wp E f fn t k ds up (some l) (s.put l (.loop .busy pend f0 t0 ps a b d nt)) Q) : Wp E f fn t (.beginRound :: k) ds up (some l) s Q := by
  obtain ⟨o, h1, h2⟩ := h
  exact ⟨o, fr_of (by simp only [jobStep, frameStep, todoStep, itemStep, beginTo, hg, goOf]; exact h1), h2⟩
theorem wp_roundEnd {l : Nat} {st : LoopState} {pend : Option Code} {ps : Array Tmp} {a b : Code} {d nt : Nat} {t0 : T V} {f0 : FuncId} (hg : s.get l = some (.loop st pend f0 t0 ps a b d nt))
    (h : Q ⟨.returned (.bool true), up, s.put l (.loop .ready none f0 t0 ps a b d nt)⟩) : Wp E f fn t [] ds up (some l) s Q := by
  refine ⟨_, ?_, h⟩
  unfold Fr
  rw [lim_eq]
  simp only [jobStep, frameStep, todoStep, leaveV, hg]
  rfl
theorem un_enter {g : FuncId} {gn : Func} {args : List V} {c : Code} {m : Md} {o : Out} (hf : E.P.funcs[g]? = some gn) (hb : gn.body = some c) (hn : (gn.name == "runtime.NumGoroutine") = false)
    (h : Fr E g gn (initT args 0 .leaf id) [.code c] [] (some m) none s o) : lim E (.call g args (some m)) s = some o := by
  rw [lim_eq]
  simp only [jobStep, callOr, enterV, hf, hb, hn, cond_false]
  rw [initT_eq]
  exact h
end Go.AI
