/- Regions that draw their order are sound. No conditions. -/
import Derived.Test.YthedakdjiljmhaaGreatDoorA10
import Derived.Orders
set_option linter.unusedVariables false
set_option linter.unusedSimpArgs false
noncomputable section
/- Regions that draw their order, second part: one operation. -/
namespace Go.AI
section
variable {E : Env} {rec : RecF} {ops : Array Oper} {t0 : T V} {s0 : S} {ρ0 : Rho} {w0 : World}

theorem putM_same {tm : Array Value} {o : Option Tmp} {y : Value} {d : Tmp} (h : o = some d) (hd : d < tm.size) : (putM tm o y)[d]? = some y := by
  subst h; simp [putM, hd]
theorem putM_other {tm : Array Value} {o : Option Tmp} {y : Value} {d : Tmp} (h : o ≠ some d) : (putM tm o y)[d]? = tm[d]? := by
  cases o with
  | none => rfl
  | some i =>
    unfold putM
    exact Array.getElem?_setIfInBounds_ne (fun e => h (by rw [e]))

section
variable {X1 X2 F : List Ev} {e : Ev} {R : Nat → Prop} {ρ : Rho} {w : World} {tm : Array Value}

theorem mem_mid {q : Ev} : q ∈ X1 ++ e :: X2 ++ F ↔ q ∈ X1 ++ e :: (X2 ++ F) := by simp

theorem dst_other (hD : DataOk ops) (hR : Run E rec ops t0 s0 (X1 ++ e :: (X2 ++ F))) {q : Ev} (hq : q ∈ X1 ++ e :: (X2 ++ F)) (hi : q.i ≠ e.i) {d : Tmp} (hd : q.o.dst = some d) : e.o.dst ≠ some d := by
  obtain ⟨_, _, _, k1, _⟩ := Run.ok hR hq
  have k2 := (Run.at hR).1
  exact hD.dst e.i q.i e.o q.o d k2.op k1.op (fun h => hi h.symm) hd

theorem after (hR : Run E rec ops t0 s0 (X1 ++ e :: (X2 ++ F))) {q : Ev} (hq : q ∈ X1) : e.b.next ≤ q.a.next := by
  obtain ⟨Xa, Xb, rfl⟩ := List.append_of_mem hq
  have h2 : Run E rec ops t0 s0 (Xa ++ q :: (Xb ++ e :: (X2 ++ F))) := by simpa using hR
  obtain ⟨k1, k2⟩ := Run.at h2
  exact Run.before k1 k2 (by simp)

/-- A float has run. -/
theorem Inv.step (hD : DataOk ops) (h : Inv E t0 s0 ρ0 w0 (X1 ++ e :: X2) F R ρ w tm) (hR : Run E rec ops t0 s0 (X1 ++ e :: (X2 ++ F))) (hk : ¬ Act3 E e.o) (hn : ¬ R e.i) {ρ' : Rho} {w' : World} {y : Value}
    (hle : ρ.le ρ') (hkeep : ∀ f v, ρ' f v ≠ none → ρ f v ≠ none ∨ (f = e.a.next ∧ f < e.b.next)) (hsame : ∀ f v, f ≠ e.a.next → ρ' f v = ρ f v)
    (hwh : ∀ b, b < w.heap.size → w'.heap[b]? = w.heap[b]?) (hinj : Inj ρ') (hlow : Low ρ' w') (hfr : FR ρ w ρ' w')
    (hv : den (ρ'.to e.b.next) e.v = some y) (hb : e.b = e.a ∨ ∃ B, e.b = e.a.alloc B ∧ BlkR (ρ'.to e.b.next) w' e.a.next B ∧ ∀ v l, ρ' e.a.next v = some l → ¬ l.ro) (hdst : ∀ d, e.o.dst = some d → d < tm.size) :
    Inv E t0 s0 ρ0 w0 (X1 ++ e :: X2) F (with1 R e.i) ρ' w' (putM tm e.o.dst y) := by
  obtain ⟨hev, hRY⟩ := Run.at hR
  have hNF : (stOf s0 F).next ≤ e.a.next := by rw [hev.st]; exact Run.next_le hRY
  have uniq : ∀ q, q ∈ X1 ++ e :: (X2 ++ F) → q.i = e.i → q = e := fun q hq hi => Run.uniq hR hq (by simp) hi
  refine ⟨h.front, fun q hq => .inl (h.inF q hq), fun q hq hr => ?_, fun q hq hr => ?_, fun d x hx hno => ?_, fun q hq hr => ?_, ?_, hinj, hlow, fun f v hf => ?_, h.fr.trans hfr⟩
  · rcases hr with hr | hr
    · exact h.noE q hq hr
    · have := uniq q (by rw [← mem_mid]; exact List.mem_append_left _ hq) hr
      subst this; exact hk
  · by_cases hi : q.i = e.i
    · have := uniq q (mem_mid.1 hq) hi
      subst this
      exact ⟨y, hv, fun d hd => putM_same hd (hdst d hd)⟩
    · have hr : R q.i := hr.resolve_right hi
      obtain ⟨z, z1, z2⟩ := h.vals q hq hr
      exact ⟨z, den_mono (Rho.to_mono hle _) _ _ z1, fun d hd => by rw [putM_other (dst_other hD hR (mem_mid.1 hq) hi hd)]; exact z2 d hd⟩
  · obtain ⟨z, z1, z2⟩ := h.olds d x hx fun q hq hr => hno q hq (.inl hr)
    refine ⟨z, den_mono (Rho.to_mono hle _) _ _ z1, ?_⟩
    rw [putM_other (hno e (by simp) (.inr rfl))]; exact z2
  · by_cases hi : q.i = e.i
    · have := uniq q (mem_mid.1 (List.mem_append_left _ hq)) hi
      subst this; exact hb
    · have hr : R q.i := hr.resolve_right hi
      rcases h.blks q hq hr with hqb | ⟨B, hqb, hB, hro⟩
      · exact .inl hqb
      · have hne0 : q.a.next = e.a.next → ∀ v l, ρ' q.a.next v = some l → ρ q.a.next v ≠ none := by
          intro hne v l hl hv
          have hqn : q.b.next = q.a.next + 1 := by rw [hqb, S.next_alloc]
          rcases hkeep q.a.next v (by rw [hl]; exact fun h => by cases h) with hc | ⟨_, hc⟩
          · exact hc hv
          · rcases List.mem_append.1 hq with hq1 | hq1
            · have := after hR hq1; omega
            · rcases List.mem_cons.1 hq1 with rfl | hq1
              · exact hi rfl
              · have := Run.before hev hRY (List.mem_append_left F hq1); omega
        refine .inr ⟨B, hqb, hB.keep (Rho.to_mono hle _) (fun v hv => ?_) (fun v l hl => hwh _ (h.low _ _ _ (Rho.to_lt hl).2)), fun v l hl => ?_⟩
        rotate_left
        · cases hq0 : ρ q.a.next v with
          | none =>
            exfalso
            by_cases hne : q.a.next = e.a.next
            · exact hne0 hne v l hl hq0
            · rw [hsame _ _ hne, hq0] at hl; cases hl
          | some l0 =>
            have := hle _ _ _ hq0
            rw [hl] at this; cases this
            exact hro v l hq0
        have hqn : q.b.next = q.a.next + 1 := by rw [hqb, S.next_alloc]
        rw [Rho.to_of (by omega)] at hv ⊢
        by_cases hne : q.a.next = e.a.next
        · cases hq' : ρ' q.a.next v with
          | none => rfl
          | some l =>
            exfalso
            rcases hkeep q.a.next v (by rw [hq']; exact fun h => by cases h) with hc | ⟨_, hc⟩
            · exact hc hv
            · rcases List.mem_append.1 hq with hq1 | hq1
              · have := after hR hq1; omega
              · rcases List.mem_cons.1 hq1 with rfl | hq1
                · exact hi rfl
                · have := Run.before hev hRY (List.mem_append_left F hq1); omega
        · rw [hsame _ _ hne]; exact hv
  · have : ρ'.to (stOf s0 F).next = ρ.to (stOf s0 F).next := by
      funext f v
      by_cases hf : f < (stOf s0 F).next
      · rw [Rho.to_of hf, Rho.to_of hf, hsame f v (by omega)]
      · rw [Rho.to_ge (by omega), Rho.to_ge (by omega)]
    rw [this]
    exact h.hr.frame hfr.size hwh
  · rcases hkeep f v hf with hf | ⟨h1, h2⟩
    · rcases h.fresh f v hf with hf | ⟨q, q1, q2, q3⟩
      · exact .inl hf
      · exact .inr ⟨q, q1, .inl q2, q3⟩
    · exact .inr ⟨e, by simp, .inr rfl, h1, h2⟩

/-- A float, by the machine. -/
theorem Inv.float (hD : DataOk ops) (h : Inv E t0 s0 ρ0 w0 (X1 ++ e :: X2) F R ρ w tm) (hR : Run E rec ops t0 s0 (X1 ++ e :: (X2 ++ F))) (hk : ¬ Act3 E e.o) (hn : ¬ R e.i) (hcl : Closed ops R) (hpre : ∀ k, Pre ops e.i k → R k)
    (hdst : ∀ d, e.o.dst = some d → d < tm.size) :
    (Region.wanted e.o (yielded ops tm) = false ∧ Inv E t0 s0 ρ0 w0 (X1 ++ e :: X2) F (with1 R e.i) ρ w (putM tm e.o.dst undef)) ∨
    (Region.wanted e.o (yielded ops tm) = true ∧ ∃ y w' ρ', (execOp (rv tm) e.o).run E.P w = .ok (.value y) w' ∧ Inv E t0 s0 ρ0 w0 (X1 ++ e :: X2) F (with1 R e.i) ρ' w' (putM tm e.o.dst y)) := by
  obtain ⟨hev, hRY⟩ := Run.at hR
  have hT := h.env hD hR hn hcl hpre
  have hNF : (stOf s0 F).next ≤ e.a.next := by rw [hev.st]; exact Run.next_le hRY
  have wsp : ∀ b, wantedV ops e.t e.o = some b → Region.wanted e.o (yielded ops tm) = b := fun b hb => by
    rw [← only_wanted] at hb
    exact wantedV_sound (fr := { (default : Frame) with tmps := tm }) hT hb
  have plain : ∀ y, den (ρ.to e.b.next) e.v = some y → e.b = e.a → Inv E t0 s0 ρ0 w0 (X1 ++ e :: X2) F (with1 R e.i) ρ w (putM tm e.o.dst y) := fun y hv hb =>
    Inv.step hD h hR hk hn ρ.le_refl (fun f v hf => .inl hf) (fun _ _ _ => rfl) (fun _ _ => rfl) h.inj h.low (FR.refl ρ w) hv (.inl hb) hdst
  rcases hev.step with ⟨_, ⟨hw, hv, hb⟩ | ⟨hw, hf⟩⟩ | ⟨hk', _⟩
  · left
    refine ⟨wsp _ hw, plain undef ?_ hb⟩
    rw [hv]; rfl
  · right
    refine ⟨wsp _ hw, ?_⟩
    rcases hf with ⟨hk0, hb, s1, hd⟩ | ⟨hk1, hb, hd⟩ | ⟨hk2, hd⟩
    · rw [← only_doOp (ops := ops)] at hd
      have hd' := doOp_bare ⟨.leaf, e.a.next⟩ e.o hk0 hd
      obtain ⟨v, y, h1, h2, h3⟩ := opDo_pure (HR.bare h.inj h.low) hT e.o (by omega) hd'
      cases h1
      exact ⟨y, w, ρ, h2, plain y (by rw [hb]; exact h3) hb⟩
    · obtain ⟨s1, hd⟩ := hd X2 F rfl h.front fun q hq hqe hp => h.noE q (by simp [hq]) (hpre _ hp) hqe
      rw [← only_doOp (ops := ops)] at hd
      have hd' := doOp_next (n' := e.a.next) (h := (stOf s0 F).h) (n := (stOf s0 F).next) e.o (by omega) hd
      obtain ⟨v, y, h1, h2, h3⟩ := opDo_pure (h.hr.widen h.inj h.low hNF) hT e.o (by omega) hd'
      cases h1
      exact ⟨y, w, ρ, h2, plain y (by rw [hb]; exact h3) hb⟩
    · rw [← only_doOp (ops := ops)] at hd
      obtain ⟨mk, B, hm, y, obj, lim, n, hrun, hmk⟩ := opDo_make (w := w) hT e.o hk2 hd
      have hm' := hm e.a
      simp only at hm'
      rw [hm'] at hd
      injection hd with hd; injection hd with hd1 hd2
      have hbn : e.b.next = e.a.next + 1 := by rw [← hd2, S.next_alloc]
      have hfree : ∀ v, ρ e.a.next v = none := by
        intro v
        cases hr : ρ e.a.next v with
        | none => rfl
        | some l =>
          exfalso
          rcases h.fresh e.a.next v (by rw [hr]; exact fun h => by cases h) with hf | ⟨q, q1, q2, q3, q4⟩
          · omega
          · rcases List.mem_append.1 q1 with hq1 | hq1
            · have := after hR hq1; omega
            · rcases List.mem_cons.1 hq1 with rfl | hq1
              · exact hn q2
              · have := Run.before hev hRY (List.mem_append_left F hq1); omega
      let ρ' := ρ.put e.a.next 0 ⟨w.heap.size, 0, lim⟩
      have hle : ρ.le ρ' := Rho.le_put _ (hfree 0)
      have hto : (ρ.to e.a.next).le (ρ'.to e.b.next) := Rho.le_trans (Rho.to_mono hle _) (Rho.to_le ρ' (by omega))
      obtain ⟨hv, hblk⟩ := hmk (ρ'.to e.b.next) e.a.next hto (by rw [Rho.to_of (by omega)]; exact Rho.put_same _ _ _ _) (fun v hv => by
        rw [Rho.to_of (by omega)]
        show ρ.put _ _ _ _ _ = none
        unfold Rho.put; rw [if_neg (by omega)]; exact hfree v)
      have hhp : ∀ b, b < w.heap.size → (({ w with drawn := n } : World).alloc obj).heap[b]? = w.heap[b]? := fun b hb => heap_alloc_lt { w with drawn := n } obj hb
      refine ⟨y, _, ρ', hrun, Inv.step hD h hR hk hn hle (fun f v hf => ?_) (fun f v hf => ?_) hhp ?_ ?_ ?_ (by rw [← hd1]; exact hv) (.inr ⟨B, hd2.symm, hblk _ ?_, fun v l hl => ?_⟩) hdst⟩
      · cases hr : ρ' f v with
        | none => exact absurd hr hf
        | some l =>
          rcases Rho.of_put hr with ⟨h1, _, _⟩ | h1
          · exact .inr ⟨h1, by omega⟩
          · exact .inl (by rw [h1]; exact fun h => by cases h)
      · show ρ.put _ _ _ _ _ = _
        unfold Rho.put; rw [if_neg (fun h => hf h.1)]
      · intro f v l f' v' l' e1 e2 hb
        rcases Rho.of_put e1 with ⟨rfl, rfl, rfl⟩ | e1
        · rcases Rho.of_put e2 with ⟨rfl, rfl, rfl⟩ | e2
          · exact ⟨rfl, rfl⟩
          · have := h.low _ _ _ e2; simp at hb; omega
        · rcases Rho.of_put e2 with ⟨rfl, rfl, rfl⟩ | e2
          · have := h.low _ _ _ e1; simp at hb; omega
          · exact h.inj _ _ _ _ _ _ e1 e2 hb
      · intro f v l e1
        rcases Rho.of_put e1 with ⟨rfl, rfl, rfl⟩ | e1
        · simp
        · have := h.low _ _ _ e1; simp; omega
      · refine ⟨hle, by simp, rfl, rfl, rfl, fun b hb _ => hhp b hb, fun f v l e1 hl => ?_⟩
        rcases Rho.of_put e1 with ⟨rfl, rfl, rfl⟩ | e1
        · simp at hl
        · exact ⟨f, v, l, e1, rfl, id⟩
      · exact heap_alloc_new { w with drawn := n } obj
      · rcases Rho.of_put hl with ⟨_, rfl, rfl⟩ | hl
        · show ¬ (lim < 0); omega
        · rw [hfree v] at hl; cases hl
  · exact absurd hk' hk

/-- An effect has come to pass. -/
theorem Inv.effect (hD : DataOk ops) (h : Inv E t0 s0 ρ0 w0 (X1 ++ e :: X2) F R ρ w tm) (hR : Run E rec ops t0 s0 (X1 ++ e :: (X2 ++ F))) (hk : Act3 E e.o) (hn : ¬ R e.i) (hX2 : ∀ q ∈ X2, R q.i) {ρ1 : Rho} {w' : World} {y : Value}
    (h1 : HR ρ1 e.b w') (h2 : FR (ρ.to e.a.next) w ρ1 w') (hv : den ρ1 e.v = some y) (hdst : ∀ d, e.o.dst = some d → d < tm.size) :
    ∃ ρ', Inv E t0 s0 ρ0 w0 X1 (e :: (X2 ++ F)) (with1 R e.i) ρ' w' (putM tm e.o.dst y) := by
  obtain ⟨hev, hRY⟩ := Run.at hR
  have hNF : (stOf s0 F).next ≤ e.a.next := by rw [hev.st]; exact Run.next_le hRY
  have hab := hev.next_le
  have uniq : ∀ q, q ∈ X1 ++ e :: (X2 ++ F) → q.i = e.i → q = e := fun q hq hi => Run.uniq hR hq (by simp) hi
  have notX1 : ∀ q ∈ X1, q.i ≠ e.i := by
    intro q hq hi
    have := uniq q (by simp [hq]) hi
    subst this
    obtain ⟨Xa, Xb, rfl⟩ := List.append_of_mem hq
    have h2 : Run E rec ops t0 s0 (Xa ++ q :: (Xb ++ q :: (X2 ++ F))) := by simpa using hR
    exact (Run.at h2).1.new q (by simp) rfl
  -- what ρ names from the effect's end on is early
  have early : ∀ f v, ρ f v ≠ none → f < e.a.next ∨ (e.b.next ≤ f ∧ ∃ q ∈ X1, R q.i ∧ f = q.a.next ∧ f < q.b.next) := by
    intro f v hf
    rcases h.fresh f v hf with hf | ⟨q, q1, q2, q3, q4⟩
    · exact .inl (by omega)
    · rcases List.mem_append.1 q1 with hq1 | hq1
      · have := after hR hq1
        exact .inr ⟨by omega, q, hq1, q2, q3, q4⟩
      · rcases List.mem_cons.1 hq1 with rfl | hq1
        · exact absurd q2 hn
        · have := Run.before hev hRY (List.mem_append_left F hq1)
          exact .inl (by omega)
  let ρ' : Rho := fun f v => if f < e.b.next then ρ1 f v else ρ f v
  have ρlt : ∀ {f v}, f < e.b.next → ρ' f v = ρ1 f v := fun {f v} hf => by show (if _ then _ else _) = _; rw [if_pos hf]
  have ρge : ∀ {f v}, e.b.next ≤ f → ρ' f v = ρ f v := fun {f v} hf => by show (if _ then _ else _) = _; rw [if_neg (by omega)]
  have hto : ρ'.to e.b.next = ρ1 := by
    funext f v
    by_cases hf : f < e.b.next
    · rw [Rho.to_of hf, ρlt hf]
    · rw [Rho.to_ge (by omega), h1.fresh f v (by omega)]
  have hle : ρ.le ρ' := fun f v l hl => by
    rcases early f v (by rw [hl]; exact fun h => by cases h) with hf | ⟨hf, _⟩
    · rw [ρlt (by omega)]
      exact h2.ext f v l (by rw [Rho.to_of hf]; exact hl)
    · rw [ρge hf]; exact hl
  have hfr : FR ρ w ρ' w' := by
    refine ⟨hle, h2.size, h2.os, h2.tape, h2.output, fun b hb hno => h2.same b hb fun f v l hl hro => hno f v l (Rho.to_lt hl).2 hro, fun f v l hl hb => ?_⟩
    by_cases hf : f < e.b.next
    · rw [ρlt hf] at hl
      obtain ⟨f', v', l', k1, k2⟩ := h2.new f v l hl hb
      exact ⟨f', v', l', (Rho.to_lt k1).2, k2⟩
    · rw [ρge (by omega)] at hl
      exact ⟨f, v, l, hl, rfl, id⟩
  have apart : ∀ f v l f' v' l', f < e.b.next → e.b.next ≤ f' → ρ' f v = some l → ρ' f' v' = some l' → l.b ≠ l'.b := by
    intro f v l f' v' l' hf hf' e1 e2 hb
    rw [ρlt hf] at e1
    rw [ρge hf'] at e2
    have hl := h.low _ _ _ e2
    obtain ⟨f2, v2, l2, k1, k2, _⟩ := h2.new f v l e1 (by omega)
    obtain ⟨k3, k4⟩ := Rho.to_lt k1
    have := (h.inj _ _ _ _ _ _ k4 e2 (by omega)).1
    omega
  refine ⟨ρ', hk, fun q hq => ?_, fun q hq hr => ?_, fun q hq hr => ?_, fun d x hx hno => ?_, fun q hq hr => ?_, ?_, ?_, ?_, fun f v hf => ?_, h.fr.trans hfr⟩
  · rcases List.mem_cons.1 hq with rfl | hq
    · exact .inr rfl
    · rcases List.mem_append.1 hq with hq | hq
      · exact .inl (hX2 q hq)
      · exact .inl (h.inF q hq)
  · exact h.noE q (by simp [hq]) (hr.resolve_right (notX1 q hq))
  · by_cases hi : q.i = e.i
    · have := uniq q hq hi
      subst this
      exact ⟨y, by rw [hto]; exact hv, fun d hd => putM_same hd (hdst d hd)⟩
    · have hr : R q.i := hr.resolve_right hi
      obtain ⟨z, z1, z2⟩ := h.vals q (mem_mid.2 hq) hr
      exact ⟨z, den_mono (Rho.to_mono hle _) _ _ z1, fun d hd => by rw [putM_other (dst_other hD hR hq hi hd)]; exact z2 d hd⟩
  · obtain ⟨z, z1, z2⟩ := h.olds d x hx fun q hq hr => hno q (mem_mid.1 hq) (.inl hr)
    refine ⟨z, den_mono (Rho.to_mono hle _) _ _ z1, ?_⟩
    rw [putM_other (hno e (by simp) (.inr rfl))]; exact z2
  · have hr : R q.i := hr.resolve_right (notX1 q hq)
    have haf := after hR hq
    rcases h.blks q (by simp [hq]) hr with hqb | ⟨B, hqb, hB, hro⟩
    · exact .inl hqb
    · have hqn : q.b.next = q.a.next + 1 := by rw [hqb, S.next_alloc]
      refine .inr ⟨B, hqb, hB.keep (Rho.to_mono hle _) (fun v hv => ?_) (fun v l hl => ?_), fun v l hl => hro v l (by rw [ρge haf] at hl; exact hl)⟩
      · rw [Rho.to_of (by omega)] at hv ⊢
        rw [ρge haf]; exact hv
      · have hl' := (Rho.to_lt hl).2
        refine h2.same _ (h.low _ _ _ hl') fun f v' l' hf _ hb => ?_
        obtain ⟨k1, k2⟩ := Rho.to_lt hf
        have := (h.inj _ _ _ _ _ _ k2 hl' hb).1
        omega
  · show HR (ρ'.to e.b.next) e.b w'
    rw [hto]; exact h1
  · intro f v l f' v' l' e1 e2 hb
    by_cases hf : f < e.b.next
    · by_cases hf' : f' < e.b.next
      · rw [ρlt hf] at e1; rw [ρlt hf'] at e2
        exact h1.inj _ _ _ _ _ _ e1 e2 hb
      · exact absurd hb (apart _ _ _ _ _ _ hf (by omega) e1 e2)
    · by_cases hf' : f' < e.b.next
      · exact absurd hb.symm (apart _ _ _ _ _ _ hf' (by omega) e2 e1)
      · rw [ρge (by omega)] at e1 e2
        exact h.inj _ _ _ _ _ _ e1 e2 hb
  · intro f v l e1
    by_cases hf : f < e.b.next
    · rw [ρlt hf] at e1; exact h1.low _ _ _ e1
    · rw [ρge (by omega)] at e1
      exact Nat.lt_of_lt_of_le (h.low _ _ _ e1) h2.size
  · show f < e.b.next ∨ _
    by_cases hfe : f < e.b.next
    · exact .inl hfe
    · rw [ρge (by omega)] at hf
      rcases early f v hf with hf | ⟨_, q, q1, q2, q3⟩
      · exact absurd (Nat.lt_of_lt_of_le hf hab) hfe
      · exact .inr ⟨q, q1, .inl q2, q3⟩

end
end
end Go.AI
/- Regions that draw their order, third part: the machine's run. -/
namespace Go.AI

/-- How many are left. -/
def left : List Bool → Nat
  | [] => 0
  | true :: r => left r
  | false :: r => left r + 1

theorem left_set : ∀ (l : List Bool) (i : Nat), l[i]? = some false → left (l.set i true) + 1 = left l
  | [], i, h => by simp at h
  | b :: r, 0, h => by simp at h; subst h; simp [left]
  | b :: r, i + 1, h => by
    have := left_set r i (by simpa using h)
    cases b <;> simp [left] <;> omega

theorem left_zero : ∀ (l : List Bool), left l = 0 → ∀ i : Nat, l[i]? ≠ some false
  | [], _, i => by simp
  | true :: r, h, 0 => by simp
  | false :: r, h, _ => by simp [left] at h
  | true :: r, h, i + 1 => by simpa using left_zero r h i

theorem left_replicate : ∀ n, left (List.replicate n false) = n
  | 0 => rfl
  | n + 1 => by simp [List.replicate_succ, left, left_replicate n]

def Listed (listed : Array Bool) : Nat → Prop := fun i => listed[i]? = some true

section
variable {P : Program} {ops : Array Oper} {listed : Array Bool}

theorem listed_set {i : Nat} (hs : i < listed.size) : Listed (listed.setIfInBounds i true) = with1 (Listed listed) i := by
  funext k
  unfold Listed with1
  apply propext
  by_cases h : i = k
  · subst h; simp [hs]
  · rw [Array.getElem?_setIfInBounds_ne h]
    constructor
    · exact fun h => .inl h
    · rintro (h1 | h1)
      · exact h1
      · exact absurd h1.symm h

theorem mem_ready {i : Nat} (hs : listed.size = ops.size) (h : i ∈ Region.ready .any ops listed) : ∃ o, ops[i]? = some o ∧ listed[i]? = some false ∧ ∀ e ∈ o.after, Region.binds .any e = true → Listed listed e.on := by
  unfold Region.ready at h
  rw [List.mem_filter] at h
  obtain ⟨h1, h2⟩ := h
  have hi : i < ops.size := by simpa using h1
  simp only [Bool.and_eq_true, Bool.not_eq_true'] at h2
  obtain ⟨h2, h3⟩ := h2
  refine ⟨ops[i], by simp [hi], ?_, ?_⟩
  · have : i < listed.size := by omega
    rw [Array.getElem?_eq_getElem this]
    rw [Array.getD_eq_getD_getElem?, Array.getElem?_eq_getElem this] at h2
    simpa using h2
  · rw [Array.getElem?_eq_getElem hi] at h3
    simp only [Option.map_some, Option.getD_some] at h3
    rw [Array.all_eq_true'] at h3
    intro e he hb
    have := h3 e he
    rw [hb] at this
    simp only [Bool.not_true, Bool.false_or] at this
    unfold Listed
    rw [Array.getD_eq_getD_getElem?] at this
    cases hl : listed[e.on]? with
    | none => rw [hl] at this; cases this
    | some b => rw [hl] at this; simp at this; rw [this]

theorem ready_nil (hE : EdgesBack ops) (hs : listed.size = ops.size) (h : Region.ready .any ops listed = []) : ∀ i, i < ops.size → Listed listed i := by
  intro i
  induction i using Nat.strongRecOn with
  | ind i ih =>
    intro hi
    have hi' : i < listed.size := by omega
    cases hb : listed[i] with
    | true => unfold Listed; rw [Array.getElem?_eq_getElem hi', hb]
    | false =>
      exfalso
      have : i ∈ Region.ready .any ops listed := by
        unfold Region.ready
        rw [List.mem_filter]
        refine ⟨by simpa using hi, ?_⟩
        simp only [Bool.and_eq_true, Bool.not_eq_true']
        refine ⟨by rw [Array.getD_eq_getD_getElem?, Array.getElem?_eq_getElem hi', hb]; rfl, ?_⟩
        rw [Array.getElem?_eq_getElem hi]
        simp only [Option.map_some, Option.getD_some]
        rw [Array.all_eq_true']
        intro e he
        cases hbi : Region.binds .any e with
        | false => rfl
        | true =>
          have hlt := hE i ops[i] (by simp [hi]) e he hbi
          have := ih e.on hlt (by omega)
          unfold Listed at this
          rw [Array.getD_eq_getD_getElem?, this]
          rfl
      rw [h] at this
      cases this

/-- What is listed is closed. -/
theorem pre_listed (hE : EdgesBack ops) {R : Nat → Prop} (hcl : Closed ops R) {i : Nat} {o : Oper} (ho : ops[i]? = some o) (h : ∀ e ∈ o.after, Region.binds .any e = true → R e.on) : ∀ k, Pre ops i k → R k := by
  intro k hk
  obtain ⟨e, h1, h2, h3⟩ := (pre_iff hE ho).1 hk
  rcases h3 with rfl | h3
  · exact h e h1 h2
  · exact hcl e.on k (h e h1 h2) h3
end

section
variable {E : Env} {ih : Job → S → Option Out} {ops : Array Oper} {t0 : T V} {s0 : S} {ρ0 : Rho} {w0 : World} {f : FuncId} {fn : Func} {k : List Item} {rd : Option Nat} {ds : List Dfr} {up : Option Md} {cs : List Frame}

theorem fin0 {fr : Frame} {i : Nat} {rest : List Nat} {o : Oper} (hF : FrR E.P ρ0 f fn .leaf (.inRegion ops (i :: rest) :: k) ds .run up rd fr cs) (ho : ops[i]? = some o) (y : Value) :
    FrR E.P ρ0 f fn .leaf (.inRegion ops rest :: k) ds .run up rd (fr.finish y) cs ∧ (fr.finish y).tmps = putM fr.tmps o.dst y := by
  rw [finish_op (hF.todo rfl) ho]
  refine ⟨⟨hF.name, hF.func, TR.leaf _ _, ?_, fun _ => rfl, hF.ds, hF.md, hF.rd, hF.up⟩, rfl⟩
  show fn.ntmps ≤ (putM fr.tmps o.dst y).size
  have := hF.size
  unfold putM
  split <;> simpa using this

theorem real_run (hE : EnvOk E) (hg : Good E.P ih) (hD : DataOk ops) (hdst : dstOk ops fn.ntmps = true) {L : List Ev} (hR : Run E (recOf ih) ops t0 s0 L) (hall : ∀ k, k < ops.size → ∃ q ∈ L, q.i = k) {t' : T V} (hS : Slots t0 L t') :
    ∀ (fuel τ : Nat) (listed : Array Bool) (X F : List Ev) (ρ : Rho) (w : World) (fr : Frame), L = X ++ F → listed.size = ops.size → left listed.toList ≤ fuel → Closed ops (Listed listed) →
      Inv E t0 s0 ρ0 w0 X F (Listed listed) ρ w fr.tmps → FrR E.P ρ0 f fn .leaf (.inRegion ops (Region.linearise.go .any ops fuel τ listed []) :: k) ds .run up rd fr cs →
      ∃ ρ' w' fr', Steps E.P (lone fr cs w) (lone fr' cs w') ∧ FR ρ0 w0 ρ' w' ∧ HR ρ' (stOf s0 L) w' ∧ FrR E.P ρ' f fn t' k ds .run up rd fr' cs := by
  have fin : ∀ (listed : Array Bool) (X F : List Ev) (ρ : Rho) (w : World) (fr : Frame), L = X ++ F → (∀ i, i < ops.size → Listed listed i) → Inv E t0 s0 ρ0 w0 X F (Listed listed) ρ w fr.tmps →
      FrR E.P ρ0 f fn .leaf (.inRegion ops [] :: k) ds .run up rd fr cs → ∃ ρ' w' fr', Steps E.P (lone fr cs w) (lone fr' cs w') ∧ FR ρ0 w0 ρ' w' ∧ HR ρ' (stOf s0 L) w' ∧ FrR E.P ρ' f fn t' k ds .run up rd fr' cs := by
    intro listed X F ρ w fr hL hfull hI hF
    have hin : ∀ e ∈ L, Listed listed e.i := fun e he => by
      obtain ⟨_, _, _, k1, _⟩ := Run.ok hR he
      exact hfull e.i (by
        rcases Nat.lt_or_ge e.i ops.size with h | h
        · exact h
        · have := k1.op; rw [Array.getElem?_eq_none h] at this; cases this)
    have hreg := hI.reg (X1 := []) (Z := X) (by simp) (by rw [← hL]; exact hR) fun e he => hin e (by rw [hL]; simp [he])
    rw [← hL] at hreg
    have hfresh : ∀ f v, (stOf s0 L).next ≤ f → ρ f v = none := by
      intro f v hf
      cases hr : ρ f v with
      | none => rfl
      | some l =>
        exfalso
        have hFn : (stOf s0 F).next ≤ (stOf s0 L).next := by rw [hL] at hR ⊢; exact Run.next_le hR
        rcases hI.fresh f v (by rw [hr]; exact fun h => by cases h) with h1 | ⟨q, q1, q2, q3, q4⟩
        · omega
        · have hq : q ∈ L := by rw [hL]; simp [q1]
          obtain ⟨Xa, Y, hLa, k1, k2⟩ := Run.ok hR hq
          have : (stOf s0 (q :: Y)).next ≤ (stOf s0 L).next := by rw [hLa] at hR ⊢; exact Run.next_le hR
          have : q.b.next ≤ (stOf s0 L).next := this
          omega
    rw [Rho.to_all hfresh] at hreg
    refine ⟨ρ, w, _, .one (st_regionEnd (frun hF) (hF.todo rfl)), hI.fr, hreg, ?_⟩
    have hF' := (hF.mono hI.fr.ext).to k
    refine ⟨hF'.name, hF'.func, fun d x hx => ?_, hF'.size, hF'.todo, hF'.ds, hF'.md, hF'.rd, hF'.up⟩
    rcases hS d with ⟨q, q1, q2, q3⟩ | ⟨q1, q2⟩
    · rw [q3] at hx; cases hx
      obtain ⟨y, y1, y2⟩ := hI.vals q (by rw [← hL]; exact q1) (hin q q1)
      exact ⟨y, den_mono (Rho.to_le_self ρ _) _ _ y1, y2 d q2⟩
    · rw [q2] at hx
      obtain ⟨y, y1, y2⟩ := hI.olds d x hx fun q hq _ => q1 q (by rw [hL]; exact hq)
      exact ⟨y, den_mono (Rho.to_le_self ρ _) _ _ y1, y2⟩
  intro fuel
  induction fuel with
  | zero =>
    intro τ listed X F ρ w fr hL hs hleft hcl hI hF
    refine fin listed X F ρ w fr hL (fun i hi => ?_) hI (by simpa [Region.linearise.go] using hF)
    have := left_zero listed.toList (by omega) i
    have hi' : i < listed.size := by omega
    unfold Listed
    rw [Array.getElem?_eq_getElem hi']
    cases hb : listed[i] with
    | true => rfl
    | false => exfalso; apply this; rw [Array.getElem?_toList, Array.getElem?_eq_getElem hi', hb]
  | succ fuel ihf =>
    intro τ listed X F ρ w fr hL hs hleft hcl hI hF
    simp only [Region.linearise.go] at hF
    change FrR E.P ρ0 f fn .leaf (.inRegion ops (match (Region.ready .any ops listed)[τ % (Region.ready .any ops listed).length]? with
      | some i => Region.linearise.go .any ops fuel (τ / (Region.ready .any ops listed).length) (listed.setIfInBounds i true) [i]
      | none => [].reverse) :: k) ds .run up rd fr cs at hF
    cases hi : (Region.ready .any ops listed)[τ % (Region.ready .any ops listed).length]? with
    | none =>
      have hnil : Region.ready .any ops listed = [] := by
        cases hr : Region.ready .any ops listed with
        | nil => rfl
        | cons x xs =>
          rw [hr] at hi
          have hlt : τ % (x :: xs).length < (x :: xs).length := Nat.mod_lt _ (by simp)
          simp at hi
          simp at hlt
          omega
      rw [hi] at hF
      exact fin listed X F ρ w fr hL (ready_nil hD.back hs hnil) hI hF
    | some i =>
      rw [hi] at hF
      simp only at hF
      rw [linearise_go_acc, List.reverse_singleton, List.singleton_append] at hF
      obtain ⟨o, ho, hfalse, hed⟩ := mem_ready hs (List.mem_of_getElem? hi)
      have hn : ¬ Listed listed i := fun h => by unfold Listed at h; rw [hfalse] at h; cases h
      have hpre := pre_listed hD.back hcl ho hed
      have hisz : i < listed.size := by
        rcases Nat.lt_or_ge i listed.size with h | h
        · exact h
        · rw [Array.getElem?_eq_none h] at hfalse; cases hfalse
      obtain ⟨e, heL, hei⟩ := hall i (by omega)
      subst hei
      obtain ⟨_, _, _, hev0, _⟩ := Run.ok hR heL
      have heo : e.o = o := by have := hev0.op; rw [ho] at this; cases this; rfl
      subst heo
      have heX : e ∈ X := by
        rw [hL] at heL
        rcases List.mem_append.1 heL with h | h
        · exact h
        · exact absurd (hI.inF e h) hn
      obtain ⟨X1, X2, rfl⟩ := List.append_of_mem heX
      have hL' : L = X1 ++ e :: (X2 ++ F) := by rw [hL]; simp
      have hR' := hR
      rw [hL'] at hR'
      obtain ⟨hev, hRY⟩ := Run.at hR'
      have hdst' : ∀ d, e.o.dst = some d → d < fr.tmps.size := fun d hd => Nat.lt_of_lt_of_le (dstOk_spec hdst ho d hd) hF.size
      have hm := frun hF
      have htd := hF.todo rfl
      have hsz' : (listed.setIfInBounds e.i true).size = ops.size := by simpa using hs
      have hleft' : left (listed.setIfInBounds e.i true).toList ≤ fuel := by
        have := left_set listed.toList e.i (by rw [Array.getElem?_toList]; exact hfalse)
        rw [Array.toList_setIfInBounds]; omega
      have hset := listed_set hisz
      have hcl' : Closed ops (Listed (listed.setIfInBounds e.i true)) := by rw [hset]; exact hcl.with1 hpre
      by_cases hk : Act3 E e.o
      · -- an effect
        have hstep : effStep E (recOf ih) e.t e.a e.o (wantedV ops e.t e.o) = some (e.v, e.b) ∧ ∀ q ∈ X2 ++ F, Pre ops e.i q.i := by
          rcases hev.step with ⟨hk', _⟩ | ⟨_, h1, _, h2⟩
          · exact absurd hk hk'
          · exact ⟨h1, h2⟩
        obtain ⟨hst, hXF⟩ := hstep
        have hX2 : ∀ q ∈ X2, Listed listed q.i := fun q hq => hpre _ (hXF q (by simp [hq]))
        have hreg := hI.reg (X1 := X1 ++ [e]) (Z := X2) (by simp) hRY hX2
        rw [← hev.st] at hreg
        have hT := hI.env hD hR' hn hcl hpre
        have wsp : ∀ b, wantedV ops e.t e.o = some b → Region.wanted e.o (yielded ops fr.tmps) = b := fun b hb => by
          rw [← only_wanted] at hb
          exact wantedV_sound hT hb
        have go : ∀ (ρ1 : Rho) (w1 : World) (y : Value), Steps E.P (lone fr cs w) (lone (fr.finish y) cs w1) → HR ρ1 e.b w1 → FR (ρ.to e.a.next) w ρ1 w1 → den ρ1 e.v = some y →
            ∃ ρ' w' fr', Steps E.P (lone fr cs w) (lone fr' cs w') ∧ FR ρ0 w0 ρ' w' ∧ HR ρ' (stOf s0 L) w' ∧ FrR E.P ρ' f fn t' k ds .run up rd fr' cs := by
          intro ρ1 w1 y hsteps h1 h2 h3
          obtain ⟨ρ', hI'⟩ := hI.effect hD hR' hk hn hX2 h1 h2 h3 hdst'
          obtain ⟨hF', htm⟩ := fin0 hF ho y
          rw [← hset, ← htm] at hI'
          obtain ⟨ρ2, w2, fr2, a1, a2⟩ := ihf (τ / (Region.ready .any ops listed).length) _ X1 (e :: (X2 ++ F)) ρ' w1 (fr.finish y) hL' hsz' hleft' hcl' hI' hF'
          exact ⟨ρ2, w2, fr2, hsteps.trans a1, a2⟩
        unfold effStep at hst
        split at hst
        · rename_i hw
          have hwant := wsp _ hw
          rw [← only_doOp (ops := ops)] at hst
          cases hdo : doOp E (only e.t (looks ops e.o)) e.a e.o with
          | none => rw [hdo] at hst; cases hst
          | some nx =>
            rw [hdo] at hst
            have hop := opDo_sound hE hreg hT e.o hdo
            have hstg : (∀ c, e.o.op ≠ .defer c) → stepG E.P true { frame := fr, callers := cs, status := .running, dying := none } w = stepG.apply E.P true fr cs none (execOp (rv fr.tmps) e.o) w := fun q => stepG_oper hm htd ho hwant (.inr q)
            cases nx with
            | val v s1 =>
              simp only [effDo, Option.some.injEq, Prod.mk.injEq] at hst
              obtain ⟨hst1, hst2⟩ := hst
              obtain ⟨ρ1, y, w1, h1, h2, h3, h4⟩ := hop
              have hst := hstg (deferless hdo (fun d s' => by intro h; cases h))
              exact go ρ1 w1 y (.one (ap_value hst h1)) (by rw [← hst2]; exact h3) h4 (by rw [← hst1]; exact h2)
            | skip s1 =>
              simp only [effDo, Option.some.injEq, Prod.mk.injEq] at hst
              obtain ⟨hst1, hst2⟩ := hst
              obtain ⟨ρ1, w1, h1, h3, h4⟩ := hop
              have hst := hstg (deferless hdo (fun d s' => by intro h; cases h))
              exact go ρ1 w1 undef (.one (ap_skip hst h1)) (by rw [← hst2]; exact h3) h4 (by rw [← hst1]; rfl)
            | enter g args s1 =>
              obtain ⟨ys, h1, h2, h3⟩ := hop
              have hstx := hstg (deferless hdo (fun d s' => by intro h; cases h))
              simp only [effDo] at hst
              cases hr : recOf ih g args none s1 with
              | none => rw [hr] at hst; cases hst
              | some out =>
                rw [hr] at hst
                obtain ⟨hcall, hfin⟩ := rec_sound hg h3 h1 hr
                rw [hcall] at h2
                obtain ⟨ρ1, w1, en, j1, j2, j3, j4⟩ := hfin fr cs
                have hsteps : Steps E.P (lone fr cs w) (lone (resume fr en) cs w1) := .head (ap_enter htd hstx h2) j4
                obtain ⟨oe, oup, os⟩ := out
                cases oe with
                | panicked c => cases hst
                | returned v =>
                  simp only [effEnd, Option.some.injEq, Prod.mk.injEq] at hst
                  obtain ⟨hst1, hst2⟩ := hst
                  cases en with
                  | returned y => exact go ρ1 w1 y hsteps (by rw [← hst2]; exact j1) j2 (by rw [← hst1]; exact j3)
                  | panicked _ => exact j3.elim
                  | outgrown => exact j3.elim
            | round l args s1 => cases hst
            | defer df s1 => cases hst
            | recover s1 => cases hst
            | panic v s1 => cases hst
        · rename_i hw
          have hwant := wsp _ hw
          simp only [Option.some.injEq, Prod.mk.injEq] at hst
          obtain ⟨hst1, hst2⟩ := hst
          exact go (ρ.to e.a.next) w undef (.one (st_unwanted hm htd (by simp [ho, hwant]))) (by rw [← hst2]; exact hreg) (FR.refl _ _) (by rw [← hst1]; rfl)
        · cases hst
      · -- a float
        rcases hI.float hD hR' hk hn hcl hpre hdst' with ⟨hwant, hI'⟩ | ⟨hwant, y, w1, ρ1, hrun, hI'⟩
        · obtain ⟨hF', htm⟩ := fin0 hF ho undef
          rw [← hset, ← htm] at hI'
          obtain ⟨ρ2, w2, fr2, a1, a2⟩ := ihf (τ / (Region.ready .any ops listed).length) _ (X1 ++ e :: X2) F ρ w (fr.finish undef) hL hsz' hleft' hcl' hI' hF'
          exact ⟨ρ2, w2, fr2, (Steps.one (st_unwanted hm htd (by simp [ho, hwant]))).trans a1, a2⟩
        · obtain ⟨hF', htm⟩ := fin0 hF ho y
          rw [← hset, ← htm] at hI'
          obtain ⟨ρ2, w2, fr2, a1, a2⟩ := ihf (τ / (Region.ready .any ops listed).length) _ (X1 ++ e :: X2) F ρ1 w1 (fr.finish y) hL hsz' hleft' hcl' hI' hF'
          have hnd : ∀ c, e.o.op ≠ .defer c := fun c hc => by
            apply hk
            show opKind E.P e.o.op = 3
            rw [hc]; rfl
          exact ⟨ρ2, w2, fr2, (Steps.one (ap_value (stepG_oper hm htd ho hwant (.inr hnd)) hrun)).trans a1, a2⟩

theorem st_drawn {P : Program} {fr : Frame} {cs : List Frame} {w : World} {id : Nat} (hm : fr.mode = .run) (ht : fr.todo = .code (.region id ops true) :: k) :
    step P (lone fr cs w) = .next (lone { fr with todo := .inRegion ops (Region.schedule (P.follows .mixedOrders) ops (w.tape w.drawn (.order fr.fn id))) :: k } cs { w with drawn := w.drawn + 1 }) :=
  step_lone_go (by simp [stepG, stepG.exec, hm, ht, choose, Sem.run, Question.forced, Question.cut])

/-- REGIONS THAT DRAW THEIR ORDER. -/
theorem drawn_sound (hE : EnvOk E) (hmix : E.P.follows .mixedOrders = true) : DrawnSound E := by
  intro ih hg f fn id ops k rd t ds up s r hdst e ρ w fr cs h hF
  obtain ⟨hD, L, t', s', rfl, hR, hS, rfl, hall⟩ := drawn_events e
  have hm := frun hF
  have ht := hF.todo rfl
  have hstep := st_drawn (P := E.P) (cs := cs) (w := w) hm ht
  rw [hmix] at hstep
  simp only [Region.schedule, Bool.true_or, if_true, Region.linearise] at hstep
  have h0 : Inv E t s ρ w L [] (Listed (Array.replicate ops.size false)) ρ { w with drawn := w.drawn + 1 } fr.tmps := by
    have hno : ∀ i, ¬ Listed (Array.replicate ops.size false) i := by
      intro i hi
      unfold Listed at hi
      rw [Array.getElem?_replicate] at hi
      split at hi <;> cases hi
    have hto : ρ.to s.next = ρ := Rho.to_all fun f v hf => h.fresh f v hf
    refine ⟨trivial, by simp, fun e _ hr => absurd hr (hno _), fun e _ hr => absurd hr (hno _), fun d x hx _ => ?_, fun e _ hr => absurd hr (hno _), ?_, h.inj, h.low, fun f v hf => .inl ?_, FR.drawn w _⟩
    · rw [hto]; exact hF.tr d x hx
    · show HR (ρ.to s.next) s _
      rw [hto]; exact h.drawn _
    · show f < s.next
      exact Nat.lt_of_not_le fun hc => hf (h.fresh f v hc)
  have hF0 : FrR E.P ρ f fn .leaf (.inRegion ops (Region.linearise.go .any ops ops.size (w.tape w.drawn (.order fr.fn id)) (Array.replicate ops.size false) []) :: k) ds .run up rd { fr with todo := .inRegion ops (Region.linearise.go .any ops ops.size (w.tape w.drawn (.order fr.fn id)) (Array.replicate ops.size false) []) :: k } cs :=
    ⟨hF.name, hF.func, TR.leaf _ _, hF.size, fun _ => rfl, hF.ds, hF.md, hF.rd, hF.up⟩
  obtain ⟨ρ', w', fr', a1, a2, a3, a4⟩ := real_run (ih := ih) (f := f) (fn := fn) (k := k) (rd := rd) (ds := ds) (up := up) (cs := cs) (ρ0 := ρ) (w0 := w) hE hg hD hdst hR hall hS ops.size _ (Array.replicate ops.size false) L [] ρ { w with drawn := w.drawn + 1 } { fr with todo := .inRegion ops (Region.linearise.go .any ops ops.size (w.tape w.drawn (.order fr.fn id)) (Array.replicate ops.size false) []) :: k } (by simp) (by simp)
    (by simp [left_replicate]) (fun i k hi => by
      unfold Listed at hi
      rw [Array.getElem?_replicate] at hi
      split at hi <;> cases hi) h0 hF0
  exact ⟨ρ', w', fr', cs, .head hstep a1, a2, Tops.refl hF, a3, a4, rfl⟩

end
end Go.AI
