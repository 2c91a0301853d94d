/- Symbolic walks in the evaluator: part 3. No conditions beyond those of the row. -/
import Derived.Test.YtkeaedhoaamfnaaGreatDoorX2
set_option linter.unusedVariables false
set_option linter.unusedSimpArgs false
noncomputable section
namespace Go.AI
section
variable {F : List Nat} {s0 : S} {e : Sg} {xs s : S} {D : List Nat} {U : S → Prop} {Q : cX → Prop} {L : List ck} {C : gX} {E : cg} {tx t : T V}
theorem xW {o : Oper} (hk : al E.P o.op ≤ 1) {v : V} {s1 : S} (h : az o.op E t s = some (.val v s1)) : s1 = s := by
 obtain ⟨hh, n⟩ := s
 have := yG o hk (n' := n) h
 unfold dV at this
 rw [h] at this
 cases this; rfl
theorem Hi (h : HK e xs s) (ht : RT e tx t) {op : Op} (hok : zo tx op = true) (hk : al E.P op = 1) {v : V} {xs1 : S} (hn : az op E tx xs = some (.val v xs1)) : az op E t s = some (.val (sub e v) s) ∧ RV e v (sub e v) := by
 cases op with
 | load ty x =>
  simp only [az] at hn ⊢
  unfold eI at hn
  split at hn
  ·rename_i a hx
   rw [ht.atR h.ok hx]
   have hrv := ht.rvR h.ok hx
   cases hl : loadVar E.P xs ty a with
   | none => rw [hl] at hn; cases hn
   | some r =>
    rw [hl] at hn; cases hn
    have h1 := nr (P := E.P) h hl
    refine ⟨?_, fun e' he => ?_⟩
    ·show bc s (loadVar E.P s ty (ig e a)) = _
     rw [h1 e (Sg.le_refl h.ok)]; rfl
    ·have h2 := h1 e' he
     have h3 : ig e' a = ig e a := by have := hrv e' he; simp only [sub, V.ptr.injEq] at this; exact this
     rw [h3, h1 e (Sg.le_refl h.ok)] at h2
     exact (Option.some.inj h2).symm
  ·cases hn
 | binOp op ty x y _ =>
  simp only [zo] at hok
  split at hok
  ·rename_i a hx
   split at hok
   ·rename_i b hy
    simp only [az, hx, hy, cS] at hn
    cases hg : bj E.P op ty x y a b with
    | false => rw [hg] at hn; cases hn
    | true =>
     rw [hg] at hn
     simp only [cond_true] at hn
     cases hr : bD E.P (plainAt xs) op ty a b with
     | none => rw [hr] at hn; cases hn
     | some r =>
      rw [hr] at hn; cases hn
      have key : ∀ e', e.le e' → cS E.P s op ty x y (some (sub e' a)) (some (sub e' b)) = some (sub e' v) := fun e' he => by
       simp only [cS, sH hok, hg, cond_true]
       exact sW hok hr e'
      refine ⟨?_, fun e' he => ?_⟩
      ·simp only [az, ht.atR h.ok hx, ht.atR h.ok hy, key e (Sg.le_refl h.ok), bc]
      ·have h1 := key e' he
       rw [ht.rvR h.ok hx e' he, ht.rvR h.ok hy e' he, key e (Sg.le_refl h.ok)] at h1
       exact (Option.some.inj h1).symm
   ·cases hok
  ·cases hok
 | convert src dst x =>
  simp only [zo] at hok
  split at hok
  ·rename_i k n hx
   have h1 := ht.atR h.ok hx
   simp only [sub] at h1
   simp only [az, hx, h1] at hn ⊢
   unfold fp iN at hn ⊢
   simp only at hn ⊢
   cases hsrc : E.P.underlying src with
   | none => rw [hsrc] at hn; simp only [ff] at hn; cases hn
   | some ds =>
    rw [hsrc] at hn
    simp only at hn ⊢
    cases hdst : E.P.underlying dst with
    | none => rw [hdst] at hn; cases hn
    | some dd =>
     rw [hdst] at hn
     cases dd with
     | int kk => simp only [al, hdst] at hk; cases hk
     | string => cases hn; exact ⟨rfl, fun e' _ => rfl⟩
     | slice el => cases hn
     | _ => cases hn
  ·cases hok
 | call c =>
  simp only [zo] at hok
  simp only [al] at hk
  split at hok
  ·rename_i f hc; rw [hc] at hk; cases hk
  ·cases hok
 | makeMap ty x => cases hk
 | lookup ty x k q => cases hok
 | move x => cases hk
 | assign x => cases hk
 | pick c a b => cases hk
 | alloc el => cases hk
 | box el x => cases hk
 | build ty x => cases hk
 | buildSlice ty n x => cases hk
 | store ty x y => cases hk
 | nilCheck x => cases hk
 | unOp a b x => cases hk
 | makeInterface a x => cases hk
 | makeFunc a b c => cases hk
 | fieldAddr a b c => cases hk
 | field a b c => cases hk
 | indexAddr a b c => cases hk
 | extract a b => cases hk
 | typeAssert a b c d => cases hk
 | panic x => cases hk
 | _ => cases hok
theorem uL {o : Oper} {w : V} : ∀ {hs : List S}, hs ≠ [] → (∀ s ∈ hs, az o.op E t s = some (.val w s)) → du E t o hs = some w
 | [], h, _ => absurd rfl h
 | [s], _, h => by
  have := h s (by simp)
  simp only [du, dV, this]
 | s :: s2 :: r, _, h => by
  have h1 := h s (by simp)
  have h2 := uL (hs := s2 :: r) (by simp) (fun s hs => h s (List.mem_cons_of_mem _ hs))
  simp only [du, dV, h1, h2, eY, cond_true]
theorem Fl {op : Op} (hk : al E.P op = 2) {s' : S} (h : az op E t s = some (.skip s')) : False := by
 cases op with
 | alloc el => simp only [az, eJ] at h; split at h <;> cases h
 | box el x => simp only [az, nL] at h; split at h <;> cases h
 | makeMap ty x =>
  cases x with
  | none => cases h
  | some x => cases h
 | makeSlice ty l c =>
  simp only [az, eQ] at h
  (repeat' split at h) <;> first | (cases h; done) | skip
  revert h
  cases (_ && _ && _ && _ && _ : Bool) <;> intro h <;> cases h
 | buildSlice ty n l =>
  simp only [az, bt] at h
  (repeat' split at h) <;> first | (cases h; done) | skip
  revert h
  cases (_ && _ && _ : Bool) with
  | false => intro h; cases h
  | true => intro h; simp only [cond_true, lh] at h; split at h <;> cases h
 | convert src dst x =>
  simp only [az, fp] at h
  split at h
  ·cases hc : iN E.P s src dst _ with
   | none => rw [hc] at h; cases h
   | some r => obtain ⟨v, s1⟩ := r; rw [hc] at h; cases h
  ·cases h
 | call c =>
  simp only [al] at hk
  split at hk <;> cases hk
 | binOp op a b c d =>
  simp only [al] at hk
  cases hi : eE op <;> rw [hi] at hk <;> cases hk
 | _ => cases hk
inductive nT (F : List Nat) (s0 : S) (e : Sg) : List S → List S → Prop where
 | nil : nT F s0 e [] []
 | cons {x s : S} {hx hs : List S} : HK e x s → Fw F s0 s → WF s → nT F s0 e hx hs → nT F s0 e (x :: hx) (s :: hs)
theorem nT.mono {a b : Sg} (k : a.le b) : ∀ {hx hs : List S}, nT F s0 a hx hs → nT F s0 b hx hs
 | _, _, .nil => .nil
 | _, _, .cons h1 h2 h3 h4 => .cons (h1.mono k) h2 h3 (h4.mono k)
theorem nT.take : ∀ {hx hs : List S} (c : Nat), nT F s0 e hx hs → nT F s0 e (hx.take c) (hs.take c)
 | _, _, 0, _ => by simp only [List.take_zero]; exact .nil
 | _, _, c + 1, .nil => .nil
 | _, _, c + 1, .cons h1 h2 h3 h4 => .cons h1 h2 h3 (h4.take c)
theorem nT.mem : ∀ {hx hs : List S}, nT F s0 e hx hs → ∀ s ∈ hs, ∃ x ∈ hx, HK e x s ∧ Fw F s0 s ∧ WF s
 | _, _, .nil, s, h => by cases h
 | _, _, .cons h1 h2 h3 h4, s, h => by
  rcases List.mem_cons.1 h with rfl | h
  ·exact ⟨_, by simp, h1, h2, h3⟩
  ·obtain ⟨x, k1, k2⟩ := h4.mem s h
   exact ⟨x, List.mem_cons_of_mem _ k1, k2⟩
theorem nT.len : ∀ {hx hs : List S}, nT F s0 e hx hs → hx.length = hs.length
 | _, _, .nil => rfl
 | _, _, .cons _ _ _ h4 => by simp [h4.len]
theorem nT.ne : ∀ {hx hs : List S}, nT F s0 e hx hs → hx ≠ [] → hs ≠ []
 | _, _, .nil, h => h
 | _, _, .cons .., _ => by simp
theorem mr {kd : Nat} (h : XI F s0 e D U xs s) (hT : RT e tx t) {na : Nat} (hna : na = e.σ.length) {o : Oper} {k : Kv} {x : S} {own u : Bool} {tree : aB} (ht : oW.askF C o tx xs na k x own u = some tree) (hh : ah C.E F s0 Q tree e D U L)
 {hs : List S} (hfx : ∀ s' ∈ hs, Fw F s0 s' ∧ WF s' ∧ (own = true → HK e x s') ∧ (u = true → U s')) : mI C.E F s0 Q L e s U xs kd k (fun w s' => s' = s ∧ ∀ s1 ∈ hs, az o.op C.E t s1 = some (.val w s1)) := by
 unfold oW.askF at ht
 split at ht
 ·rename_i a ha
  generalize htm : kj C.E.P o na = tm at ht
  obtain ⟨v, n⟩ := tm
  simp only at ht
  cases hb : mM (na + n) xs.next v with
  | false => rw [hb] at ht; cases ht
  | true =>
   rw [hb] at ht
   simp only [cond_true] at ht
   refine Dp h hna hb ht hh fun w hw => ⟨rfl, fun s1 hs1 => ?_⟩
   obtain ⟨h1, h2, h3, h4⟩ := hfx s1 hs1
   refine MC hT h.x.ok ha (hw s1 h1 h2 h4 ?_)
   cases own with
   | true => exact fR (h3 rfl) _
   | false => trivial
 ·cases ht
theorem mI.mono {kd : Nat} {k : Kv} {p q : V → S → Prop} (h : mI E F s0 Q L e s U xs kd k p) (m : ∀ w s', p w s' → q w s') : mI E F s0 Q L e s U xs kd k q := by
 obtain ⟨v, xs', na', tree', e', D', U', w, s', h1, h2, h3⟩ := h
 exact ⟨v, xs', na', tree', e', D', U', w, s', h1, m _ _ h2, h3⟩
theorem zl (h : XI F s0 e D U xs s) (hT : RT e tx t) {na : Nat} (hna : na = e.σ.length) {o : Oper} {k : Kv} {hx hs : List S} {fr : Bool} (hF : fr = true → ∀ y ∈ hs, U y) (hH : nT F s0 e hx hs) {tree : aB} (ht : oW C o hx fr tx xs na k = some tree) (hh : ah C.E F s0 Q tree e D U L) :
 mI C.E F s0 Q L e s U xs (al C.E.P o.op) k (fun w s' => cd C.E hs t s o (some true) = some (w, s')) := by
 unfold oW at ht
 split at ht
 ·rename_i hk
  have hstep : ∀ w, az o.op C.E t s = some (.val w s) → cd C.E hs t s o (some true) = some (w, s) := fun w hw => by
   rw [aG, hk, cu (h := hs), hw, bR]
  cases hok : zo tx o.op with
  | true =>
   rw [hok] at ht
   simp only [cond_true] at ht
   cases hn : az o.op C.E tx xs with
   | none =>
    rw [hn] at ht
    refine (mr h hT hna ht hh (hs := [s]) (fun s' hs' => by simp at hs'; subst hs'; exact ⟨h.x.fw, h.x.wf, fun _ => h.x.hk, fun _ => h.u⟩)).mono fun w s' hw => ?_
    rw [hw.1]; exact hstep w (hw.2 s (by simp))
   | some nx =>
    rw [hn] at ht
    obtain ⟨e', hex, nx', hn', hxx⟩ := Nc h.x hT hok hn
    cases hxx with
    | val hv hx' kp =>
     have h1 := xW (by rw [hk]; exact Nat.zero_le _) hn
     have h2 := xW (by rw [hk]; exact Nat.zero_le _) hn'
     subst h1; subst h2
     have he := Dh hex (by rw [← hx'.nx, ← h.x.nx])
     subst he
     exact ⟨_, _, na, tree, _, D, U, _, _, ht, hstep _ hn', Nat.le_refl _, Sg.le_refl h.x.ok, hh, hna, hv, h, .inr fun _ h => h⟩
    | skip _ _ => cases ht
    | enter _ _ => cases ht
    | panic _ _ => cases ht
  | false =>
   rw [hok] at ht
   simp only [cond_false] at ht
   refine (mr h hT hna ht hh (hs := [s]) (fun s' hs' => by simp at hs'; subst hs'; exact ⟨h.x.fw, h.x.wf, fun _ => h.x.hk, fun _ => h.u⟩)).mono fun w s' hw => ?_
   rw [hw.1]; exact hstep w (hw.2 s (by simp))
 ·rename_i hk
  have hstep : hx ≠ [] → ∀ w, (∀ s1 ∈ hs, az o.op C.E t s1 = some (.val w s1)) → cd C.E hs t s o (some true) = some (w, s) := fun hne w hw => by
   rw [aG, hk, show iI C.E hs t s o 1 = jI s (du C.E t o hs) from rfl, uL (hH.ne hne) hw]; rfl
  have hask : ∀ {tree}, (match hx with | [x] => oW.askF C o tx xs na k x true fr | [] => none | _ => oW.askF C o tx xs na k xs false fr) = some tree → ah C.E F s0 Q tree e D U L →
   mI C.E F s0 Q L e s U xs (al C.E.P o.op) k (fun w s' => cd C.E hs t s o (some true) = some (w, s')) := by
   intro tree ht hh
   split at ht
   ·rename_i x
    refine (mr h hT hna ht hh (hs := hs) (fun s' hs' => ?_)).mono fun w s' hw => ?_
    ·obtain ⟨y, hy, h1, h2, h3⟩ := hH.mem s' hs'
     simp at hy; subst hy
     exact ⟨h2, h3, fun _ => h1, fun hfr => hF hfr s' hs'⟩
    ·rw [hw.1]; exact hstep (by simp) w hw.2
   ·cases ht
   ·rename_i h1 h2
    refine (mr h hT hna ht hh (hs := hs) (fun s' hs' => ?_)).mono fun w s' hw => ?_
    ·obtain ⟨y, hy, h1, h2, h3⟩ := hH.mem s' hs'
     exact ⟨h2, h3, (fun h => by cases h), fun hfr => hF hfr s' hs'⟩
    ·rw [hw.1]; exact hstep (fun hh => h2 hh) w hw.2
  cases hok : zo tx o.op with
  | true =>
   rw [hok] at ht
   simp only [cond_true] at ht
   cases hn : du C.E tx o hx with
   | none => rw [hn] at ht; exact hask ht hh
   | some v =>
    rw [hn] at ht
    simp only at ht
    have hsp := lU hn
    have hne : hx ≠ [] := fun h0 => by subst h0; cases hn
    have hall : ∀ s1 ∈ hs, az o.op C.E t s1 = some (.val (sub e v) s1) := fun s1 hs1 => by
     obtain ⟨y, hy, h1, _, _⟩ := hH.mem s1 hs1
     obtain ⟨s2, h2⟩ := hsp y hy
     exact (Hi h1 hT hok hk h2).1
    have hrv : RV e v (sub e v) := by
     obtain ⟨y, hy⟩ := List.exists_mem_of_ne_nil hs (hH.ne hne)
     obtain ⟨z, hz, h1, _, _⟩ := hH.mem y hy
     obtain ⟨s2, h2⟩ := hsp z hz
     exact (Hi h1 hT hok hk h2).2
    exact ⟨v, xs, na, tree, e, D, U, sub e v, s, ht, hstep hne _ hall, Nat.le_refl _, Sg.le_refl h.x.ok, hh, hna, hrv, h, .inr fun _ h => h⟩
  | false =>
   rw [hok] at ht
   simp only [cond_false] at ht
   exact hask ht hh
 ·rename_i hk
  have hstep : ∀ w s', az o.op C.E t s = some (.val w s') → cd C.E hs t s o (some true) = some (w, s') := fun w s' hw => by
   rw [aG, hk, vH (h := hs), hw, sh]
  have hact : ∀ {tree}, (match oS C.E.P tx o.op with
   | some a => match kj C.E.P o na with
    | (v, n) => bif mM (na + n) xs.next v then (k v xs (na + n)).map (.act a (dc xs a.heads) n v) else none
   | none => none) = some tree → ah C.E F s0 Q tree e D U L → mI C.E F s0 Q L e s U xs (al C.E.P o.op) k (fun w s' => cd C.E hs t s o (some true) = some (w, s')) := by
   intro tree ht hh
   split at ht
   ·rename_i a ha
    generalize htm : kj C.E.P o na = tm at ht
    obtain ⟨v, n⟩ := tm
    simp only at ht
    cases hb : mM (na + n) xs.next v with
    | false => rw [hb] at ht; cases ht
    | true =>
     rw [hb] at ht
     simp only [cond_true] at ht
     exact Dq hk h hna hb ht hh fun w s' hw => by
      rcases MG rfl hT h.x.ok ha hw with h1 | ⟨h1, h2⟩
      ·exact hstep _ _ h1
      ·exact (Fl hk h1).elim
   ·cases ht
  cases hok : zo tx o.op with
  | true =>
   rw [hok] at ht
   simp only [cond_true] at ht
   cases hn : az o.op C.E tx xs with
   | none => rw [hn] at ht; exact hact ht hh
   | some nx =>
    rw [hn] at ht
    obtain ⟨e', hex, nx', hn', hxx⟩ := Nc h.x hT hok hn
    cases hxx with
    | val hv hx' kp => exact rU h hna hex hv hx' kp ht hh (hstep _ _ hn')
    | skip _ _ => cases ht
    | enter _ _ => cases ht
    | panic _ _ => cases ht
  | false =>
   rw [hok] at ht
   simp only [cond_false] at ht
   exact hact ht hh
 ·cases ht
end
section
variable {F : List Nat} {s0 : S} {e : Sg} {xs s : S} {D : List Nat} {U : S → Prop} {Q : cX → Prop} {L : List ck} {C : gX} {E : cg} {tx t : T V}
theorem RT.refine (h : RT e tx t) (ok : e.ok) {d : Tmp} {i : Nat} (hd : tx.get (eT d) = some (.atom i)) {q : Bool} (hq : e.val i = .bool q) : RT e (Go.AI.putD tx (some d) (.bool q)) t := by
 intro j v hv
 rw [ab] at hv
 by_cases hj : d = j
 ·rw [if_pos hj] at hv
  cases hv
  subst hj
  obtain ⟨w, h1, h2⟩ := h d _ hd
  have h3 := h2 e (Sg.le_refl ok)
  simp only [sub, hq] at h3
  subst h3
  exact ⟨_, h1, fun _ _ => rfl⟩
 ·rw [if_neg hj] at hv; exact h j v hv
theorem lH (h : RT e tx t) (ok : e.ok) {ops : Array Oper} {o : Oper} {b : Bool} (hw : aM ops tx o = some b) : aM ops t o = some b := by
 unfold aM at hw ⊢
 cases hg : o.guard with
 | none => rw [hg] at hw; exact hw
 | some p =>
  obtain ⟨j, want⟩ := p
  rw [hg] at hw
  simp only at hw ⊢
  cases hd : (ops[j]?).bind (·.dst) with
  | none => rw [hd] at hw; cases hw
  | some d =>
   rw [hd] at hw
   simp only at hw ⊢
   split at hw
   ·rename_i q hq
    obtain ⟨w, h1, h2⟩ := h d _ hq
    have h3 := h2 e (Sg.le_refl ok)
    simp only [sub] at h3; subst h3
    rw [h1]; exact hw
   ·rename_i l hq
    obtain ⟨w, h1, h2⟩ := h d _ hq
    have h3 := h2 e (Sg.le_refl ok)
    simp only [sub] at h3; subst h3
    rw [h1]; exact hw
   ·cases hw
theorem vU {i : Nat} {a b : Option aB} {tree : aB} (h : HQ i a b = some tree) : ∃ x y, a = some x ∧ b = some y ∧ tree = .cond i x y := by
 unfold HQ at h
 split at h
 ·split at h
  ·cases h; exact ⟨_, _, rfl, rfl, rfl⟩
  ·cases h
 ·cases h
theorem sX {d : Tmp} {i : Nat} (h : wl tx (some d) = some i) : tx.get (eT d) = some (.atom i) := by
 unfold wl at h
 simp only at h
 split at h
 ·rename_i j hj; cases h; exact hj
 ·cases h
theorem jc {ops : Array Oper} {o : Oper} {k : T V → Option aB} (ok : e.ok) : ∀ (n : Nat) {tx : T V} {tree : aB}, qY ops o k n tx = some tree → ah E F s0 Q tree e D U L → RT e tx t →
 ∃ tx' tree', k tx' = some tree' ∧ ah E F s0 Q tree' e D U L ∧ RT e tx' t
 | 0, tx, tree, h, hh, hT => ⟨tx, tree, h, hh, hT⟩
 | n + 1, tx, tree, h, hh, hT => by
  simp only [qY] at h
  split at h
  ·rename_i d hd
   split at h
   ·rename_i i hi
    obtain ⟨x, y, h1, h2, rfl⟩ := vU h
    obtain ⟨q, hq, ha, hb⟩ := hh
    cases q with
    | true => exact jc ok n h1 (ha rfl) (hT.refine ok (sX hi) hq)
    | false => exact jc ok n h2 (hb rfl) (hT.refine ok (sX hi) hq)
   ·cases h
  ·exact ⟨tx, tree, h, hh, hT⟩
def TF (C : gX) (F : List Nat) (s0 : S) (Q : cX → Prop) (L : List ck) (k : Kx) (R : T V → S → Prop) : Prop :=
 ∀ tx xs na tree e D U t s, k tx xs na = some tree → ah C.E F s0 Q tree e D U L → na = e.σ.length → RT e tx t → XI F s0 e D U xs s → R t s
theorem oV {ops : Array Oper} {k : Kx} {R : T V → S → Prop} (hk : TF C F s0 Q L k R) : ∀ (l : List Oper) (tx : T V) (xs : S) (na : Nat) (tree : aB) (e : Sg) (D : List Nat) (U : S → Prop) (t : T V) (s : S),
 JE C ops k l tx xs na = some tree → ah C.E F s0 Q tree e D U L → na = e.σ.length → RT e tx t → XI F s0 e D U xs s →
 (∃ t' s', gG C.E ops (bq (lim C.E)) (dW (lim C.E)) none l t [] none s = some (.on t' [] none s') ∧ R t' s') ∨
 (∃ c t' s', gG C.E ops (bq (lim C.E)) (dW (lim C.E)) none l t [] none s = some (.panicked c t' [] none s') ∧ Q ⟨.panicked c, none, s'⟩)
 | [], tx, xs, na, tree, e, D, U, t, s, h, hh, hn, hT, hI => .inl ⟨t, s, rfl, hk _ _ _ _ _ _ _ _ _ h hh hn hT hI⟩
 | o :: r, tx, xs, na, tree, e, D, U, t, s, h, hh, hn, hT, hI => by
  simp only [JE] at h
  obtain ⟨tx, tree, h, hh, hT⟩ := jc hI.x.ok 2 h hh hT
  rw [ae]
  split at h
  ·rename_i hw
   rw [lH hT hI.x.ok hw, af]
   rcases sg hI hT hn h hh with ⟨v, xs', na', tree', e', D', U', w, s', h1, h2, h3, h4, h5, h6, h7, h8⟩ | ⟨_, c, s', h1, h2⟩
   ·have ih := oV hk r _ _ _ _ _ _ _ _ _ h1 h5 h6 ((hT.mono h4).putD h7 o.dst) h8
    cases h2 with
    | val h9 => rw [h9, ak]; exact ih
    | skip h9 h10 => subst h10; rw [h9, fe]; exact ih
    | enter f args s1 h9 h10 =>
     rw [h9, bM]
     show (∃ t' s'', eH o.dst t [] none _ (lim C.E (.call f args none) s1) = _ ∧ _) ∨ _
     rw [show bq (lim C.E) f args none s1 = lim C.E (.call f args none) s1 from rfl, h10, cx]
     exact ih
    | round l args s1 u h0 h9 h10 =>
     rw [h9, Al, show dW (lim C.E) l args s1 = lim C.E (.round l args) s1 from rfl, h10, cx]
     exact ih
   ·cases h1 with
    | panic v h3 h4 => subst h4; rw [h3, qj]; exact .inr ⟨_, _, _, rfl, h2⟩
    | enter f args s1 h3 h4 =>
     rw [h3, bM, show bq (lim C.E) f args none s1 = lim C.E (.call f args none) s1 from rfl, h4, ss]
     exact .inr ⟨_, _, _, rfl, h2⟩
  ·rename_i hw
   rw [lH hT hI.x.ok hw, qh]
   exact oV hk r _ _ _ _ _ _ _ _ _ h hh hn (hT.putD (v := V.undef) (w := V.undef) (fun _ _ => rfl) o.dst) hI
  ·cases h
theorem xP {o : Oper} {w : V} {s' : S} (h : oT C.E false t s o w s') : dH C.E (bq (lim C.E)) t s o (some true) = some (w, s') := by
 rw [dG]
 cases h with
 | val h1 => rw [h1, yE]
 | skip h1 h2 => rw [h1, gg, h2]
 | enter f args s1 h1 h2 =>
  rw [h1, iL]
  show nG (lim C.E (.call f args none) s1) = _
  rw [h2, jV]
 | round l args s1 u h0 h1 h2 => cases h0
theorem zm (h : XI F s0 e D U xs s) {na : Nat} (hna : na = e.σ.length) {f : FuncId} {args : List V} {ty : TypeId} {k : Kv} {tree : aB} (ht : DZ C f args ty xs na k = some tree) (hh : ah C.E F s0 Q tree e D U L) :
 ∃ v na' tree' e' w s', k v xs na' = some tree' ∧ lim C.E (.call f (args.map (sub e)) none) s = some ⟨.returned w, none, s'⟩ ∧ s.next ≤ s'.next ∧ e.le e' ∧ ah C.E F s0 Q tree' e' D U L ∧ na' = e'.σ.length ∧ RV e' v w ∧ XI F s0 e' D U xs s' := by
 unfold DZ at ht
 generalize htm : BP C.E.P 12 ty na = tm at ht
 obtain ⟨v, n⟩ := tm
 simp only at ht
 cases hb : mM (na + n) xs.next v with
 | false => rw [hb] at ht; cases ht
 | true =>
  rw [hb] at ht
  simp only [cond_true] at ht
  obtain ⟨tr, h1, rfl⟩ := lY (α := Nat) ht
  obtain ⟨vs, s', hl, hv, hr, hw, hk⟩ := hh s h.x.fw h.x.wf h.u (fR h.x.hk _)
  have hle := pI h.x.ok hv
  have hx := h.x.called (l := []) (na := na + n) hv rfl (by rw [bump hna hl]; exact Nat.le_refl _) (W := []) (by simpa [fk] using hw) trivial (by simp) (by simp)
  exact ⟨v, na + n, tr, e.add vs, _, s', h1, hr, hw.next, hle, hk, bump hna hl, ph hle.ok (by rw [bump hna hl]; exact Nat.le_refl _) (by rw [h.x.nx]; exact Nat.le_refl _) hb,
   ⟨hx, h.st s s' h.u (fun g hg B hB => hw.keep g B (by simp) hB) hw.next, h.st, fun g hg => ⟨Nat.lt_of_lt_of_le (h.d g hg).1 hw.next, (h.d g hg).2.1, (h.d g hg).2.2⟩⟩⟩
theorem AH {o : Oper} {f : FuncId} {args : List V} (h : tP C o tx xs = some (f, args)) : zo tx o.op = true ∧ ∃ s1, az o.op C.E tx xs = some (.enter f args s1) := by
 unfold tP at h
 split at h
 ·rename_i f' args' s1 hs
  cases hp : Hq C f' with
  | false => rw [hp] at h; cases h
  | true =>
   rw [hp] at h; cases h
   cases hx : zo tx o.op with
   | false => rw [hx] at hs; cases hs
   | true => rw [hx] at hs; exact ⟨rfl, s1, hs⟩
 ·cases h
theorem ic {ops : Array Oper} {k : Kx} {R : T V → S → Prop} (hk : TF C F s0 Q L k R) : ∀ (sc : List (Option Nat × Nat)) (hx hs : List S) (uc : Nat) (tx : T V) (xs : S) (na : Nat) (tree : aB) (e : Sg) (D : List Nat) (U : S → Prop) (t : T V) (s : S),
 zk C ops k sc hx uc tx xs na = some tree → ah C.E F s0 Q tree e D U L → na = e.σ.length → RT e tx t → XI F s0 e D U xs s → nT F s0 e hx hs → (∀ y ∈ hs.take uc, U y) →
 ∃ t' s', cO C.E ops (bq (lim C.E)) [] none sc hs t s = some (.on t' [] none s') ∧ R t' s'
 | [], hx, hs, uc, tx, xs, na, tree, e, D, U, t, s, h, hh, hn, hT, hI, hH, hF => ⟨t, s, rfl, hk _ _ _ _ _ _ _ _ _ h hh hn hT hI⟩
 | (c, i) :: r, hx, hs, uc, tx, xs, na, tree, e, D, U, t, s, h, hh, hn, hT, hI, hH, hF => by
  simp only [zk] at h
  split at h
  ·cases h
  ·rename_i o ho
   obtain ⟨tx, tree, h, hh, hT⟩ := jc hI.x.ok 2 h hh hT
   have hund : ∀ d, RT e (putD tx d V.undef) (putD t d V.undef) := fun d => hT.putD (fun _ _ => rfl) d
   split at h
   ·rename_i hw
    have hw' := lH hT hI.x.ok hw
    cases c with
    | some c =>
     obtain ⟨v, xs', na', tree', e', D', U', w, s', h1, h2, h3, h4, h5, h6, h7, h8, h8u⟩ := zl hI hT hn (fun hfr y hy => by
      have hle := Nat.le_of_ble_eq_true hfr
      rw [(hH.take c).len] at hle
      refine hF y ?_
      have h9 : y ∈ (hs.take c).take uc := by rw [List.take_of_length_le hle]; exact hy
      rw [List.take_take] at h9
      exact List.mem_of_mem_take (by rw [Nat.min_comm, ← List.take_take] at h9; exact h9)) (hH.take c) h hh
     obtain ⟨t', s'', h9, h10⟩ := ic hk r hx hs _ _ _ _ _ _ _ _ _ _ h1 h5 h6 ((hT.mono h4).putD h7 o.dst) h8 (hH.mono h4) (by
      rcases h8u with ⟨hk2, hnx⟩ | h8u
      ·have : (Nat.beq (al C.E.P o.op) 2 && Nat.beq xs'.next xs.next) = true := by rw [hk2, hnx, Nat.beq_refl, Nat.beq_refl]; rfl
       rw [this]; intro y hy; simp at hy
      ·cases hb : (Nat.beq (al C.E.P o.op) 2 && Nat.beq xs'.next xs.next) with
       | true => intro y hy; simp at hy
       | false => intro y hy; exact h8u y (hF y hy))
     refine ⟨t', s'', ?_, h10⟩
     simp only [cO, ho, hw', h2]
     exact h9
    | none =>
     simp only at h
     have plain : ∀ {tree}, Bu C o tx xs na false (fun v xs na => zk C ops k r (xs :: hx) (bif C.uf then 1 else 0) (putD tx o.dst v) xs na) = some tree → ah C.E F s0 Q tree e D U L → ∃ t' s', cO C.E ops (bq (lim C.E)) [] none ((none, i) :: r) hs t s = some (.on t' [] none s') ∧ R t' s' := by
      intro tree h hh
      rcases sg hI hT hn h hh with ⟨v, xs', na', tree', e', D', U', w, s', h1, h2, h3, h4, h5, h6, h7, h8⟩ | ⟨h1, _⟩
      ·obtain ⟨t', s'', h9, h10⟩ := ic hk r (xs' :: hx) (s' :: hs) _ _ _ _ _ _ _ _ _ _ h1 h5 h6 ((hT.mono h4).putD h7 o.dst) h8 (.cons h8.x.hk h8.x.fw h8.x.wf (hH.mono h4)) (by
        cases C.uf with
        | false => intro y hy; simp at hy
        | true => intro y hy; simp at hy; subst hy; exact h8.u)
       refine ⟨t', s'', ?_, h10⟩
       simp only [cO, ho, hw', xP h2, Nat.ble_eq_true_of_le h3, cond_true]
       exact h9
      ·cases h1
     cases hus : C.us with
     | false => rw [hus] at h; exact plain h hh
     | true =>
      rw [hus] at h
      simp only [cond_true] at h
      cases hen : tP C o tx xs with
      | none => rw [hen] at h; exact plain h hh
      | some p =>
       obtain ⟨f, args⟩ := p
       rw [hen] at h
       simp only at h
       obtain ⟨hok, s1, hdo⟩ := AH hen
       obtain ⟨e1, hex, nx', hn', hxx⟩ := Nc hI.x hT hok hdo
       cases hxx with
       | enter ha hx' =>
        have he := Dh hex (by rw [← hx'.nx, ← hI.x.nx])
        subst he
        rw [← ha _ (Sg.le_refl hI.x.ok)] at hn'
        obtain ⟨v, na', tree', e', w, s', h1, h2, h3, h4, h5, h6, h7, h8⟩ := zm hI hn h hh
        obtain ⟨t', s'', h9, h10⟩ := ic hk r (xs :: hx) (s' :: hs) _ _ _ _ _ _ _ _ _ _ h1 h5 h6 ((hT.mono h4).putD h7 o.dst) h8 (.cons h8.x.hk h8.x.fw h8.x.wf (hH.mono h4)) (by
         intro y hy
         rw [List.take_succ_cons] at hy
         rcases List.mem_cons.1 hy with rfl | hy
         ·exact h8.u
         ·exact hF y hy)
        refine ⟨t', s'', ?_, h10⟩
        simp only [cO, ho, hw', xP (oT.enter (pl := false) _ _ _ hn' h2), Nat.ble_eq_true_of_le h3, cond_true]
        exact h9
   ·rename_i hw
    have hw' := lH hT hI.x.ok hw
    cases c with
    | some c =>
     obtain ⟨t', s'', h9, h10⟩ := ic hk r hx hs _ _ _ _ _ _ _ _ _ _ h hh hn (hund o.dst) hI hH hF
     refine ⟨t', s'', ?_, h10⟩
     simp only [cO, ho, hw', cd]
     exact h9
    | none =>
     obtain ⟨t', s'', h9, h10⟩ := ic hk r (xs :: hx) (s :: hs) _ _ _ _ _ _ _ _ _ _ h hh hn (hund o.dst) hI (.cons hI.x.hk hI.x.fw hI.x.wf hH) (by
      cases C.uf with
      | false => intro y hy; simp at hy
      | true => intro y hy; simp at hy; subst hy; exact hI.u)
     refine ⟨t', s'', ?_, h10⟩
     simp only [cO, ho, hw', dH, Nat.ble_eq_true_of_le (Nat.le_refl _), cond_true]
     exact h9
   ·cases h
end
theorem jR {α β : Type} (g : α → β) (d : α) (d' : β) : ∀ (l : List α) (i : Nat), i < l.length → (l.map g).getD i d' = g (l.getD i d)
 | [], i, h => by simp at h
 | x :: r, 0, _ => rfl
 | x :: r, i + 1, h => by simpa using jR g d d' r i (by simpa using h)
mutual
theorem mQ (e : Sg) (vs : List V) (bs : List Nat) : ∀ v : V, mM vs.length bs.length v = true → sub ⟨vs.map (sub e), bs.map e.bl⟩ v = sub e (sub ⟨vs, bs⟩ v)
 | .ptr x, hb => by
  have := Nat.le_of_ble_eq_true hb
  simp only [sub, ig, Sg.bl, jR e.bl 0 0 bs x.f (by omega)]
 | .slice x z n c sz, hb => by
  have := Nat.le_of_ble_eq_true hb
  simp only [sub, ig, Sg.bl, jR e.bl 0 0 bs x.f (by omega)]
 | .map r, hb => by
  have := Nat.le_of_ble_eq_true hb
  simp only [sub, Sg.bl, jR e.bl 0 0 bs r (by omega)]
 | .func fn fi ca, hb => by
  simp only [mM, Bool.and_eq_true] at hb
  have hf : mw ⟨vs.map (sub e), bs.map e.bl⟩ fn = mw e (mw ⟨vs, bs⟩ fn) := by
   cases fn with
   | yield l =>
    have := Nat.le_of_ble_eq_true hb.1.1
    simp only [mw, Sg.bl, jR e.bl 0 0 bs l (by omega)]
   | _ => rfl
  simp only [sub, hf, jr e vs bs fi hb.1.2, jr e vs bs ca hb.2]
 | .iface ty v, hb => by simp only [sub, mQ e vs bs v hb]
 | .agg l, hb => by simp only [sub, jr e vs bs l hb]
 | .tuple l, hb => by simp only [sub, jr e vs bs l hb]
 | .atom i, hb => by
  have := Nat.le_of_ble_eq_true hb
  simp only [sub, Sg.val, jR (sub e) .nilptr .nilptr vs i (by omega)]
 | .bool _, _ | .int .., _ | .str _, _ | .nilptr, _ | .nilslice, _ | .nilmap, _ | .nilFunc, _ | .nilIface, _ => rfl
theorem jr (e : Sg) (vs : List V) (bs : List Nat) : ∀ l : List V, xu vs.length bs.length l = true → gZ ⟨vs.map (sub e), bs.map e.bl⟩ l = gZ e (gZ ⟨vs, bs⟩ l)
 | [], _ => rfl
 | v :: r, hb => by
  simp only [xu, Bool.and_eq_true] at hb
  simp only [gZ, mQ e vs bs v hb.1, jr e vs bs r hb.2]
end
theorem EO {B C : bP} (h : Hc B C = true) : B = C := by
 unfold Hc at h
 split at h
 ·simp only [Bool.and_eq_true, beq_iff_eq] at h
  obtain ⟨⟨⟨⟨⟨h1, h2⟩, h3⟩, h4⟩, h5⟩, h6⟩ := h
  rw [Nat.eq_of_beq_eq_true h1, h2, Nat.eq_of_beq_eq_true h3, Nat.eq_of_beq_eq_true h4, Nat.eq_of_beq_eq_true h5, cw h6]
 ·cases h
theorem yg : ∀ {l : List (Nat × V)} {i : Nat} {v : V}, (mC l).get (eT i) = some v → (i, v) ∈ l
 | [], i, v, h => by simp [mC, T.get_leaf] at h
 | (j, w) :: r, i, v, h => by
  simp only [mC, T.setK_eq, id] at h
  rw [T.get_setN] at h
  split at h
  ·rename_i hj; cases h; subst hj; simp
  ·exact List.mem_cons_of_mem _ (yg h)
theorem pp : ∀ (l : List bP) (s : S), (br s l).next = s.next + l.length
 | [], s => rfl
 | B :: r, s => by simp only [br, pp r, S.next_alloc, List.length_cons]; omega
theorem rA : ∀ (l : List bP) (s : S) {f : Nat} {B : bP}, (∀ g C, s.get g = some C → g < s.next) → (br s l).get f = some B → (s.get f = some B ∧ f < s.next) ∨ (s.next ≤ f ∧ l[f - s.next]? = some B)
 | [], s, f, B, hd, h => .inl ⟨h, hd f B h⟩
 | C :: r, s, f, B, hd, h => by
  have hd' : ∀ g K, (s.alloc C).get g = some K → g < (s.alloc C).next := fun g K hK => by
   rw [S.get_alloc] at hK; rw [S.next_alloc]
   split at hK
   ·omega
   ·have := hd g K hK; omega
  rcases rA r (s.alloc C) hd' h with ⟨h1, h2⟩ | ⟨h1, h2⟩
  ·rw [S.get_alloc] at h1
   split at h1
   ·rename_i hf; cases h1; subst hf; exact .inr ⟨Nat.le_refl _, by simp⟩
   ·exact .inl ⟨h1, hd f B h1⟩
  ·rw [S.next_alloc] at h1 h2
   refine .inr ⟨by omega, ?_⟩
   rw [show f - s.next = (f - (s.next + 1)) + 1 by omega]
   simpa using h2
theorem kX : ∀ {l : List Nat}, iM l = true → ∀ i j, i < l.length → j < l.length → l.getD i 0 = l.getD j 0 → i = j
 | [], _, i, j, hi, _, _ => by simp at hi
 | x :: r, h, i, j, hi, hj, he => by
  simp only [iM, Bool.and_eq_true, Bool.not_eq_true', List.contains_eq_mem, decide_eq_false_iff_not] at h
  cases i with
  | zero =>
   cases j with
   | zero => rfl
   | succ j =>
    simp only [List.getD_cons_zero, List.getD_cons_succ] at he
    have hj' : j < r.length := by simpa using hj
    exact absurd (by rw [he, List.getD_eq_getElem?_getD, List.getElem?_eq_getElem hj']; exact List.getElem_mem _) h.1
  | succ i =>
   have hi' : i < r.length := by simpa using hi
   cases j with
   | zero =>
    simp only [List.getD_cons_zero, List.getD_cons_succ] at he
    exact absurd (by rw [← he, List.getD_eq_getElem?_getD, List.getElem?_eq_getElem hi']; exact List.getElem_mem _) h.1
   | succ j =>
    simp only [List.getD_cons_succ] at he
    rw [kX h.2 i j hi' (by simpa using hj) he]
theorem nw {tx : T V} {q : Sg} : ∀ {l : List (Nat × V)}, oj tx q l = true → ∀ x ∈ l, tx.get (eT x.1) = some (sub q x.2)
 | [], _, x, hx => by cases hx
 | (i, v) :: r, h, x, hx => by
  simp only [oj, Bool.and_eq_true] at h
  rcases List.mem_cons.1 hx with rfl | hx
  ·have h1 := h.1
   split at h1
   ·rename_i w hw
    have := cw h1
    cases this; exact hw
   ·cases h1
  ·exact nw h.2 x hx
theorem oJ {xs : S} {q : Sg} : ∀ {bs : List Nat} {l : List bP}, qA xs q bs l = true → bs.length = l.length ∧ ∀ i B, l[i]? = some B → xs.get (bs.getD i 0) = some (hQ q B)
 | [], [], _ => ⟨rfl, fun i B h => by simp at h⟩
 | f :: fs, B :: r, h => by
  simp only [qA, Bool.and_eq_true] at h
  obtain ⟨h1, h2⟩ := oJ h.2
  refine ⟨by simp [h1], fun i C hC => ?_⟩
  cases i with
  | zero =>
   simp at hC; subst hC
   have h3 := h.1
   split at h3
   ·rename_i K hK; rw [EO h3]; exact hK
   ·cases h3
  | succ i => simpa using h2 i C (by simpa using hC)
 | [], _ :: _, h => by cases h
 | _ :: _, [], h => by cases h
section
variable {F : List Nat} {s0 : S} {e : Sg} {xs s : S} {D : List Nat} {U : S → Prop} {Q : cX → Prop} {C : gX} {tx t : T V}
theorem rW {bs : List Nat} {vs : List V} {f : Nat} (hf : f < bs.length) : Sg.bl ⟨vs, bs.map e.bl⟩ f = e.bl (bs.getD f 0) := jR e.bl 0 0 bs f hf
theorem Il {vs : List V} {bs : List Nat} {B : bP} (hb : xv vs.length bs.length B = true) : hQ ⟨vs.map (sub e), bs.map e.bl⟩ B = hQ e (hQ ⟨vs, bs⟩ B) := by
 cases B with
 | cells el sb nv vers =>
  simp only [xv, List.all_eq_true] at hb
  simp only [hQ, List.map_map, bP.cells.injEq, true_and]
  refine List.map_congr_left fun u hu => ?_
  have := jr e vs bs u.cells (hb u hu)
  simp only [de] at this
  simp only [eu, Function.comp, this]
 | map es c =>
  simp only [xv, List.all_eq_true, Bool.and_eq_true] at hb
  simp only [hQ, List.map_map, bP.map.injEq, and_true]
  refine List.map_congr_left fun u hu => ?_
  simp only [EC, Function.comp, mQ e vs bs _ (hb u hu).1, mQ e vs bs _ (hb u hu).2]
 | _ => cases hb
theorem pA {R : eW} {vs : List V} {bs : List Nat} (hf : fits R tx xs vs bs = true) (h : XI F s0 e D U xs s) (hT : RT e tx t) {U' : S → Prop} (hst : iA D U') (hu : U' s) :
 vs.length = R.na ∧ bs.length = R.blks.length ∧ RT ⟨vs.map (sub e), bs.map e.bl⟩ (mC R.slots) t ∧ XI F s0 ⟨vs.map (sub e), bs.map e.bl⟩ D U' (br ⟨.leaf, 0⟩ R.blks) s := by
 simp only [fits, Bool.and_eq_true, List.all_eq_true] at hf
 obtain ⟨⟨⟨⟨⟨⟨⟨h1, h2⟩, h3⟩, h4⟩, h5⟩, h6⟩, h7⟩, h8⟩ := hf
 have hl := Nat.eq_of_beq_eq_true h1
 obtain ⟨hbl, hblk⟩ := oJ h8
 have hok : Sg.ok ⟨vs.map (sub e), bs.map e.bl⟩ := fun v hv => by
  simp only [List.mem_map] at hv
  obtain ⟨u, hu, rfl⟩ := hv
  rw [zD h.x.ok]; exact h2 u hu
 have hdom0 : ∀ g C, (S.mk (.leaf) 0).get g = some C → g < (S.mk (T.leaf) 0).next := fun g C hC => by
  rw [S.get_eq, T.get_leaf] at hC; cases hC
 have hget : ∀ {f B}, (br ⟨.leaf, 0⟩ R.blks).get f = some B → R.blks[f]? = some B ∧ f < bs.length := fun {f B} hB => by
  rcases rA R.blks _ hdom0 hB with ⟨_, hh⟩ | ⟨_, hh⟩
  ·simp at hh
  ·simp at hh
   exact ⟨hh, by rw [hbl]; exact (List.getElem?_eq_some_iff.1 hh).1⟩
 have hbs : ∀ f, f < bs.length → bs.getD f 0 < xs.next := fun f hf => by
  have := h4 (bs.getD f 0) (by rw [List.getD_eq_getElem?_getD, List.getElem?_eq_getElem hf]; exact List.getElem_mem _)
  exact Nat.le_of_ble_eq_true this
 have hnx : (br ⟨.leaf, 0⟩ R.blks).next = bs.length := by rw [pp, hbl]; simp
 refine ⟨hl, hbl, fun i v hv => ?_, ⟨⟨hok, by rw [hnx]; simp, h.x.wf0, h.x.fw, fun f B hB => by rw [hnx]; exact (hget hB).2, fun e' he f B hB => ?_, fun f g hf hg hh => ?_, fun f hf => ?_, fun f hf => ?_⟩, hu, hst, fun g hg => ⟨(h.d g hg).1, (h.d g hg).2.1, fun f hf => ?_⟩⟩⟩
 ·have hm := yg hv
  have h9 := nw h7 _ hm
  obtain ⟨w, hw1, hw2⟩ := hT i _ h9
  have hb := h5 _ hm
  simp only at hb
  rw [← hl] at hb
  refine ⟨w, hw1, fun e' he => ?_⟩
  rw [nX he (by simp) (by simp) v hb, mQ e vs bs v hb]
  exact hw2 e (Sg.le_refl h.x.ok)
 ·obtain ⟨hB1, hB2⟩ := hget hB
  have hb := h6 B (List.mem_of_getElem? hB1)
  rw [← hl] at hb
  have h9 := hblk f B hB1
  have h10 := (h.x.k e (Sg.le_refl h.x.ok) _ _ h9).1
  refine ⟨?_, hb.2⟩
  rw [uk he (by simp) (by simp) hb.1, Il hb.1, he.bl (f := f) (by simpa using hB2), rW hB2]
  exact h10
 ·rw [hnx] at hf hg
  rw [rW hf, rW hg] at hh
  exact kX h3 f g hf hg (h.x.inj _ _ (hbs f hf) (hbs g hg) hh)
 ·rw [hnx] at hf
  rw [rW hf]; exact h.x.hi _ (hbs f hf)
 ·rw [hnx] at hf
  rw [rW hf]; exact h.x.lt _ (hbs f hf)
 ·rw [hnx] at hf
  rw [rW hf]; exact (h.d g hg).2.2 _ (hbs f hf)
theorem Cp (h : XR F s0 e xs s) (hT : RT e tx t) {P : Program} {r : ResultVar} {v : V} (hr : fX P tx xs r = some v) : fX P t s r = some (sub e v) := by
 cases r with
 | tmp i =>
  obtain ⟨w, h1, h2⟩ := hT i v hr
  simp only [fX, h1, h2 e (Sg.le_refl h.ok)]
 | cell a ty =>
  simp only [fX] at hr ⊢
  split at hr
  ·rename_i p hp
   obtain ⟨w, h1, h2⟩ := hT a _ hp
   have h3 := h2 e (Sg.le_refl h.ok)
   simp only [sub] at h3; subst h3
   simp only [h1]
   exact nr (P := P) h.hk hr e (Sg.le_refl h.ok)
  ·cases hr
theorem sk (h : XR F s0 e xs s) (hT : RT e tx t) {P : Program} : ∀ {l : List ResultVar} {vs : List V}, fC P tx xs l = some vs → fC P t s l = some (vs.map (sub e))
 | [], vs, hr => by cases hr; rfl
 | r :: l, vs, hr => by
  simp only [fC] at hr
  split at hr
  ·rename_i v hv
   split at hr
   ·rename_i ws hws; cases hr; simp only [fC, Cp h hT hv, sk h hT hws, List.map_cons]
   ·cases hr
  ·cases hr
theorem IN (l : List V) : qi (l.map (sub e)) = sub e (qi l) := by
 match l with
 | [] => rfl
 | [v] => rfl
 | v :: w :: r => simp only [qi, List.map_cons, sub, gZ, de]
theorem Cn (h : XR F s0 e xs s) (hT : RT e tx t) {P : Program} {fn : Func} {v : V} (hr : cJ P fn tx xs = some v) : cJ P fn t s = some (sub e v) := by
 unfold cJ at hr ⊢
 split at hr
 ·rename_i l hl; cases hr; rw [sk h hT hl, ← IN]
 ·cases hr
def iB : List Item → Nat → Option (List Item)
 | [], _ => none
 | .inLoop c :: r, d => bif Nat.beq (depth r) d then some (.inLoop c :: r) else iB r d
 | _ :: r, d => iB r d
theorem zC : ∀ {l : List Item} {d : Nat} {x : List Item}, iB l d = some x → d < depth l
 | [], d, x, h => by cases h
 | i :: r, d, x, h => by
  cases i with
  | inLoop c =>
   simp only [iB] at h
   simp only [depth]
   revert h
   cases hb : Nat.beq (depth r) d with
   | true => intro _; have := Nat.eq_of_beq_eq_true hb; omega
   | false => intro h; have := zC h; omega
  | _ => exact zC (l := r) h
theorem uj {i : Item} {r : List Item} {d : Nat} {x : List Item} (h : iB r d = some x) : iB (i :: r) d = some x := by
 cases i with
 | inLoop c =>
  have := zC h
  simp only [iB]
  cases hb : Nat.beq (depth r) d with
  | true => have := Nat.eq_of_beq_eq_true hb; omega
  | false => exact h
 | _ => exact h
theorem pF (i : Item) (r : List Item) : depth r ≤ depth (i :: r) := by
 cases i <;> simp only [depth] <;> omega
theorem Dg {id : Nat} : ∀ {k k' : List Item}, exitTo id k = some k' → depth k' ≤ depth k ∧ ∀ d x, iB k' d = some x → iB k d = some x
 | [], k', h => by cases h
 | i :: r, k', h => by
  have htail : exitTo id r = some k' → depth k' ≤ depth (i :: r) ∧ ∀ d x, iB k' d = some x → iB (i :: r) d = some x := fun h => by
   obtain ⟨h1, h2⟩ := Dg h
   exact ⟨Nat.le_trans h1 (pF i r), fun d x hx => uj (h2 d x hx)⟩
  cases i with
  | inBlock id' =>
   simp only [exitTo] at h
   split at h
   ·cases h; exact ⟨pF _ _, fun d x hx => uj hx⟩
   ·exact htail h
  | _ => exact htail h
structure wy (C : gX) (F : List Nat) (s0 : S) (Q : cX → Prop) (f : FuncId) (L : List eW) (Lp : List ck) (todo : List Item) : Prop where
 len : L.length = Lp.length
 dep : depth todo ≤ L.length
 ok : ∀ d R P x, L[d]? = some R → Lp[d]? = some P → iB todo d = some x → ∀ vs bs D U t s, P vs bs D U → vs.length = R.na → bs.length = R.blks.length → RT ⟨vs, bs⟩ (mC R.slots) t → XI F s0 ⟨vs, bs⟩ D U (br ⟨.leaf, 0⟩ R.blks) s →
  Wp C.E f C.fn t x [] none none s Q
theorem wy.sub {f : FuncId} {L : List eW} {Lp : List ck} {a b : List Item} (h : wy C F s0 Q f L Lp a) (hd : depth b ≤ depth a) (hs : ∀ d x, iB b d = some x → iB a d = some x) : wy C F s0 Q f L Lp b :=
 ⟨h.len, Nat.le_trans hd h.dep, fun d R P x h1 h2 h3 => h.ok d R P x h1 h2 (hs d x h3)⟩
theorem PF {f : FuncId} {fn : Func} {E : cg} {v : V} (hv : cJ E.P fn t s = some v) (h : Q ⟨.returned v, none, s⟩) : Wp E f fn t [] [] none none s Q := ⟨_, QE hv, h⟩
theorem Nh {f : FuncId} {fn : Func} {E : cg} {k : List Item} {v : V} (hv : cJ E.P fn t s = some v) (h : Q ⟨.returned v, none, s⟩) : Wp E f fn t (.code .ret :: k) [] none none s Q := ⟨_, Ax hv, h⟩
theorem uJ {Lp : List ck} {tree : aB} (ht : cb.retT C tx xs = some tree) (hh : ah C.E F s0 Q tree e D U Lp) (hT : RT e tx t) (h : XI F s0 e D U xs s) : ∃ v, cJ C.E.P C.fn t s = some v ∧ Q ⟨.returned v, none, s⟩ := by
 unfold cb.retT at ht
 split at ht
 ·rename_i v hv
  cases ht
  exact ⟨_, Cn h.x hT hv, hh s h.x.fw h.x.wf h.u (fR h.x.hk _)⟩
 ·cases ht
theorem ua {Lp : List ck} {A : aH} {bk : List (Nat × List Nat)} {k : eW → Option aB} {tree : aB} (h : GH tx xs A bk k = some tree) (hh : ah C.E F s0 Q tree e D U Lp) (hT : RT e tx t) (hI : XI F s0 e D U xs s) :
 ∃ R tr e' D' U', k R = some tr ∧ ah C.E F s0 Q tr e' D' U' Lp ∧ R.na = e'.σ.length ∧ RT e' (mC R.slots) t ∧ XI F s0 e' D' U' (br ⟨.leaf, 0⟩ R.blks) s := by
 unfold GH at h
 split at h
 ·rename_i sl l hsl
  split at h
  ·rename_i bl l2 hbl
   simp only at h
   cases hfit : fits ⟨sl, bl, l2.length⟩ tx xs l2 (bk.map (·.1)) with
   | false => rw [hfit] at h; cases h
   | true =>
    rw [hfit] at h
    simp only [cond_true] at h
    obtain ⟨tr, htr, rfl⟩ := lY (α := Nat) h
    obtain ⟨P, ⟨U0, hst0, hu0, hP0⟩, hstep⟩ := hh
    obtain ⟨g1, g2, g3, g4⟩ := pA hfit hI hT hst0 (hu0 s hI.x.fw hI.x.wf hI.u)
    exact ⟨_, tr, _, _, _, htr, hstep _ _ _ _ hP0 (by rw [List.length_map]) (List.all_eq_true.2 fun v hv => g4.x.ok v hv) (by rw [List.length_map]), by simp, g3, g4⟩
  ·cases h
 ·cases h
theorem tZ {f : FuncId} : ∀ (n : Nat) (L : List eW) (todo : List Item) (tx : T V) (xs : S) (na : Nat) (tree : aB) (e : Sg) (D : List Nat) (U : S → Prop) (Lp : List ck) (t : T V) (s : S),
 cb C n L todo tx xs na = some tree → ah C.E F s0 Q tree e D U Lp → na = e.σ.length → RT e tx t → XI F s0 e D U xs s → wy C F s0 Q f L Lp todo → Wp C.E f C.fn t todo [] none none s Q
 | 0, L, todo, tx, xs, na, tree, e, D, U, Lp, t, s, h, hh, hn, hT, hI, hL => by cases h
 | n + 1, L, [], tx, xs, na, tree, e, D, U, Lp, t, s, h, hh, hn, hT, hI, hL => by
  obtain ⟨v, h1, h2⟩ := uJ h hh hT hI
  exact PF h1 h2
 | n + 1, L, i :: k, tx, xs, na, tree, e, D, U, Lp, t, s, h, hh, hn, hT, hI, hL => by
  have ih := tZ (f := f) n
  have hk : wy C F s0 Q f L Lp k := hL.sub (pF i k) fun d x hx => uj hx
  cases i with
  | code c =>
   have hKOk : TF C F s0 Q Lp (cb C n L k) (fun t s => Wp C.E f C.fn t k [] none none s Q) :=
    fun tx xs na tree e D U t s h1 h2 h3 h4 h5 => ih L k tx xs na tree e D U Lp t s h1 h2 h3 h4 h5 hk
   cases c with
   | ret =>
    obtain ⟨v, h1, h2⟩ := uJ h hh hT hI
    exact Nh h1 h2
   | skip => exact lE (ih _ _ _ _ _ _ _ _ _ _ _ _ h hh hn hT hI hk)
   | label l => exact JL (ih _ _ _ _ _ _ _ _ _ _ _ _ h hh hn hT hI hk)
   | seq a b => exact aJ (ih _ _ _ _ _ _ _ _ _ _ _ _ h hh hn hT hI (hL.sub (Nat.le_refl _) fun _ _ h => h))
   | block id c => exact cH (ih _ _ _ _ _ _ _ _ _ _ _ _ h hh hn hT hI (hL.sub (Nat.le_refl _) fun _ _ h => h))
   | scope c => exact JH (ih _ _ _ _ _ _ _ _ _ _ _ _ h hh hn hT hI (hL.sub (Nat.le_refl _) fun _ _ h => h))
   | exit id =>
    simp only [cb] at h
    cases hx : exitTo id k with
    | none => rw [hx] at h; cases h
    | some k' =>
     rw [hx] at h
     obtain ⟨h1, h2⟩ := Dg hx
     exact zp hx (ih _ _ _ _ _ _ _ _ _ _ _ _ h hh hn hT hI (hk.sub h1 h2))
   | cond c a b =>
    simp only [cb] at h
    have hcond : ∀ tx xs na tree e D U t s, GI c (cb C n L (.code a :: k)) (cb C n L (.code b :: k)) tx xs na = some tree → ah C.E F s0 Q tree e D U Lp → na = e.σ.length → RT e tx t → XI F s0 e D U xs s → Wp C.E f C.fn t (.code (.cond c a b) :: k) [] none none s Q := by
     intro tx xs na tree e D U t s h hh hn hT hI
     unfold GI at h
     cases hq : eval tx c with
     | none => rw [hq] at h; cases h
     | some vq =>
      rw [hq] at h
      cases vq with
      | bool q =>
       have h1 := hT.atR hI.x.ok hq
       simp only [Go.AI.sub] at h1
       refine cP q h1 (fun h2 => ?_) (fun h2 => ?_)
       ·subst h2; exact ih _ _ _ _ _ _ _ _ _ _ _ _ h hh hn hT hI (hL.sub (Nat.le_refl _) fun _ _ h => h)
       ·subst h2; exact ih _ _ _ _ _ _ _ _ _ _ _ _ h hh hn hT hI (hL.sub (Nat.le_refl _) fun _ _ h => h)
      | atom i =>
       cases c with
       | tmp d =>
        obtain ⟨x, y, h1, h2, rfl⟩ := vU h
        obtain ⟨q, hqv, ha, hb⟩ := hh
        have h3 := hT.atR hI.x.ok hq
        simp only [Go.AI.sub, hqv] at h3
        refine cP q h3 (fun h4 => ?_) (fun h4 => ?_)
        ·subst h4; exact ih _ _ _ _ _ _ _ _ _ _ _ _ h1 (ha rfl) hn (hT.refine hI.x.ok hq hqv) hI (hL.sub (Nat.le_refl _) fun _ _ h => h)
        ·subst h4; exact ih _ _ _ _ _ _ _ _ _ _ _ _ h2 (hb rfl) hn (hT.refine hI.x.ok hq hqv) hI (hL.sub (Nat.le_refl _) fun _ _ h => h)
       | _ => cases h
      | _ => cases h
    cases hA : zg C.cuts (HS (.cond c a b)) with
    | none => rw [hA] at h; exact hcond _ _ _ _ _ _ _ _ _ h hh hn hT hI
    | some A =>
     rw [hA] at h
     simp only at h
     obtain ⟨R, tr, e', D', U', h1, h2, h3, h4, h5⟩ := ua h hh hT hI
     exact hcond _ _ _ _ _ _ _ _ _ h1 h2 h3 h4 h5
   | region id ops dr =>
    simp only [cb] at h
    have hreg : ∀ tx xs na tree e D U t s, tA C ops dr (cb C n L k) tx xs na = some tree → ah C.E F s0 Q tree e D U Lp → na = e.σ.length → RT e tx t → XI F s0 e D U xs s → Wp C.E f C.fn t (.code (.region id ops dr) :: k) [] none none s Q := by
     intro tx xs na tree e D U t s h hh hn hT hI
     unfold tA at h
     cases hd : gp ops C.fn.ntmps with
     | false => rw [hd] at h; cases h
     | true =>
      rw [hd] at h
      simp only [cond_true] at h
      cases dr with
      | false =>
       rcases oV hKOk _ _ _ _ _ _ _ _ _ _ h hh hn hT hI with ⟨t', s', h1, h2⟩ | ⟨c, t', s', h1, h2⟩
       ·exact ao hd h1 h2
       ·exact ⟨_, LS hd h1, h2⟩
      | true =>
       simp only at h
       cases hsc : xR C.E.P ops with
       | none => rw [hsc] at h; cases h
       | some sc =>
        rw [hsc] at h
        obtain ⟨t', s', h1, h2⟩ := ic hKOk _ _ _ _ _ _ _ _ _ _ _ _ _ h hh hn hT hI (.cons hI.x.hk hI.x.fw hI.x.wf .nil) (by
         cases C.uf with
         | false => intro y hy; simp at hy
         | true => intro y hy; simp at hy; subst hy; exact hI.u)
        exact fK sc hd hsc h1 h2
    cases hA : zg C.cuts (some id) with
    | none => rw [hA] at h; exact hreg _ _ _ _ _ _ _ _ _ h hh hn hT hI
    | some A =>
     rw [hA] at h
     simp only at h
     obtain ⟨R, tr, e', D', U', h1, h2, h3, h4, h5⟩ := ua h hh hT hI
     exact hreg _ _ _ _ _ _ _ _ _ h1 h2 h3 h4 h5
   | loop c =>
    simp only [cb] at h
    split at h
    ·rename_i A hA
     unfold OM JF at h
     generalize hbk : qU A tx xs = bk at h
     split at h
     ·rename_i sl l hsl
      split at h
      ·rename_i bl l2 hbl
       simp only at h
       generalize hR : eW.mk sl bl l2.length = R at h
       cases hfit : fits R tx xs l2 (bk.map (·.1)) with
       | false => rw [hfit] at h; cases h
       | true =>
        rw [hfit] at h
        simp only [cond_true] at h
        obtain ⟨tr, htr, rfl⟩ := lY (α := Nat) h
        obtain ⟨I, ⟨j0, U0, hst0, hu0, hI0⟩, hstep⟩ := hh
        have hfs := pA hfit hI hT hst0 (hu0 s hI.x.fw hI.x.wf hI.u)
        have hna : l2.length = R.na := by rw [← hR]
        have htr' : cb C n (L.take (depth k) ++ [R]) (.code c :: .inLoop c :: k) (mC R.slots) (br ⟨.leaf, 0⟩ R.blks) R.na = some tr := by subst hR; exact htr
        refine kh (fun j t s => ∃ vs bs D U, I j vs bs D U ∧ vs.length = R.na ∧ bs.length = R.blks.length ∧ RT ⟨vs, bs⟩ (mC R.slots) t ∧ XI F s0 ⟨vs, bs⟩ D U (br ⟨.leaf, 0⟩ R.blks) s)
         (fun j t s hJ hnext => ?_) j0 t s ⟨_, _, D, U0, hI0, by rw [List.length_map]; exact hna, by rw [List.length_map]; exact hfs.2.1, hfs.2.2.1, hfs.2.2.2⟩
        obtain ⟨vs, bs, D', U', h1, h2, h3, h4, h5⟩ := hJ
        have hlen : (L.take (depth k)).length = depth k := by rw [List.length_take]; have := hk.dep; omega
        have hlen2 : (Lp.take (depth k)).length = depth k := by rw [List.length_take, ← hL.len]; have := hk.dep; omega
        refine ih _ _ _ _ _ _ _ _ _ (Lp.take (depth k) ++ [fun vs bs D U => ∃ j', j' < j ∧ I j' vs bs D U]) _ _ htr' (hstep j vs bs D' U' h1 (by rw [h2, hna]) (List.all_eq_true.2 fun v hv => h5.x.ok v hv) (by rw [h3, ← hfs.2.1])) h2.symm h4 h5 ?_
        refine ⟨by rw [List.length_append, List.length_append, hlen, hlen2]; rfl, by simp only [depth, List.length_append, hlen, List.length_cons, List.length_nil]; omega, fun d R' P x g1 g2 g3 => ?_⟩
        have hd2 : d < depth k + 1 := zC g3
        by_cases hd : d < depth k
        ·rw [List.getElem?_append_left (by omega), List.getElem?_take_of_lt hd] at g1
         rw [List.getElem?_append_left (by omega), List.getElem?_take_of_lt hd] at g2
         refine hk.ok d R' P x g1 g2 ?_
         simp only [iB] at g3
         cases hb : Nat.beq (depth k) d with
         | true => have := Nat.eq_of_beq_eq_true hb; omega
         | false => rw [hb] at g3; exact g3
        ·have hd3 : d = depth k := by omega
         subst hd3
         rw [List.getElem?_append_right (by omega), hlen, Nat.sub_self] at g1
         rw [List.getElem?_append_right (by omega), hlen2, Nat.sub_self] at g2
         simp at g1 g2
         subst g1; subst g2
         simp only [iB, Nat.beq_refl, cond_true, Option.some.injEq] at g3
         subst g3
         rintro vs bs D U t s ⟨j', hj, hIj⟩ g4 g5 g6 g7
         exact hnext j' t s hj ⟨vs, bs, D, U, hIj, g4, g5, g6, g7⟩
      ·cases h
     ·cases h
    ·cases h
   | goto l => cases h
   | rangeFunc a b c d => cases h
   | refuse a => cases h
  | inBlock id => exact cU (ih _ _ _ _ _ _ _ _ _ _ _ _ h hh hn hT hI hk)
  | inScope c => exact Eb (ih _ _ _ _ _ _ _ _ _ _ _ _ h hh hn hT hI hk)
  | inLoop c =>
   simp only [cb] at h
   split at h
   ·rename_i R hR
    unfold ON at h
    simp only at h
    generalize hl : Ee _ 0 R.na = l at h
    generalize hb : Ms _ 0 R.blks.length = b at h
    cases hfit : fits R tx xs l b with
    | false => rw [hfit] at h; cases h
    | true =>
     rw [hfit] at h
     cases h
     obtain ⟨P, U', h1, h2, h3, h4⟩ := hh
     obtain ⟨g1, g2, g3, g4⟩ := pA hfit hI hT h2 (h3 s hI.x.fw hI.x.wf hI.u)
     exact hL.ok (depth k) R P _ hR h1 (by simp only [iB, Nat.beq_refl, cond_true]) _ _ _ _ _ _ h4 (by rw [List.length_map]; exact g1) (by rw [List.length_map]; exact g2) g3 g4
   ·cases h
  | _ => cases h
end
def ql : List bP → Nat → List (Nat × bP)
 | [], _ => []
 | B :: r, i => (i, B) :: ql r (i + 1)
theorem qk : ∀ {l : List bP} {i j : Nat} {B : bP}, l[j]? = some B → (i + j, B) ∈ ql l i
 | [], i, j, B, h => by simp at h
 | C :: r, i, 0, B, h => by simp at h; subst h; simp [ql]
 | C :: r, i, j + 1, B, h => by
  have := qk (l := r) (i := i + 1) (j := j) (B := B) (by simpa using h)
  rw [show i + (j + 1) = i + 1 + j by omega]
  exact List.mem_cons_of_mem _ this
section
variable {F : List Nat} {e : Sg} {s : S} {D : List Nat} {U : S → Prop} {Q : cX → Prop} {C : gX}
theorem Hg {na nb : Nat} (ok : e.ok) (h1 : na ≤ e.σ.length) (h2 : nb ≤ e.β.length) : ∀ (as : List V) (i : Nat) (tx t : T V), as.all (mM na nb) = true → RT e tx t → RT e (bi as i tx id) (bi (as.map (sub e)) i t id)
 | [], i, tx, t, _, h => by rw [List.map_nil, dM, dM]; exact h
 | a :: r, i, tx, t, hb, h => by
  simp only [List.all_cons, Bool.and_eq_true] at hb
  rw [List.map_cons, bf, bf]
  exact Hg ok h1 h2 r (i + 1) _ _ hb.2 (h.putD (ph ok h1 h2 hb.1) _)
theorem bb {f : FuncId} {c : Code} {ws : List V} (ho : C.E.orc f ws s = none) (hf : C.E.P.funcs[f]? = some C.fn) (hb : C.fn.body = some c) (hn : (C.fn.name == "runtime.NumGoroutine") = false)
 {n na : Nat} {as : List V} {bl : List bP} {tree : aB} (ht : cb C n [] [.code c] (bi as 0 .leaf id) (br ⟨.leaf, 0⟩ bl) na = some tree)
 (hbd : (as.all (mM na bl.length) && bl.all fun B => xv na bl.length B && B.isOwn) = true)
 (he : e.σ.length = na ∧ aA e.σ ∧ e.β.length = bl.length) (hws : as.map (sub e) = ws) (hw : WF s) (hd : iM e.β = true) (hF : ∀ b ∈ e.β, b ∈ F) (hbl : ef e s (ql bl 0))
 (hst : iA D U) (hu : U s) (hD : ∀ g ∈ D, g < s.next ∧ g ∈ F ∧ g ∉ e.β)
 (hh : ah C.E F s Q tree e D U []) : Co C.E f ws s Q := by
 obtain ⟨h1, h2, h3⟩ := he
 have ok : e.ok := fun v hv => List.all_eq_true.1 h2 v hv
 simp only [Bool.and_eq_true] at hbd
 have hbB := List.all_eq_true.1 hbd.2
 have hdom0 : ∀ g C, (S.mk (.leaf) 0).get g = some C → g < (S.mk (T.leaf) 0).next := fun g C hC => by
  rw [S.get_eq, T.get_leaf] at hC; cases hC
 have hget : ∀ {f B}, (br ⟨.leaf, 0⟩ bl).get f = some B → bl[f]? = some B ∧ f < e.β.length := fun {f B} hB => by
  rcases rA bl _ hdom0 hB with ⟨_, hh⟩ | ⟨_, hh⟩
  ·simp at hh
  ·simp at hh
   exact ⟨hh, by rw [h3]; exact (List.getElem?_eq_some_iff.1 hh).1⟩
 have hnx : (br ⟨.leaf, 0⟩ bl).next = e.β.length := by rw [pp, h3]; simp
 have hmem : ∀ f, f < e.β.length → e.bl f ∈ e.β := fun f hf => by
  unfold Sg.bl
  rw [List.getD_eq_getElem?_getD, List.getElem?_eq_getElem hf]; exact List.getElem_mem _
 have hfact : ∀ f B, bl[f]? = some B → s.get (e.bl f) = some (hQ e B) := fun f B hB => by
  have := qk (i := 0) hB
  rw [Nat.zero_add] at this
  exact rQ hbl this
 have hx : XR F s e (br ⟨.leaf, 0⟩ bl) s := by
  refine ⟨ok, hnx, hw, Fw.refl F s, fun f B hB => by rw [hnx]; exact (hget hB).2, fun e' he f B hB => ?_, fun f g hf hg hh => ?_, fun f hf => ?_, fun f hf => ?_⟩
  ·obtain ⟨hB1, hB2⟩ := hget hB
   have h4 := hbB B (List.mem_of_getElem? hB1)
   simp only [Bool.and_eq_true] at h4
   rw [he.bl (f := f) hB2, uk he (by rw [h1]; exact Nat.le_refl _) (by rw [h3]; exact Nat.le_refl _) h4.1]
   exact ⟨hfact f B hB1, h4.2⟩
  ·rw [hnx] at hf hg; exact kX hd f g hf hg hh
  ·rw [hnx] at hf; exact .inr (hF _ (hmem f hf))
  ·rw [hnx] at hf
   have hlt : f < bl.length := by omega
   exact hw _ _ (hfact f _ (List.getElem?_eq_getElem hlt))
 have hI : XI F s e D U (br ⟨.leaf, 0⟩ bl) s := ⟨hx, hu, hst, fun g hg => ⟨(hD g hg).1, .inr (hD g hg).2.1, fun f hf hh => (hD g hg).2.2 (by rw [← hh]; rw [hnx] at hf; exact hmem f hf)⟩⟩
 subst hws
 refine qN ho hf hb hn ?_
 refine tZ n [] _ _ _ _ _ _ _ _ [] _ _ ht hh h1.symm (Hg ok (by rw [h1]; exact Nat.le_refl _) (by rw [h3]; exact Nat.le_refl _) as 0 _ _ hbd.1 (fun i v hv => by rw [T.get_leaf] at hv; cases hv)) hI ⟨rfl, Nat.le_refl _, fun d R P x g1 => by simp at g1⟩
end
end Go.AI
