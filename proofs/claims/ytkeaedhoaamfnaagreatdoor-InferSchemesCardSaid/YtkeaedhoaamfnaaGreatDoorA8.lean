/- The evaluator by which runs of the program are reckoned, and that it is sound: part 8. No conditions beyond those of the row. -/
import Derived.Test.YtkeaedhoaamfnaaGreatDoorA7
import Derived.Orders
set_option linter.unusedVariables false
set_option linter.unusedSimpArgs false
noncomputable section
namespace Go.AI
def left : List Bool → Nat
 | [] => 0
 | true :: r => left r
 | false :: r => left r + 1
theorem wN : ∀ (l : List Bool) (i : Nat), l[i]? = some false → left (l.set i true) + 1 = left l
 | [], i, h => by simp at h
 | b :: r, 0, h => by simp at h; subst h; simp [left]
 | b :: r, i + 1, h => by
  have := wN r i (by simpa using h)
  cases b <;> simp [left] <;> omega
theorem sU : ∀ (l : List Bool), left l = 0 → ∀ i : Nat, l[i]? ≠ some false
 | [], _, i => by simp
 | true :: r, h, 0 => by simp
 | false :: r, h, _ => by simp [left] at h
 | true :: r, h, i + 1 => by simpa using sU r h i
theorem kl : ∀ n, left (List.replicate n false) = n
 | 0 => rfl
 | n + 1 => by simp [List.replicate_succ, left, kl n]
def cL (listed : Array Bool) : Nat → Prop := fun i => listed[i]? = some true
section
variable {P : Program} {ops : Array Oper} {listed : Array Bool}
theorem wJ {i : Nat} (hs : i < listed.size) : cL (listed.setIfInBounds i true) = with1 (cL listed) i := by
 funext k
 unfold cL with1
 apply propext
 by_cases h : i = k
 ·subst h; simp [hs]
 ·rw [Array.getElem?_setIfInBounds_ne h]
  constructor
  ·exact fun h => .inl h
  ·rintro (h1 | h1)
   ·exact h1
   ·exact absurd h1.symm h
theorem zS {i : Nat} (hs : listed.size = ops.size) (h : i ∈ Region.ready .any ops listed) : ∃ o, ops[i]? = some o ∧ listed[i]? = some false ∧ ∀ e ∈ o.after, Region.binds .any e = true → cL listed e.on := by
 unfold Region.ready at h
 rw [List.mem_filter] at h
 obtain ⟨h1, h2⟩ := h
 have hi : i < ops.size := by simpa using h1
 simp only [Bool.and_eq_true, Bool.not_eq_true'] at h2
 obtain ⟨h2, h3⟩ := h2
 refine ⟨ops[i], by simp [hi], ?_, ?_⟩
 ·have : i < listed.size := by omega
  rw [Array.getElem?_eq_getElem this]
  rw [Array.getD_eq_getD_getElem?, Array.getElem?_eq_getElem this] at h2
  simpa using h2
 ·rw [Array.getElem?_eq_getElem hi] at h3
  simp only [Option.map_some, Option.getD_some] at h3
  rw [Array.all_eq_true'] at h3
  intro e he hb
  have := h3 e he
  rw [hb] at this
  simp only [Bool.not_true, Bool.false_or] at this
  unfold cL
  rw [Array.getD_eq_getD_getElem?] at this
  cases hl : listed[e.on]? with
  | none => rw [hl] at this; cases this
  | some b => rw [hl] at this; simp at this; rw [this]
theorem zI (hE : gZ ops) (hs : listed.size = ops.size) (h : Region.ready .any ops listed = []) : ∀ i, i < ops.size → cL listed i := by
 intro i
 induction i using Nat.strongRecOn with
 | ind i ih =>
  intro hi
  have hi' : i < listed.size := by omega
  cases hb : listed[i] with
  | true => unfold cL; rw [Array.getElem?_eq_getElem hi', hb]
  | false =>
   exfalso
   have : i ∈ Region.ready .any ops listed := by
    unfold Region.ready
    rw [List.mem_filter]
    refine ⟨by simpa using hi, ?_⟩
    simp only [Bool.and_eq_true, Bool.not_eq_true']
    refine ⟨by rw [Array.getD_eq_getD_getElem?, Array.getElem?_eq_getElem hi', hb]; rfl, ?_⟩
    rw [Array.getElem?_eq_getElem hi]
    simp only [Option.map_some, Option.getD_some]
    rw [Array.all_eq_true']
    intro e he
    cases hbi : Region.binds .any e with
    | false => rfl
    | true =>
     have hlt := hE i ops[i] (by simp [hi]) e he hbi
     have := ih e.on hlt (by omega)
     unfold cL at this
     rw [Array.getD_eq_getD_getElem?, this]
     rfl
   rw [h] at this
   cases this
theorem ww (hE : gZ ops) {R : Nat → Prop} (hcl : jx ops R) {i : Nat} {o : Oper} (ho : ops[i]? = some o) (h : ∀ e ∈ o.after, Region.binds .any e = true → R e.on) : ∀ k, lX ops i k → R k := by
 intro k hk
 obtain ⟨e, h1, h2, h3⟩ := (vj hE ho).1 hk
 rcases h3 with rfl | h3
 ·exact h e h1 h2
 ·exact hcl e.on k (h e h1 h2) h3
end
section
variable {E : cx} {ih : tA → S → Option dz} {ops : Array Oper} {t0 : T V} {s0 : S} {ρ0 : aE} {w0 : World} {f : FuncId} {fn : Func} {k : List Item} {rd : Option Nat} {ds : List ei} {up : Option Md} {cs : List Frame}
theorem Nd {fr : Frame} {i : Nat} {rest : List Nat} {o : Oper} (hF : jw E.P ρ0 f fn .leaf (.inRegion ops (i :: rest) :: k) ds .run up rd fr cs) (ho : ops[i]? = some o) (y : Value) :
 jw E.P ρ0 f fn .leaf (.inRegion ops rest :: k) ds .run up rd (fr.finish y) cs ∧ (fr.finish y).tmps = nZ fr.tmps o.dst y := by
 rw [Aj (hF.todo rfl) ho]
 refine ⟨⟨hF.name, hF.func, TR.leaf _ _, ?_, fun _ => rfl, hF.ds, hF.md, hF.rd, hF.up⟩, rfl⟩
 show fn.ntmps ≤ (nZ fr.tmps o.dst y).size
 have := hF.size
 unfold nZ
 split <;> simpa using this
theorem OV (hE : jp E) (hg : Good E.P ih) (hD : kB ops) (hdst : gY ops fn.ntmps = true) {L : List Ev} (hR : eD E (bI ih) ops t0 s0 L) (hall : ∀ k, k < ops.size → ∃ q ∈ L, q.i = k) {t' : T V} (hS : oL t0 L t') :
 ∀ (fuel τ : Nat) (listed : Array Bool) (X F : List Ev) (ρ : aE) (w : World) (fr : Frame), L = X ++ F → listed.size = ops.size → left listed.toList ≤ fuel → jx ops (cL listed) →
  vK E t0 s0 ρ0 w0 X F (cL listed) ρ w fr.tmps → jw E.P ρ0 f fn .leaf (.inRegion ops (Region.linearise.go .any ops fuel τ listed []) :: k) ds .run up rd fr cs →
  ∃ ρ' w' fr', Steps E.P (lone fr cs w) (lone fr' cs w') ∧ FR ρ0 w0 ρ' w' ∧ HR ρ' (cV s0 L) w' ∧ jw E.P ρ' f fn t' k ds .run up rd fr' cs := by
 have fin : ∀ (listed : Array Bool) (X F : List Ev) (ρ : aE) (w : World) (fr : Frame), L = X ++ F → (∀ i, i < ops.size → cL listed i) → vK E t0 s0 ρ0 w0 X F (cL listed) ρ w fr.tmps →
  jw E.P ρ0 f fn .leaf (.inRegion ops [] :: k) ds .run up rd fr cs → ∃ ρ' w' fr', Steps E.P (lone fr cs w) (lone fr' cs w') ∧ FR ρ0 w0 ρ' w' ∧ HR ρ' (cV s0 L) w' ∧ jw E.P ρ' f fn t' k ds .run up rd fr' cs := by
  intro listed X F ρ w fr hL hfull hI hF
  have hin : ∀ e ∈ L, cL listed e.i := fun e he => by
   obtain ⟨_, _, _, k1, _⟩ := eD.ok hR he
   exact hfull e.i (by
    rcases Nat.lt_or_ge e.i ops.size with h | h
    ·exact h
    ·have := k1.op; rw [Array.getElem?_eq_none h] at this; cases this)
  have hreg := hI.reg (X1 := []) (Z := X) (by simp) (by rw [← hL]; exact hR) fun e he => hin e (by rw [hL]; simp [he])
  rw [← hL] at hreg
  have hfresh : ∀ f v, (cV s0 L).next ≤ f → ρ f v = none := by
   intro f v hf
   cases hr : ρ f v with
   | none => rfl
   | some l =>
    exfalso
    have hFn : (cV s0 F).next ≤ (cV s0 L).next := by rw [hL] at hR ⊢; exact eD.next_le hR
    rcases hI.fresh f v (by rw [hr]; exact fun h => by cases h) with h1 | ⟨q, q1, q2, q3, q4⟩
    ·omega
    ·have hq : q ∈ L := by rw [hL]; simp [q1]
     obtain ⟨Xa, Y, hLa, k1, k2⟩ := eD.ok hR hq
     have : (cV s0 (q :: Y)).next ≤ (cV s0 L).next := by rw [hLa] at hR ⊢; exact eD.next_le hR
     have : q.b.next ≤ (cV s0 L).next := this
     omega
  rw [aE.to_all hfresh] at hreg
  refine ⟨ρ, w, _, .one (qY (uL hF) (hF.todo rfl)), hI.fr, hreg, ?_⟩
  have hF' := (hF.mono hI.fr.ext).to k
  refine ⟨hF'.name, hF'.func, fun d x hx => ?_, hF'.size, hF'.todo, hF'.ds, hF'.md, hF'.rd, hF'.up⟩
  rcases hS d with ⟨q, q1, q2, q3⟩ | ⟨q1, q2⟩
  ·rw [q3] at hx; cases hx
   obtain ⟨y, y1, y2⟩ := hI.vals q (by rw [← hL]; exact q1) (hin q q1)
   exact ⟨y, bO (aE.to_le_self ρ _) _ _ y1, y2 d q2⟩
  ·rw [q2] at hx
   obtain ⟨y, y1, y2⟩ := hI.olds d x hx fun q hq _ => q1 q (by rw [hL]; exact hq)
   exact ⟨y, bO (aE.to_le_self ρ _) _ _ y1, y2⟩
 intro fuel
 induction fuel with
 | zero =>
  intro τ listed X F ρ w fr hL hs hleft hcl hI hF
  refine fin listed X F ρ w fr hL (fun i hi => ?_) hI (by simpa [Region.linearise.go] using hF)
  have := sU listed.toList (by omega) i
  have hi' : i < listed.size := by omega
  unfold cL
  rw [Array.getElem?_eq_getElem hi']
  cases hb : listed[i] with
  | true => rfl
  | false => exfalso; apply this; rw [Array.getElem?_toList, Array.getElem?_eq_getElem hi', hb]
 | succ fuel ihf =>
  intro τ listed X F ρ w fr hL hs hleft hcl hI hF
  simp only [Region.linearise.go] at hF
  change jw E.P ρ0 f fn .leaf (.inRegion ops (match (Region.ready .any ops listed)[τ % (Region.ready .any ops listed).length]? with
   | some i => Region.linearise.go .any ops fuel (τ / (Region.ready .any ops listed).length) (listed.setIfInBounds i true) [i]
   | none => [].reverse) :: k) ds .run up rd fr cs at hF
  cases hi : (Region.ready .any ops listed)[τ % (Region.ready .any ops listed).length]? with
  | none =>
   have hnil : Region.ready .any ops listed = [] := by
    cases hr : Region.ready .any ops listed with
    | nil => rfl
    | cons x xs =>
     rw [hr] at hi
     have hlt : τ % (x :: xs).length < (x :: xs).length := Nat.mod_lt _ (by simp)
     simp at hi
     simp at hlt
     omega
   rw [hi] at hF
   exact fin listed X F ρ w fr hL (zI hD.back hs hnil) hI hF
  | some i =>
   rw [hi] at hF
   simp only at hF
   rw [linearise_go_acc, List.reverse_singleton, List.singleton_append] at hF
   obtain ⟨o, ho, hfalse, hed⟩ := zS hs (List.mem_of_getElem? hi)
   have hn : ¬ cL listed i := fun h => by unfold cL at h; rw [hfalse] at h; cases h
   have hpre := ww hD.back hcl ho hed
   have hisz : i < listed.size := by
    rcases Nat.lt_or_ge i listed.size with h | h
    ·exact h
    ·rw [Array.getElem?_eq_none h] at hfalse; cases hfalse
   obtain ⟨e, heL, hei⟩ := hall i (by omega)
   subst hei
   obtain ⟨_, _, _, hev0, _⟩ := eD.ok hR heL
   have heo : e.o = o := by have := hev0.op; rw [ho] at this; cases this; rfl
   subst heo
   have heX : e ∈ X := by
    rw [hL] at heL
    rcases List.mem_append.1 heL with h | h
    ·exact h
    ·exact absurd (hI.inF e h) hn
   obtain ⟨X1, X2, rfl⟩ := List.append_of_mem heX
   have hL' : L = X1 ++ e :: (X2 ++ F) := by rw [hL]; simp
   have hR' := hR
   rw [hL'] at hR'
   obtain ⟨hev, hRY⟩ := eD.at hR'
   have hdst' : ∀ d, e.o.dst = some d → d < fr.tmps.size := fun d hd => Nat.lt_of_lt_of_le (qD hdst ho d hd) hF.size
   have hm := uL hF
   have htd := hF.todo rfl
   have hsz' : (listed.setIfInBounds e.i true).size = ops.size := by simpa using hs
   have hleft' : left (listed.setIfInBounds e.i true).toList ≤ fuel := by
    have := wN listed.toList e.i (by rw [Array.getElem?_toList]; exact hfalse)
    rw [Array.toList_setIfInBounds]; omega
   have hset := wJ hisz
   have hcl' : jx ops (cL (listed.setIfInBounds e.i true)) := by rw [hset]; exact hcl.with1 hpre
   by_cases hk : kC E e.o
   ·
    have hstep : dY E (bI ih) e.t e.a e.o (ba ops e.t e.o) = some (e.v, e.b) ∧ ∀ q ∈ X2 ++ F, lX ops e.i q.i := by
     rcases hev.step with ⟨hk', _⟩ | ⟨_, h1, _, h2⟩
     ·exact absurd hk hk'
     ·exact ⟨h1, h2⟩
    obtain ⟨hst, hXF⟩ := hstep
    have hX2 : ∀ q ∈ X2, cL listed q.i := fun q hq => hpre _ (hXF q (by simp [hq]))
    have hreg := hI.reg (X1 := X1 ++ [e]) (Z := X2) (by simp) hRY hX2
    rw [← hev.st] at hreg
    have hT := hI.env hD hR' hn hcl hpre
    have wsp : ∀ b, ba ops e.t e.o = some b → Region.wanted e.o (yielded ops fr.tmps) = b := fun b hb => by
     rw [← kM] at hb
     exact fh hT hb
    have go : ∀ (ρ1 : aE) (w1 : World) (y : Value), Steps E.P (lone fr cs w) (lone (fr.finish y) cs w1) → HR ρ1 e.b w1 → FR (ρ.to e.a.next) w ρ1 w1 → den ρ1 e.v = some y →
     ∃ ρ' w' fr', Steps E.P (lone fr cs w) (lone fr' cs w') ∧ FR ρ0 w0 ρ' w' ∧ HR ρ' (cV s0 L) w' ∧ jw E.P ρ' f fn t' k ds .run up rd fr' cs := by
     intro ρ1 w1 y hsteps h1 h2 h3
     obtain ⟨ρ', hI'⟩ := hI.effect hD hR' hk hn hX2 h1 h2 h3 hdst'
     obtain ⟨hF', htm⟩ := Nd hF ho y
     rw [← hset, ← htm] at hI'
     obtain ⟨ρ2, w2, fr2, a1, a2⟩ := ihf (τ / (Region.ready .any ops listed).length) _ X1 (e :: (X2 ++ F)) ρ' w1 (fr.finish y) hL' hsz' hleft' hcl' hI' hF'
     exact ⟨ρ2, w2, fr2, hsteps.trans a1, a2⟩
    unfold dY at hst
    split at hst
    ·rename_i hw
     have hwant := wsp _ hw
     rw [← jQ (ops := ops)] at hst
     cases hdo : em E (only e.t (looks ops e.o)) e.a e.o with
     | none => rw [hdo] at hst; cases hst
     | some nx =>
      rw [hdo] at hst
      have hop := mR hE hreg hT e.o hdo
      have hstg : (∀ c, e.o.op ≠ .defer c) → stepG E.P true { frame := fr, callers := cs, status := .running, dying := none } w = stepG.apply E.P true fr cs none (execOp (rv fr.tmps) e.o) w := fun q => iJ hm htd ho hwant (.inr q)
      cases nx with
      | val v s1 =>
       simp only [kT, Option.some.injEq, Prod.mk.injEq] at hst
       obtain ⟨hst1, hst2⟩ := hst
       obtain ⟨ρ1, y, w1, h1, h2, h3, h4⟩ := hop
       have hst := hstg (dM hdo (fun d s' => by intro h; cases h))
       exact go ρ1 w1 y (.one (oK hst h1)) (by rw [← hst2]; exact h3) h4 (by rw [← hst1]; exact h2)
      | skip s1 =>
       simp only [kT, Option.some.injEq, Prod.mk.injEq] at hst
       obtain ⟨hst1, hst2⟩ := hst
       obtain ⟨ρ1, w1, h1, h3, h4⟩ := hop
       have hst := hstg (dM hdo (fun d s' => by intro h; cases h))
       exact go ρ1 w1 undef (.one (DG hst h1)) (by rw [← hst2]; exact h3) h4 (by rw [← hst1]; rfl)
      | enter g args s1 =>
       obtain ⟨ys, h1, h2, h3⟩ := hop
       have hstx := hstg (dM hdo (fun d s' => by intro h; cases h))
       simp only [kT] at hst
       cases hr : bI ih g args none s1 with
       | none => rw [hr] at hst; cases hst
       | some out =>
        rw [hr] at hst
        obtain ⟨hcall, hfin⟩ := lK hg h3 h1 hr
        rw [hcall] at h2
        obtain ⟨ρ1, w1, en, j1, j2, j3, j4⟩ := hfin fr cs
        have hsteps : Steps E.P (lone fr cs w) (lone (cW fr en) cs w1) := .head (sj htd hstx h2) j4
        obtain ⟨oe, oup, os⟩ := out
        cases oe with
        | panicked c => cases hst
        | returned v =>
         simp only [oA, Option.some.injEq, Prod.mk.injEq] at hst
         obtain ⟨hst1, hst2⟩ := hst
         cases en with
         | returned y => exact go ρ1 w1 y hsteps (by rw [← hst2]; exact j1) j2 (by rw [← hst1]; exact j3)
         | panicked _ => exact j3.elim
         | outgrown => exact j3.elim
      | round l args s1 => cases hst
      | defer df s1 => cases hst
      | recover s1 => cases hst
      | panic v s1 => cases hst
    ·rename_i hw
     have hwant := wsp _ hw
     simp only [Option.some.injEq, Prod.mk.injEq] at hst
     obtain ⟨hst1, hst2⟩ := hst
     exact go (ρ.to e.a.next) w undef (.one (jc hm htd (by simp [ho, hwant]))) (by rw [← hst2]; exact hreg) (FR.refl _ _) (by rw [← hst1]; rfl)
    ·cases hst
   ·
    rcases hI.float hD hR' hk hn hcl hpre hdst' with ⟨hwant, hI'⟩ | ⟨hwant, y, w1, ρ1, hrun, hI'⟩
    ·obtain ⟨hF', htm⟩ := Nd hF ho undef
     rw [← hset, ← htm] at hI'
     obtain ⟨ρ2, w2, fr2, a1, a2⟩ := ihf (τ / (Region.ready .any ops listed).length) _ (X1 ++ e :: X2) F ρ w (fr.finish undef) hL hsz' hleft' hcl' hI' hF'
     exact ⟨ρ2, w2, fr2, (Steps.one (jc hm htd (by simp [ho, hwant]))).trans a1, a2⟩
    ·obtain ⟨hF', htm⟩ := Nd hF ho y
     rw [← hset, ← htm] at hI'
     obtain ⟨ρ2, w2, fr2, a1, a2⟩ := ihf (τ / (Region.ready .any ops listed).length) _ (X1 ++ e :: X2) F ρ1 w1 (fr.finish y) hL hsz' hleft' hcl' hI' hF'
     have hnd : ∀ c, e.o.op ≠ .defer c := fun c hc => by
      apply hk
      show aC E.P e.o.op = 3
      rw [hc]; rfl
     exact ⟨ρ2, w2, fr2, (Steps.one (oK (iJ hm htd ho hwant (.inr hnd)) hrun)).trans a1, a2⟩
theorem Ox {P : Program} {fr : Frame} {cs : List Frame} {w : World} {id : Nat} (hm : fr.mode = .run) (ht : fr.todo = .code (.region id ops true) :: k) :
 step P (lone fr cs w) = .next (lone { fr with todo := .inRegion ops (Region.schedule (P.follows .mixedOrders) ops (w.tape w.drawn (.order fr.fn id))) :: k } cs { w with drawn := w.drawn + 1 }) :=
 step_lone_go (by simp [stepG, stepG.exec, hm, ht, choose, Sem.run, Question.forced, Question.cut])
end
section
variable {E : cx} {ih : tA → S → Option dz} {ops : Array Oper} {t0 : T V} {s0 : S} {ρ0 : aE} {w0 : World} {f : FuncId} {fn : Func} {k : List Item} {rd : Option Nat} {ds : List ei} {up : Option Md} {cs : List Frame}
theorem jK {done : Nat} {d : Tmp} {x : V} : ∀ {l : List (Nat × Oper)} {t : T V}, (gt done l t).get (eV d) = some x → t.get (eV d) = some x ∧ ∀ a o, (a, o) ∈ l → o.dst = some d → done.testBit a = true
 | [], t, h => ⟨h, fun _ _ h => by cases h⟩
 | (a, o) :: r, t, h => by
  simp only [gt] at h
  cases hb : done.testBit a with
  | true =>
   rw [hb] at h
   obtain ⟨h1, h2⟩ := jK h
   refine ⟨h1, fun a' o' hm hd => ?_⟩
   rcases List.mem_cons.1 hm with hm | hm
   ·cases hm; exact hb
   ·exact h2 a' o' hm hd
  | false =>
   rw [hb] at h
   simp only [cond_false] at h
   cases ho : o.dst with
   | none =>
    rw [ho] at h
    obtain ⟨h1, h2⟩ := jK h
    refine ⟨h1, fun a' o' hm hd => ?_⟩
    rcases List.mem_cons.1 hm with hm | hm
    ·cases hm; rw [ho] at hd; cases hd
    ·exact h2 a' o' hm hd
   | some e =>
    rw [ho] at h
    simp only at h
    rw [T.setK_eq] at h
    obtain ⟨h1, h2⟩ := jK h
    rw [T.get_setN] at h1
    by_cases hed : e = d
    ·rw [if_pos hed] at h1; cases h1
    ·rw [if_neg hed] at h1
     refine ⟨h1, fun a' o' hm hd => ?_⟩
     rcases List.mem_cons.1 hm with hm | hm
     ·cases hm; rw [ho] at hd; cases hd; exact absurd rfl hed
     ·exact h2 a' o' hm hd
theorem FR.to_start {ρ : aE} {w : World} {n : Nat} (h : FR ρ0 w0 ρ w) (h0 : ∀ f v, n ≤ f → ρ0 f v = none) : FR ρ0 w0 (ρ.to n) w :=
 ⟨fun f v l e => by
  have hf : f < n := Nat.lt_of_not_le fun hc => by rw [h0 f v hc] at e; cases e
  rw [aE.to_of hf]; exact h.ext f v l e, h.size, h.os, h.tape, h.output, h.same, fun f v l e hl => h.new f v l (aE.to_lt e).2 hl⟩
theorem vK.envP {rec : fO} {Z X2 F : List Ev} {i : Nat} {o : Oper} {t1 : T V} {R : Nat → Prop} {ρ : aE} {w : World} {tm : Array Value} (hD : kB ops) (h : vK E t0 s0 ρ0 w0 (Z ++ X2) F R ρ w tm)
 (hR : eD E rec ops t0 s0 (Z ++ (X2 ++ F))) (ho : ops[i]? = some o) (hpY : ∀ k, lX ops i k → ∃ q ∈ X2 ++ F, q.i = k) (hnew : ∀ q ∈ Z ++ (X2 ++ F), q.i ≠ i) (hslots : oL t0 (X2 ++ F) t1)
 (hn : ¬ R i) (hcl : jx ops R) (hpre : ∀ k, lX ops i k → R k) : TR (ρ.to (cV s0 (X2 ++ F)).next) (only t1 (looks ops o)) tm := by
 have hL : Z ++ X2 ++ F = Z ++ (X2 ++ F) := by simp
 have hRY : eD E rec ops t0 s0 (X2 ++ F) := eD.suf hR
 intro d x hx
 rw [ob] at hx
 split at hx
 ·rename_i hd
  have hord : ∀ q oq, ops[q]? = some oq → oq.dst = some d → q ≠ i → lX ops i q ∨ lX ops q i := by
   intro q oq hq hdq hqi
   rcases List.mem_append.1 hd with hd | hd
   ·exact hD.sees i q o oq d ho hq (fun h => hqi h.symm) hdq hd
   ·unfold pa at hd
    split at hd
    ·rename_i g b hg
     have hgd : ((ops[g]?).bind (·.dst)) = some d := by simpa using hd
     cases hog : ops[g]? with
     | none => rw [hog] at hgd; cases hgd
     | some og =>
      rw [hog] at hgd
      by_cases hgq : g = q
      ·subst hgq; exact .inl (hD.guard i o g b ho hg)
      ·exact absurd hgd (hD.dst g q og oq d hog hq hgq hdq)
    ·simp at hd
  have hle : ∀ q ∈ X2 ++ F, q.b.next ≤ (cV s0 (X2 ++ F)).next := fun q hq => by
   obtain ⟨Y1, Y2, hY⟩ := List.append_of_mem hq
   rw [hY] at hRY ⊢
   exact eD.next_le (Y := q :: Y2) hRY
  rcases hslots d with ⟨q, q1, q2, q3⟩ | ⟨q1, q2⟩
  ·rw [q3] at hx; cases hx
   obtain ⟨Ya, Yb, hY, hqev, _⟩ := eD.ok hRY q1
   have hqi : q.i ≠ i := hnew q (List.mem_append_right _ q1)
   rcases hord q.i q.o hqev.op q2 hqi with p | p
   ·obtain ⟨y, y1, y2⟩ := h.vals q (by rw [hL]; exact List.mem_append_right _ q1) (hpre _ p)
    exact ⟨y, bO (aE.to_le ρ (hle q q1)) _ _ y1, y2 d q2⟩
   ·obtain ⟨z, z1, z2⟩ := hqev.pre i p
    exact absurd z2 (hnew z (List.mem_append_right _ (by rw [hY]; simp [z1])))
  ·rw [q2] at hx
   obtain ⟨y, y1, y2⟩ := h.olds d x hx (fun q hq hr hdq => by
    rw [hL] at hq
    obtain ⟨_, Y', _, k1, _⟩ := eD.ok hR hq
    rcases hord q.i q.o k1.op hdq (hnew q hq) with p | p
    ·obtain ⟨z, z1, z2⟩ := hpY _ p
     have hz : z = q := eD.uniq hR (List.mem_append_right _ z1) hq z2
     subst hz
     exact q1 z z1 hdq
    ·exact hn (hcl q.i i hr p))
   refine ⟨y, bO (aE.to_le ρ ?_) _ _ y1, y2⟩
   have h1 : eD E rec ops t0 s0 ((X2 ++ F) ++ []) := by simpa using hRY
   have h2 := eD.next_le h1
   rw [List.append_nil] at h2
   exact h2
 ·cases hx
theorem OW (hE : jp E) (hg : Good E.P ih) (hD : kB ops) (hdst : gY ops fn.ntmps = true) (h0 : ∀ f v, s0.next ≤ f → ρ0 f v = none) {i0 : Nat} {o0 : Oper} {Z0 Y0 : List Ev} {done : Nat} {t1 : T V} {c : List vJ} {s2 : S}
 (ho0 : ops[i0]? = some o0) (hk0 : kC E o0) (hR : eD E (bI ih) ops t0 s0 (Z0 ++ Y0)) (hdone : tB done Y0) (hS : oL t0 Y0 t1) (hpan : lB E (bI ih) t1 (cV s0 Y0) o0 (ba ops t1 o0) = some (.pan c s2))
 (hpY1 : ∀ q ∈ Y0, lX ops i0 q.i) (hpY : ∀ k, lX ops i0 k → ∃ q ∈ Y0, q.i = k) (hZ : ∀ q ∈ Z0, ¬ kC E q.o) (hnew : ∀ q ∈ Z0 ++ Y0, q.i ≠ i0) (hall : ∀ k, k < ops.size → k ≠ i0 → ¬ lX ops k i0 → ∃ q ∈ Z0 ++ Y0, q.i = k) :
 ∀ (fuel τ : Nat) (listed : Array Bool) (X F : List Ev) (ρ : aE) (w : World) (fr : Frame), Z0 ++ Y0 = X ++ F → listed.size = ops.size → left listed.toList ≤ fuel → jx ops (cL listed) → ¬ cL listed i0 →
  vK E t0 s0 ρ0 w0 X F (cL listed) ρ w fr.tmps → jw E.P ρ0 f fn .leaf (.inRegion ops (Region.linearise.go .any ops fuel τ listed []) :: k) ds .run up rd fr cs →
  ∃ ρ' w' fr', Steps E.P (lone fr cs w) (lone fr' cs w') ∧ FR ρ0 w0 ρ' w' ∧ HR ρ' s2 w' ∧ jw E.P ρ' f fn (gt done (dN ops.toList 0) t1) k ds (.panicking c) up rd fr' cs := by
 have hi0 : i0 < ops.size := by
  rcases Nat.lt_or_ge i0 ops.size with h | h
  ·exact h
  ·rw [Array.getElem?_eq_none h] at ho0; cases ho0
 intro fuel
 induction fuel with
 | zero =>
  intro τ listed X F ρ w fr hL hs hleft hcl hni hI hF
  exfalso
  have := sU listed.toList (by omega) i0
  have hi' : i0 < listed.size := by omega
  apply hni
  unfold cL
  rw [Array.getElem?_eq_getElem hi']
  cases hb : listed[i0] with
  | true => rfl
  | false => exfalso; apply this; rw [Array.getElem?_toList, Array.getElem?_eq_getElem hi', hb]
 | succ fuel ihf =>
  intro τ listed X F ρ w fr hL hs hleft hcl hni hI hF
  simp only [Region.linearise.go] at hF
  change jw E.P ρ0 f fn .leaf (.inRegion ops (match (Region.ready .any ops listed)[τ % (Region.ready .any ops listed).length]? with
   | some i => Region.linearise.go .any ops fuel (τ / (Region.ready .any ops listed).length) (listed.setIfInBounds i true) [i]
   | none => [].reverse) :: k) ds .run up rd fr cs at hF
  cases hi : (Region.ready .any ops listed)[τ % (Region.ready .any ops listed).length]? with
  | none =>
   exfalso
   have hnil : Region.ready .any ops listed = [] := by
    cases hr : Region.ready .any ops listed with
    | nil => rfl
    | cons x xs =>
     rw [hr] at hi
     have hlt : τ % (x :: xs).length < (x :: xs).length := Nat.mod_lt _ (by simp)
     simp at hi
     simp at hlt
     omega
   exact hni (zI hD.back hs hnil i0 hi0)
  | some i =>
   rw [hi] at hF
   simp only at hF
   rw [linearise_go_acc, List.reverse_singleton, List.singleton_append] at hF
   obtain ⟨o, ho, hfalse, hed⟩ := zS hs (List.mem_of_getElem? hi)
   have hn : ¬ cL listed i := fun h => by unfold cL at h; rw [hfalse] at h; cases h
   have hpre := ww hD.back hcl ho hed
   have hisz : i < listed.size := by
    rcases Nat.lt_or_ge i listed.size with h | h
    ·exact h
    ·rw [Array.getElem?_eq_none h] at hfalse; cases hfalse
   have hm := uL hF
   have htd := hF.todo rfl
   by_cases hii : i = i0
   ·
    subst hii
    rw [ho0] at ho
    cases ho
    obtain ⟨X2, hX2, hY0⟩ : ∃ X2, X = Z0 ++ X2 ∧ Y0 = X2 ++ F := by
     rcases List.append_eq_append_iff.1 hL with ⟨a, h1, h2⟩ | ⟨a, h1, h2⟩
     ·exact ⟨a, h1, h2⟩
     ·cases a with
      | nil => exact ⟨[], by simpa using h1.symm, by simpa using h2.symm⟩
      | cons e a =>
       exfalso
       subst h2
       have hfe : kC E e.o := hI.front
       exact hZ e (by rw [h1]; simp) hfe
    subst hX2; subst hY0
    have hRY : eD E (bI ih) ops t0 s0 (X2 ++ F) := eD.suf hR
    have hreg := hI.reg (X1 := Z0) (Z := X2) rfl hRY fun q hq => hpre _ (hpY1 q (List.mem_append_left _ hq))
    have hT := hI.envP hD hR ho0 hpY hnew hS hn hcl hpre
    have wsp : ∀ b, ba ops t1 o0 = some b → Region.wanted o0 (yielded ops fr.tmps) = b := fun b hb => by
     rw [← kM] at hb
     exact fh hT hb
    have hFR0 : FR ρ0 w0 (ρ.to (cV s0 (X2 ++ F)).next) w := hI.fr.to_start fun f v hf => h0 f v (by
     have h1 : eD E (bI ih) ops t0 s0 ((X2 ++ F) ++ []) := by simpa using hRY
     have h2 := eD.next_le h1
     rw [List.append_nil] at h2
     exact Nat.le_trans h2 hf)
    have tr : ∀ ρ1 : aE, (ρ.to (cV s0 (X2 ++ F)).next).le ρ1 → TR ρ1 (gt done (dN ops.toList 0) t1) fr.tmps := fun ρ1 hle d x hx => by
     obtain ⟨hx1, hx2⟩ := jK hx
     have hle2 : ∀ q ∈ X2 ++ F, q.b.next ≤ (cV s0 (X2 ++ F)).next := fun q hq => by
      obtain ⟨Y1, Y2, hY⟩ := List.append_of_mem hq
      rw [hY] at hRY ⊢
      exact eD.next_le (Y := q :: Y2) hRY
     rcases hS d with ⟨q, q1, q2, q3⟩ | ⟨q1, q2⟩
     ·rw [q3] at hx1; cases hx1
      obtain ⟨y, y1, y2⟩ := hI.vals q (by rw [List.append_assoc]; exact List.mem_append_right _ q1) (hpre _ (hpY1 q q1))
      exact ⟨y, bO (aE.le_trans (aE.to_le ρ (hle2 q q1)) hle) _ _ y1, y2 d q2⟩
     ·rw [q2] at hx1
      obtain ⟨y, y1, y2⟩ := hI.olds d x hx1 fun q hq hr hdq => by
       rw [List.append_assoc] at hq
       obtain ⟨_, _, _, k1, _⟩ := eD.ok hR hq
       have := hx2 q.i q.o (eF.2 k1.op) hdq
       obtain ⟨z, z1, z2⟩ := (hdone q.i).1 this
       have hz : z = q := eD.uniq hR (List.mem_append_right _ z1) hq z2
       subst hz
       exact q1 z z1 hdq
      have h1 : eD E (bI ih) ops t0 s0 ((X2 ++ F) ++ []) := by simpa using hRY
      have h2 := eD.next_le h1
      rw [List.append_nil] at h2
      exact ⟨y, bO (aE.le_trans (aE.to_le ρ h2) hle) _ _ y1, y2⟩
    unfold lB at hpan
    split at hpan
    ·rename_i hw
     have hwant := wsp _ hw
     rw [← jQ (ops := ops)] at hpan
     cases hdo : em E (only t1 (looks ops o0)) (cV s0 (X2 ++ F)) o0 with
     | none => rw [hdo] at hpan; cases hpan
     | some nx =>
      rw [hdo] at hpan
      have hop := mR hE hreg hT o0 hdo
      have hstg : (∀ c, o0.op ≠ .defer c) → stepG E.P true { frame := fr, callers := cs, status := .running, dying := none } w = stepG.apply E.P true fr cs none (execOp (rv fr.tmps) o0) w := fun q => iJ hm htd ho0 hwant (.inr q)
      cases nx with
      | enter g args s1 =>
       obtain ⟨ys, h1, h2, h3⟩ := hop
       have hstx := hstg (dM hdo (fun d s' => by intro h; cases h))
       simp only [qC] at hpan
       cases hr : bI ih g args none s1 with
       | none => rw [hr] at hpan; cases hpan
       | some out =>
        rw [hr] at hpan
        obtain ⟨hcall, hfin⟩ := lK hg h3 h1 hr
        rw [hcall] at h2
        obtain ⟨ρ1, w1, en, j1, j2, j3, j4⟩ := hfin fr cs
        have hsteps : Steps E.P (lone fr cs w) (lone (cW fr en) cs w1) := .head (sj htd hstx h2) j4
        obtain ⟨oe, oup, os⟩ := out
        cases oe with
        | returned v => cases hpan
        | panicked c' =>
         simp only [rK, Option.some.injEq, NK.pan.injEq] at hpan
         obtain ⟨rfl, rfl⟩ := hpan
         cases en with
         | returned _ => exact j3.elim
         | outgrown => exact j3.elim
         | panicked ch =>
          have hfr := hFR0.trans j2
          have hF1 := hF.mono hfr.ext
          exact ⟨ρ1, w1, _, hsteps, hfr, j1, ⟨hF1.name.symm ▸ (by rw [cW, bG hm]), hF1.func, by rw [cW, bG hm]; exact tr ρ1 j2.ext, by rw [cW, bG hm]; exact hF1.size, (fun q => by cases q), by rw [cW, bG hm]; exact hF1.ds, by rw [cW, bG hm]; exact j3, by rw [cW, bG hm]; exact hF1.rd, by rw [cW, bG hm]; exact hF1.up⟩⟩
      | panic v s1 =>
       simp only [qC, Option.some.injEq, NK.pan.injEq] at hpan
       obtain ⟨rfl, rfl⟩ := hpan
       obtain ⟨y, h1, h2, h3⟩ := hop
       have hstx := hstg (dM hdo (fun d s' => by intro h; cases h))
       refine ⟨ρ.to (cV s0 (X2 ++ F)).next, w, _, .one (GQ hstx h2), hFR0, h3, ?_⟩
       rw [bG hm]
       have hF1 := hF.mono hFR0.ext
       exact ⟨hF1.name, hF1.func, tr _ (aE.le_refl _), hF1.size, (fun q => by cases q), hF1.ds, ⟨⟨h1, rfl, rfl⟩, trivial⟩, hF1.rd, hF1.up⟩
      | val v s1 => cases hpan
      | skip s1 => cases hpan
      | round l args s1 => cases hpan
      | defer df s1 => cases hpan
      | recover s1 => cases hpan
    ·cases hpan
    ·cases hpan
   ·
    obtain ⟨e, heL, hei⟩ := hall i (by omega) hii fun h => hni (hpre _ h)
    subst hei
    have hL0 := hL
    obtain ⟨_, _, _, hev0, _⟩ := eD.ok hR heL
    have heo : e.o = o := by have := hev0.op; rw [ho] at this; cases this; rfl
    subst heo
    have heX : e ∈ X := by
     rw [hL] at heL
     rcases List.mem_append.1 heL with h | h
     ·exact h
     ·exact absurd (hI.inF e h) hn
    obtain ⟨X1, X2, rfl⟩ := List.append_of_mem heX
    have hL' : Z0 ++ Y0 = X1 ++ e :: (X2 ++ F) := by rw [hL]; simp
    have hR' := hR
    rw [hL'] at hR'
    obtain ⟨hev, hRY⟩ := eD.at hR'
    have hdst' : ∀ d, e.o.dst = some d → d < fr.tmps.size := fun d hd => Nat.lt_of_lt_of_le (qD hdst ho d hd) hF.size
    have hsz' : (listed.setIfInBounds e.i true).size = ops.size := by simpa using hs
    have hleft' : left (listed.setIfInBounds e.i true).toList ≤ fuel := by
     have := wN listed.toList e.i (by rw [Array.getElem?_toList]; exact hfalse)
     rw [Array.toList_setIfInBounds]; omega
    have hset := wJ hisz
    have hcl' : jx ops (cL (listed.setIfInBounds e.i true)) := by rw [hset]; exact hcl.with1 hpre
    have hni' : ¬ cL (listed.setIfInBounds e.i true) i0 := by
     rw [hset]
     rintro (h | h)
     ·exact hni h
     ·exact hii h.symm
    by_cases hk : kC E e.o
    ·
     have hstep : dY E (bI ih) e.t e.a e.o (ba ops e.t e.o) = some (e.v, e.b) ∧ ∀ q ∈ X2 ++ F, lX ops e.i q.i := by
      rcases hev.step with ⟨hk', _⟩ | ⟨_, h1, _, h2⟩
      ·exact absurd hk hk'
      ·exact ⟨h1, h2⟩
     obtain ⟨hst, hXF⟩ := hstep
     have hX2 : ∀ q ∈ X2, cL listed q.i := fun q hq => hpre _ (hXF q (by simp [hq]))
     have hreg := hI.reg (X1 := X1 ++ [e]) (Z := X2) (by simp) hRY hX2
     rw [← hev.st] at hreg
     have hT := hI.env hD hR' hn hcl hpre
     have wsp : ∀ b, ba ops e.t e.o = some b → Region.wanted e.o (yielded ops fr.tmps) = b := fun b hb => by
      rw [← kM] at hb
      exact fh hT hb
     have go : ∀ (ρ1 : aE) (w1 : World) (y : Value), Steps E.P (lone fr cs w) (lone (fr.finish y) cs w1) → HR ρ1 e.b w1 → FR (ρ.to e.a.next) w ρ1 w1 → den ρ1 e.v = some y →
      ∃ ρ' w' fr', Steps E.P (lone fr cs w) (lone fr' cs w') ∧ FR ρ0 w0 ρ' w' ∧ HR ρ' s2 w' ∧ jw E.P ρ' f fn (gt done (dN ops.toList 0) t1) k ds (.panicking c) up rd fr' cs := by
      intro ρ1 w1 y hsteps h1 h2 h3
      obtain ⟨ρ', hI'⟩ := hI.effect hD hR' hk hn hX2 h1 h2 h3 hdst'
      obtain ⟨hF', htm⟩ := Nd hF ho y
      rw [← hset, ← htm] at hI'
      obtain ⟨ρ2, w2, fr2, a1, a2⟩ := ihf (τ / (Region.ready .any ops listed).length) _ X1 (e :: (X2 ++ F)) ρ' w1 (fr.finish y) hL' hsz' hleft' hcl' hni' hI' hF'
      exact ⟨ρ2, w2, fr2, hsteps.trans a1, a2⟩
     unfold dY at hst
     split at hst
     ·rename_i hw
      have hwant := wsp _ hw
      rw [← jQ (ops := ops)] at hst
      cases hdo : em E (only e.t (looks ops e.o)) e.a e.o with
      | none => rw [hdo] at hst; cases hst
      | some nx =>
       rw [hdo] at hst
       have hop := mR hE hreg hT e.o hdo
       have hstg : (∀ c, e.o.op ≠ .defer c) → stepG E.P true { frame := fr, callers := cs, status := .running, dying := none } w = stepG.apply E.P true fr cs none (execOp (rv fr.tmps) e.o) w := fun q => iJ hm htd ho hwant (.inr q)
       cases nx with
       | val v s1 =>
        simp only [kT, Option.some.injEq, Prod.mk.injEq] at hst
        obtain ⟨hst1, hst2⟩ := hst
        obtain ⟨ρ1, y, w1, h1, h2, h3, h4⟩ := hop
        have hst := hstg (dM hdo (fun d s' => by intro h; cases h))
        exact go ρ1 w1 y (.one (oK hst h1)) (by rw [← hst2]; exact h3) h4 (by rw [← hst1]; exact h2)
       | skip s1 =>
        simp only [kT, Option.some.injEq, Prod.mk.injEq] at hst
        obtain ⟨hst1, hst2⟩ := hst
        obtain ⟨ρ1, w1, h1, h3, h4⟩ := hop
        have hst := hstg (dM hdo (fun d s' => by intro h; cases h))
        exact go ρ1 w1 undef (.one (DG hst h1)) (by rw [← hst2]; exact h3) h4 (by rw [← hst1]; rfl)
       | enter g args s1 =>
        obtain ⟨ys, h1, h2, h3⟩ := hop
        have hstx := hstg (dM hdo (fun d s' => by intro h; cases h))
        simp only [kT] at hst
        cases hr : bI ih g args none s1 with
        | none => rw [hr] at hst; cases hst
        | some out =>
         rw [hr] at hst
         obtain ⟨hcall, hfin⟩ := lK hg h3 h1 hr
         rw [hcall] at h2
         obtain ⟨ρ1, w1, en, j1, j2, j3, j4⟩ := hfin fr cs
         have hsteps : Steps E.P (lone fr cs w) (lone (cW fr en) cs w1) := .head (sj htd hstx h2) j4
         obtain ⟨oe, oup, os⟩ := out
         cases oe with
         | panicked c => cases hst
         | returned v =>
          simp only [oA, Option.some.injEq, Prod.mk.injEq] at hst
          obtain ⟨hst1, hst2⟩ := hst
          cases en with
          | returned y => exact go ρ1 w1 y hsteps (by rw [← hst2]; exact j1) j2 (by rw [← hst1]; exact j3)
          | panicked _ => exact j3.elim
          | outgrown => exact j3.elim
       | round l args s1 => cases hst
       | defer df s1 => cases hst
       | recover s1 => cases hst
       | panic v s1 => cases hst
     ·rename_i hw
      have hwant := wsp _ hw
      simp only [Option.some.injEq, Prod.mk.injEq] at hst
      obtain ⟨hst1, hst2⟩ := hst
      exact go (ρ.to e.a.next) w undef (.one (jc hm htd (by simp [ho, hwant]))) (by rw [← hst2]; exact hreg) (FR.refl _ _) (by rw [← hst1]; rfl)
     ·cases hst
    ·
     rcases hI.float hD hR' hk hn hcl hpre hdst' with ⟨hwant, hI'⟩ | ⟨hwant, y, w1, ρ1, hrun, hI'⟩
     ·obtain ⟨hF', htm⟩ := Nd hF ho undef
      rw [← hset, ← htm] at hI'
      obtain ⟨ρ2, w2, fr2, a1, a2⟩ := ihf (τ / (Region.ready .any ops listed).length) _ (X1 ++ e :: X2) F ρ w (fr.finish undef) hL hsz' hleft' hcl' hni' hI' hF'
      exact ⟨ρ2, w2, fr2, (Steps.one (jc hm htd (by simp [ho, hwant]))).trans a1, a2⟩
     ·obtain ⟨hF', htm⟩ := Nd hF ho y
      rw [← hset, ← htm] at hI'
      obtain ⟨ρ2, w2, fr2, a1, a2⟩ := ihf (τ / (Region.ready .any ops listed).length) _ (X1 ++ e :: X2) F ρ1 w1 (fr.finish y) hL hsz' hleft' hcl' hni' hI' hF'
      have hnd : ∀ c, e.o.op ≠ .defer c := fun c hc => by
       apply hk
       show aC E.P e.o.op = 3
       rw [hc]; rfl
      exact ⟨ρ2, w2, fr2, (Steps.one (oK (iJ hm htd ho hwant (.inr hnd)) hrun)).trans a1, a2⟩
theorem Ge (hE : jp E) (hmix : E.P.follows .mixedOrders = true) : eH E := by
 intro ih hg f fn id ops k rd t ds up s r hdst e ρ w fr cs h hF
 obtain ⟨hD, hcase⟩ := Dc e
 have hm := uL hF
 have ht := hF.todo rfl
 have hstep := Ox (P := E.P) (cs := cs) (w := w) hm ht
 rw [hmix] at hstep
 simp only [Region.schedule, Bool.true_or, if_true, Region.linearise] at hstep
 have hno : ∀ i, ¬ cL (Array.replicate ops.size false) i := by
  intro i hi
  unfold cL at hi
  rw [Array.getElem?_replicate] at hi
  split at hi <;> cases hi
 have hI0 : ∀ L, vK E t s ρ w L [] (cL (Array.replicate ops.size false)) ρ { w with drawn := w.drawn + 1 } fr.tmps := by
  intro L
  have hto : ρ.to s.next = ρ := aE.to_all fun f v hf => h.fresh f v hf
  refine ⟨trivial, by simp, fun e _ hr => absurd hr (hno _), fun e _ hr => absurd hr (hno _), fun d x hx _ => ?_, fun e _ hr => absurd hr (hno _), ?_, h.inj, h.low, fun f v hf => .inl ?_, FR.drawn w _⟩
  ·rw [hto]; exact hF.tr d x hx
  ·show HR (ρ.to s.next) s _
   rw [hto]; exact h.drawn _
  ·show f < s.next
   exact Nat.lt_of_not_le fun hc => hf (h.fresh f v hc)
 have hF0 : jw E.P ρ f fn .leaf (.inRegion ops (Region.linearise.go .any ops ops.size (w.tape w.drawn (.order fr.fn id)) (Array.replicate ops.size false) []) :: k) ds .run up rd { fr with todo := .inRegion ops (Region.linearise.go .any ops ops.size (w.tape w.drawn (.order fr.fn id)) (Array.replicate ops.size false) []) :: k } cs :=
  ⟨hF.name, hF.func, TR.leaf _ _, hF.size, fun _ => rfl, hF.ds, hF.md, hF.rd, hF.up⟩
 have hcl0 : jx ops (cL (Array.replicate ops.size false)) := fun i k hi => absurd hi (hno _)
 rcases hcase with ⟨L, t', s', rfl, hR, hS, rfl, hall⟩ | ⟨i0, o0, Z0, Y0, done, t1, c, s2, rfl, ho0, hk0, hR, hdone, hS, hpan, hpY1, hpY, hZ, hnew, hall⟩
 ·obtain ⟨ρ', w', fr', a1, a2, a3, a4⟩ := OV (ih := ih) (f := f) (fn := fn) (k := k) (rd := rd) (ds := ds) (up := up) (cs := cs) (ρ0 := ρ) (w0 := w) hE hg hD hdst hR hall hS ops.size _ (Array.replicate ops.size false) L [] ρ { w with drawn := w.drawn + 1 } { fr with todo := .inRegion ops (Region.linearise.go .any ops ops.size (w.tape w.drawn (.order fr.fn id)) (Array.replicate ops.size false) []) :: k } (by simp) (by simp)
   (by simp [kl]) hcl0 (hI0 L) hF0
  exact ⟨ρ', w', fr', cs, .head hstep a1, a2, sm.refl hF, a3, a4, rfl⟩
 ·obtain ⟨ρ', w', fr', a1, a2, a3, a4⟩ := OW (ih := ih) (f := f) (fn := fn) (k := k) (rd := rd) (ds := ds) (up := up) (cs := cs) (ρ0 := ρ) (w0 := w) hE hg hD hdst (fun f v hf => h.fresh f v hf) ho0 hk0 hR hdone hS hpan hpY1 hpY hZ hnew hall ops.size _ (Array.replicate ops.size false) (Z0 ++ Y0) [] ρ { w with drawn := w.drawn + 1 } { fr with todo := .inRegion ops (Region.linearise.go .any ops ops.size (w.tape w.drawn (.order fr.fn id)) (Array.replicate ops.size false) []) :: k } (by simp) (by simp)
   (by simp [kl]) hcl0 (hno _) (hI0 _) hF0
  exact ⟨ρ', w', fr', cs, .head hstep a1, a2, sm.refl hF, a3, a4, rfl⟩
end
def aE.no : aE := fun _ _ => none
theorem HR.empty (w : World) (n : Nat) : HR aE.no ⟨.leaf, n⟩ w :=
 ⟨fun _ _ _ => rfl, fun _ _ _ _ _ _ e => (by cases e), fun _ _ _ e => (by cases e), fun f B hB => by (rw [S.get_eq, T.get_leaf] at hB; cases hB), fun f B hB => by (rw [S.get_eq, T.get_leaf] at hB; cases hB), fun f B hB => by (rw [S.get_eq, T.get_leaf] at hB; cases hB)⟩
theorem xR {P : Program} {f : FuncId} {args : List V} {s : S} {v : V} {u : Option Md} {s' : S} (h : gk P f args none s ⟨.returned v, u, s'⟩) {ρ : aE} {w : World} {ys : List Value} (hr : HR ρ s w) (hd : bj ρ args = some ys) :
 Calls P f ys.toArray w fun e w' => ∃ ρ' y, e = .returned y ∧ den ρ' v = some y ∧ HR ρ' s' w' ∧ FR ρ w ρ' w' := by
 intro cs
 obtain ⟨_, h2⟩ := h ρ w ys hr hd
 obtain ⟨ρ', w', k1, k2, fr', e, k3, k4, k5, k6⟩ := h2 cs (fun u hu => by cases hu)
 cases e with
 | panicked _ => exact k3.elim
 | outgrown => exact k3.elim
 | returned y => exact ⟨.returned y, w', fr', ⟨ρ', y, rfl, k3, k1, k2⟩, k4, k5, k6⟩
theorem FR.keeps {w : World} {ρ' : aE} {w' : World} (h : FR aE.no w ρ' w') : ∀ b, b < w.heap.size → w'.heap[b]? = w.heap[b]? := fun b hb => h.same b hb fun f v l e => by cases e
theorem EM {P : Program} {f : FuncId} {args : List V} {v : V} {n : Nat} {s1 : S} (h : gk P f args none ⟨.leaf, n⟩ ⟨.returned v, none, s1⟩)
 (ha : ∀ ρ ys, bj ρ args = some ys → bj aE.no args = some ys) (hv : ∀ ρ y, den ρ v = some y → ∀ ρ', den ρ' v = some y) (s : S) : gk P f args none s ⟨.returned v, none, s⟩ := by
 intro ρ w ys hr hd
 obtain ⟨h1, h2⟩ := h aE.no w ys (HR.empty w n) (ha ρ ys hd)
 refine ⟨h1, fun cs hup => ?_⟩
 obtain ⟨ρ', w', k1, k2, fr', e, k3, k4, k5, k6⟩ := h2 cs (fun u hu => by cases hu)
 refine ⟨ρ, w', hr.frame k2.size k2.keeps, ⟨ρ.le_refl, k2.size, k2.os, k2.tape, k2.output, fun b hb _ => k2.keeps b hb, fun f v l e _ => ⟨f, v, l, e, rfl, id⟩⟩, fr', e, ?_, k4, k5, k6⟩
 cases e with
 | panicked _ => exact k3.elim
 | outgrown => exact k3.elim
 | returned y => exact hv _ _ k3 _
def Vt (a s : S) : Prop := (∀ f B, a.get f = some B → s.get f = some B) ∧ s.next ≤ a.next
theorem HR.sub {ρ : aE} {a s : S} {w : World} (h : HR ρ s w) (hs : Vt a s) : HR ρ a w :=
 ⟨fun f v hf => h.fresh f v (Nat.le_trans hs.2 hf), h.inj, h.low, fun f B hB => h.blk f B (hs.1 f B hB), fun f B hB => Nat.lt_of_lt_of_le (h.dom f B (hs.1 f B hB)) hs.2, fun f B hB => h.rw f B (hs.1 f B hB)⟩
theorem Ia {P : Program} {f : FuncId} {args : List V} {v : V} {a a' s b : S} (h : gk P f args none a ⟨.returned v, none, a'⟩) (h1 : Vt a s) (h2 : Vt b a') : gk P f args none s ⟨.returned v, none, b⟩ := by
 intro ρ w ys hr hd
 obtain ⟨k1, k2⟩ := h ρ w ys (hr.sub h1) hd
 refine ⟨k1, fun cs hup => ?_⟩
 obtain ⟨ρ', w', j1, j2, fr', e, j3, j4, j5, j6⟩ := k2 cs (fun u hu => by cases hu)
 exact ⟨ρ', w', j1.sub h2, j2, fr', e, j3, j4, j5, j6⟩
def BY (u v : nh) : Bool := Nat.beq u.v v.v && Nat.beq u.lo v.lo && bn u.cells v.cells
def rb : List nh → List nh → Bool
 | [], [] => true
 | u :: r, v :: q => BY u v && rb r q
 | _, _ => false
def Cb (x y : qO) : Bool := bn [x.key, x.val] [y.key, y.val] && Nat.beq x.born y.born
def rc : List qO → List qO → Bool
 | [], [] => true
 | u :: r, v :: q => Cb u v && rc r q
 | _, _ => false
def Cd : bZ → bZ → Bool
 | .cells e sb nv vs, .cells e' sb' nv' vs' => Nat.beq e e' && (sb == sb') && Nat.beq nv nv' && rb vs vs'
 | .map es c, .map es' c' => rc es es' && Nat.beq c c'
 | .gone, .gone => true
 | _, _ => false
def OE : Option bZ → Option bZ → Bool
 | none, _ => true
 | some a, some b => Cd a b
 | some _, none => false
def Ot : T bZ → T bZ → Bool
 | .leaf, _ => true
 | .node l v r, .node l' v' r' => OE v v' && Ot l l' && Ot r r'
 | .node _ _ _, .leaf => false
def Ri (a s : S) : Bool := Nat.ble s.next a.next && Ot a.h s.h
theorem BX {u v : nh} (h : BY u v = true) : u = v := by
 unfold BY at h
 simp only [Bool.and_eq_true] at h
 cases u; cases v
 simp only at h
 rw [Nat.eq_of_beq_eq_true h.1.1, Nat.eq_of_beq_eq_true h.1.2, cM h.2]
theorem pE : ∀ {a b : List nh}, rb a b = true → a = b
 | [], [], _ => rfl
 | [], _ :: _, h => by cases h
 | _ :: _, [], h => by cases h
 | u :: r, v :: q, h => by
  simp only [rb, Bool.and_eq_true] at h
  rw [BX h.1, pE h.2]
theorem BZ {u v : qO} (h : Cb u v = true) : u = v := by
 unfold Cb at h
 simp only [Bool.and_eq_true] at h
 have h1 := cM h.1
 have h2 := Nat.eq_of_beq_eq_true h.2
 cases u; cases v
 simp only [List.cons.injEq, and_true] at h1 h2
 rw [h1.1, h1.2, h2]
theorem pF : ∀ {a b : List qO}, rc a b = true → a = b
 | [], [], _ => rfl
 | [], _ :: _, h => by cases h
 | _ :: _, [], h => by cases h
 | u :: r, v :: q, h => by
  simp only [rc, Bool.and_eq_true] at h
  rw [BZ h.1, pF h.2]
theorem Cc : ∀ {a b : bZ}, Cd a b = true → a = b := by
 intro a b h
 unfold Cd at h
 split at h
 ·simp only [Bool.and_eq_true, beq_iff_eq] at h
  rw [Nat.eq_of_beq_eq_true h.1.1.1, h.1.1.2, Nat.eq_of_beq_eq_true h.1.2, pE h.2]
 ·simp only [Bool.and_eq_true] at h
  rw [pF h.1, Nat.eq_of_beq_eq_true h.2]
 ·rfl
 ·cases h
theorem sC : ∀ {a b : T bZ}, Ot a b = true → ∀ p B, a.get p = some B → b.get p = some B
 | .leaf, _, _, p, B, e => by rw [T.get_leaf] at e; cases e
 | .node _ _ _, .leaf, h, _, _, _ => by cases h
 | .node l v r, .node l' v' r', h, p, B, e => by
  simp only [Ot, Bool.and_eq_true] at h
  cases p with
  | o =>
   rw [T.get_o] at e ⊢
   subst e
   cases v' with
   | none => have := h.1.1; cases this
   | some B' => rw [Cc (a := B) (b := B') h.1.1]
  | l p => rw [T.get_l] at e ⊢; exact sC h.1.2 p B e
  | r p => rw [T.get_r] at e ⊢; exact sC h.2 p B e
theorem zE {a s : S} (h : Ri a s = true) : Vt a s := by
 unfold Ri at h
 simp only [Bool.and_eq_true] at h
 exact ⟨fun f B hB => by rw [S.get_eq] at hB ⊢; exact sC h.2 _ B hB, Nat.le_of_ble_eq_true h.1⟩
def ki (E : cx) (n : Nat) (f : FuncId) (args : List V) (a : S) (v : V) (b : S) : Bool :=
 match qn E n (.call f args none) a with
 | some ⟨.returned v', none, s'⟩ => bn [v] [v'] && Ri b s'
 | _ => false
theorem dU {E : cx} (hE : jp E) (hO : sn E) (hD : eH E) {n : Nat} {f : FuncId} {args : List V} {a : S} {v : V} {b : S} (h : ki E n f args a v b = true) {s : S} (hs : Vt a s) : gk E.P f args none s ⟨.returned v, none, b⟩ := by
 unfold ki at h
 split at h
 ·rename_i v' s' hr
  simp only [Bool.and_eq_true] at h
  have h1 := cM h.1
  simp at h1
  subst h1
  exact Ia (mI hE hO hD n _ _ _ hr) hs (zE h.2)
 ·cases h
def gg (E : cx) (n : Nat) (f : FuncId) (args : List V) (v : V) : Bool :=
 match qn E n (.call f args none) ⟨.leaf, 0⟩ with
 | some ⟨.returned v', none, _⟩ => bn [v] [v']
 | _ => false
def V.flat : V → Bool
 | .bool _ => true
 | .int _ _ => true
 | .str _ => true
 | .nilptr => true
 | .nilslice => true
 | .nilmap => true
 | .nilFunc => true
 | .nilIface => true
 | _ => false
theorem FU {v : V} (h : v.flat = true) : ∀ ρ y, den ρ v = some y → ∀ ρ', den ρ' v = some y := by
 intro ρ y e ρ'
 cases v <;> simp [V.flat] at h <;> exact e
theorem Ai : ∀ {l : List V}, l.all V.flat = true → ∀ ρ ys, bj ρ l = some ys → bj aE.no l = some ys
 | [], _, _, _, e => e
 | v :: l, h, ρ, ys, e => by
  simp only [List.all_cons, Bool.and_eq_true] at h
  obtain ⟨y, q, h1, h2, rfl⟩ := bi.1 e
  exact bi.2 ⟨y, q, FU h.1 _ _ h1 _, Ai h.2 _ _ h2, rfl⟩
theorem bW {E : cx} (hE : jp E) (hO : sn E) (hD : eH E) {n : Nat} {f : FuncId} {args : List V} {v : V} (h : gg E n f args v = true) (ha : args.all V.flat = true) (hv : v.flat = true) (s : S) : gk E.P f args none s ⟨.returned v, none, s⟩ := by
 unfold gg at h
 split at h
 ·rename_i v' s' hr
  have h1 := cM h
  simp at h1
  subst h1
  exact EM (mI hE hO hD n _ _ _ hr) (Ai ha) (FU hv) s
 ·cases h
structure kA where
 f : FuncId
 args : List V
 a : S
 v : V
 b : S
def kA.fits (k : kA) (f : FuncId) (args : List V) (s : S) : Bool := Nat.beq f k.f && (bn args k.args && Ri k.a s)
def vw : List kA → FuncId → List V → S → Option (V × S)
 | [], _, _, _ => none
 | k :: r, f, args, s => bif k.fits f args s then some (k.v, k.b) else vw r f args s
theorem rz : ∀ {l : List kA} {f : FuncId} {args : List V} {s : S} {v : V} {s' : S}, vw l f args s = some (v, s') → ∃ k ∈ l, k.f = f ∧ k.args = args ∧ Vt k.a s ∧ k.v = v ∧ k.b = s'
 | [], _, _, _, _, _, h => by cases h
 | k :: r, f, args, s, v, s', h => by
  simp only [vw] at h
  cases hb : k.fits f args s with
  | true =>
   rw [hb] at h
   cases h
   unfold kA.fits at hb
   simp only [Bool.and_eq_true] at hb
   exact ⟨k, by simp, (Nat.eq_of_beq_eq_true hb.1).symm, (cM hb.2.1).symm, zE hb.2.2, rfl, rfl⟩
  | false =>
   rw [hb] at h
   obtain ⟨k', h1, h2⟩ := rz h
   exact ⟨k', List.mem_cons_of_mem _ h1, h2⟩
def iL (f0 : FuncId) (l : List (List Nat × V)) (f : FuncId) (args : List V) (s : S) : Option (V × S) := bif Nat.beq f f0 then look args l else none
 where
  look : List V → List (List Nat × V) → Option (V × S)
   | [.str x], (y, v) :: r => bif x == y then some (v, s) else look [.str x] r
   | _, _ => none
theorem zT {s : S} : ∀ {l : List (List Nat × V)} {args : List V} {v : V} {s' : S}, iL.look s args l = some (v, s') → ∃ x, args = [.str x] ∧ (x, v) ∈ l ∧ s' = s
 | [], args, v, s', h => by
  have : iL.look s args [] = none := by cases args with
   | nil => rfl
   | cons a r => cases a <;> cases r <;> rfl
  rw [this] at h; cases h
 | (y, u) :: r, args, v, s', h => by
  unfold iL.look at h
  split at h
  ·rename_i x y' u' r' he
   cases he
   cases hb : (x == y) with
   | true =>
    rw [hb] at h
    cases h
    have : x = y := by simpa using hb
    subst this
    exact ⟨x, rfl, by simp, rfl⟩
   | false =>
    rw [hb] at h
    obtain ⟨x', h1, h2, h3⟩ := zT h
    exact ⟨x', h1, List.mem_cons_of_mem _ h2, h3⟩
  ·cases h
theorem wQ {f0 : FuncId} {l : List (List Nat × V)} {f : FuncId} {args : List V} {s : S} {v : V} {s' : S} (h : iL f0 l f args s = some (v, s')) : f = f0 ∧ ∃ x, args = [.str x] ∧ (x, v) ∈ l ∧ s' = s := by
 unfold iL at h
 cases hb : Nat.beq f f0 with
 | false => rw [hb] at h; cases h
 | true => rw [hb] at h; exact ⟨Nat.eq_of_beq_eq_true hb, zT h⟩
end Go.AI
