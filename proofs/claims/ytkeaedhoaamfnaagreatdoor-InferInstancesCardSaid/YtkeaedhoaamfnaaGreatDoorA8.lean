/- The evaluator by which runs of the program are reckoned, and that it is sound: part 8. No conditions beyond those of the row. -/
import Derived.Test.YtkeaedhoaamfnaaGreatDoorA7
import Derived.Orders
set_option linter.unusedVariables false
set_option linter.unusedSimpArgs false
noncomputable section
namespace Go.AI
def left : List Bool → Nat
 | [] => 0
 | true :: r => left r
 | false :: r => left r + 1
theorem vj : ∀ (l : List Bool) (i : Nat), l[i]? = some false → left (l.set i true) + 1 = left l
 | [], i, h => by simp at h
 | b :: r, 0, h => by simp at h; subst h; simp [left]
 | b :: r, i + 1, h => by
  have := vj r i (by simpa using h)
  cases b <;> simp [left] <;> omega
theorem rB : ∀ (l : List Bool), left l = 0 → ∀ i : Nat, l[i]? ≠ some false
 | [], _, i => by simp
 | true :: r, h, 0 => by simp
 | false :: r, h, _ => by simp [left] at h
 | true :: r, h, i + 1 => by simpa using rB r h i
theorem jM : ∀ n, left (List.replicate n false) = n
 | 0 => rfl
 | n + 1 => by simp [List.replicate_succ, left, jM n]
def cv (listed : Array Bool) : Nat → Prop := fun i => listed[i]? = some true
section
variable {P : Program} {ops : Array Oper} {listed : Array Bool}
theorem ve {i : Nat} (hs : i < listed.size) : cv (listed.setIfInBounds i true) = with1 (cv listed) i := by
 funext k
 unfold cv with1
 apply propext
 by_cases h : i = k
 ·subst h; simp [hs]
 ·rw [Array.getElem?_setIfInBounds_ne h]
  constructor
  ·exact fun h => .inl h
  ·rintro (h1 | h1)
   ·exact h1
   ·exact absurd h1.symm h
theorem yd {i : Nat} (hs : listed.size = ops.size) (h : i ∈ Region.ready .any ops listed) : ∃ o, ops[i]? = some o ∧ listed[i]? = some false ∧ ∀ e ∈ o.after, Region.binds .any e = true → cv listed e.on := by
 unfold Region.ready at h
 rw [List.mem_filter] at h
 obtain ⟨h1, h2⟩ := h
 have hi : i < ops.size := by simpa using h1
 simp only [Bool.and_eq_true, Bool.not_eq_true'] at h2
 obtain ⟨h2, h3⟩ := h2
 refine ⟨ops[i], by simp [hi], ?_, ?_⟩
 ·have : i < listed.size := by omega
  rw [Array.getElem?_eq_getElem this]
  rw [Array.getD_eq_getD_getElem?, Array.getElem?_eq_getElem this] at h2
  simpa using h2
 ·rw [Array.getElem?_eq_getElem hi] at h3
  simp only [Option.map_some, Option.getD_some] at h3
  rw [Array.all_eq_true'] at h3
  intro e he hb
  have := h3 e he
  rw [hb] at this
  simp only [Bool.not_true, Bool.false_or] at this
  unfold cv
  rw [Array.getD_eq_getD_getElem?] at this
  cases hl : listed[e.on]? with
  | none => rw [hl] at this; cases this
  | some b => rw [hl] at this; simp at this; rw [this]
theorem xS (hE : gr ops) (hs : listed.size = ops.size) (h : Region.ready .any ops listed = []) : ∀ i, i < ops.size → cv listed i := by
 intro i
 induction i using Nat.strongRecOn with
 | ind i ih =>
  intro hi
  have hi' : i < listed.size := by omega
  cases hb : listed[i] with
  | true => unfold cv; rw [Array.getElem?_eq_getElem hi', hb]
  | false =>
   exfalso
   have : i ∈ Region.ready .any ops listed := by
    unfold Region.ready
    rw [List.mem_filter]
    refine ⟨by simpa using hi, ?_⟩
    simp only [Bool.and_eq_true, Bool.not_eq_true']
    refine ⟨by rw [Array.getD_eq_getD_getElem?, Array.getElem?_eq_getElem hi', hb]; rfl, ?_⟩
    rw [Array.getElem?_eq_getElem hi]
    simp only [Option.map_some, Option.getD_some]
    rw [Array.all_eq_true']
    intro e he
    cases hbi : Region.binds .any e with
    | false => rfl
    | true =>
     have hlt := hE i ops[i] (by simp [hi]) e he hbi
     have := ih e.on hlt (by omega)
     unfold cv at this
     rw [Array.getD_eq_getD_getElem?, this]
     rfl
   rw [h] at this
   cases this
theorem uN (hE : gr ops) {R : Nat → Prop} (hcl : iZ ops R) {i : Nat} {o : Oper} (ho : ops[i]? = some o) (h : ∀ e ∈ o.after, Region.binds .any e = true → R e.on) : ∀ k, lA ops i k → R k := by
 intro k hk
 obtain ⟨e, h1, h2, h3⟩ := (tE hE ho).1 hk
 rcases h3 with rfl | h3
 ·exact h e h1 h2
 ·exact hcl e.on k (h e h1 h2) h3
end
section
variable {E : cg} {ih : sd → S → Option cX} {ops : Array Oper} {t0 : T V} {s0 : S} {ρ0 : aq} {w0 : World} {f : FuncId} {fn : Func} {k : List Item} {rd : Option Nat} {ds : List dT} {up : Option Md} {cs : List Frame}
theorem Jc {fr : Frame} {i : Nat} {rest : List Nat} {o : Oper} (hF : iY E.P ρ0 f fn .leaf (.inRegion ops (i :: rest) :: k) ds .run up rd fr cs) (ho : ops[i]? = some o) (y : Value) :
 iY E.P ρ0 f fn .leaf (.inRegion ops rest :: k) ds .run up rd (fr.finish y) cs ∧ (fr.finish y).tmps = ni fr.tmps o.dst y := by
 rw [yw (hF.todo rfl) ho]
 refine ⟨⟨hF.name, hF.func, TR.leaf _ _, ?_, fun _ => rfl, hF.ds, hF.md, hF.rd, hF.up⟩, rfl⟩
 show fn.ntmps ≤ (ni fr.tmps o.dst y).size
 have := hF.size
 unfold ni
 split <;> simpa using this
theorem KW (hE : iQ E) (hg : Good E.P ih) (hD : ke ops) (hdst : gp ops fn.ntmps = true) {L : List Ev} (hR : ei E (bq ih) ops t0 s0 L) (hall : ∀ k, k < ops.size → ∃ q ∈ L, q.i = k) {t' : T V} (hS : nR t0 L t') :
 ∀ (fuel τ : Nat) (listed : Array Bool) (X F : List Ev) (ρ : aq) (w : World) (fr : Frame), L = X ++ F → listed.size = ops.size → left listed.toList ≤ fuel → iZ ops (cv listed) →
  tY E t0 s0 ρ0 w0 X F (cv listed) ρ w fr.tmps → iY E.P ρ0 f fn .leaf (.inRegion ops (Region.linearise.go .any ops fuel τ listed []) :: k) ds .run up rd fr cs →
  ∃ ρ' w' fr', Steps E.P (lone fr cs w) (lone fr' cs w') ∧ FR ρ0 w0 ρ' w' ∧ HR ρ' (cD s0 L) w' ∧ iY E.P ρ' f fn t' k ds .run up rd fr' cs := by
 have fin : ∀ (listed : Array Bool) (X F : List Ev) (ρ : aq) (w : World) (fr : Frame), L = X ++ F → (∀ i, i < ops.size → cv listed i) → tY E t0 s0 ρ0 w0 X F (cv listed) ρ w fr.tmps →
  iY E.P ρ0 f fn .leaf (.inRegion ops [] :: k) ds .run up rd fr cs → ∃ ρ' w' fr', Steps E.P (lone fr cs w) (lone fr' cs w') ∧ FR ρ0 w0 ρ' w' ∧ HR ρ' (cD s0 L) w' ∧ iY E.P ρ' f fn t' k ds .run up rd fr' cs := by
  intro listed X F ρ w fr hL hfull hI hF
  have hin : ∀ e ∈ L, cv listed e.i := fun e he => by
   obtain ⟨_, _, _, k1, _⟩ := ei.ok hR he
   exact hfull e.i (by
    rcases Nat.lt_or_ge e.i ops.size with h | h
    ·exact h
    ·have := k1.op; rw [Array.getElem?_eq_none h] at this; cases this)
  have hreg := hI.reg (X1 := []) (Z := X) (by simp) (by rw [← hL]; exact hR) fun e he => hin e (by rw [hL]; simp [he])
  rw [← hL] at hreg
  have hfresh : ∀ f v, (cD s0 L).next ≤ f → ρ f v = none := by
   intro f v hf
   cases hr : ρ f v with
   | none => rfl
   | some l =>
    exfalso
    have hFn : (cD s0 F).next ≤ (cD s0 L).next := by rw [hL] at hR ⊢; exact ei.next_le hR
    rcases hI.fresh f v (by rw [hr]; exact fun h => by cases h) with h1 | ⟨q, q1, q2, q3, q4⟩
    ·omega
    ·have hq : q ∈ L := by rw [hL]; simp [q1]
     obtain ⟨Xa, Y, hLa, k1, k2⟩ := ei.ok hR hq
     have : (cD s0 (q :: Y)).next ≤ (cD s0 L).next := by rw [hLa] at hR ⊢; exact ei.next_le hR
     have : q.b.next ≤ (cD s0 L).next := this
     omega
  rw [aq.to_all hfresh] at hreg
  refine ⟨ρ, w, _, .one (pV (th hF) (hF.todo rfl)), hI.fr, hreg, ?_⟩
  have hF' := (hF.mono hI.fr.ext).to k
  refine ⟨hF'.name, hF'.func, fun d x hx => ?_, hF'.size, hF'.todo, hF'.ds, hF'.md, hF'.rd, hF'.up⟩
  rcases hS d with ⟨q, q1, q2, q3⟩ | ⟨q1, q2⟩
  ·rw [q3] at hx; cases hx
   obtain ⟨y, y1, y2⟩ := hI.vals q (by rw [← hL]; exact q1) (hin q q1)
   exact ⟨y, bA (aq.to_le_self ρ _) _ _ y1, y2 d q2⟩
  ·rw [q2] at hx
   obtain ⟨y, y1, y2⟩ := hI.olds d x hx fun q hq _ => q1 q (by rw [hL]; exact hq)
   exact ⟨y, bA (aq.to_le_self ρ _) _ _ y1, y2⟩
 intro fuel
 induction fuel with
 | zero =>
  intro τ listed X F ρ w fr hL hs hleft hcl hI hF
  refine fin listed X F ρ w fr hL (fun i hi => ?_) hI (by simpa [Region.linearise.go] using hF)
  have := rB listed.toList (by omega) i
  have hi' : i < listed.size := by omega
  unfold cv
  rw [Array.getElem?_eq_getElem hi']
  cases hb : listed[i] with
  | true => rfl
  | false => exfalso; apply this; rw [Array.getElem?_toList, Array.getElem?_eq_getElem hi', hb]
 | succ fuel ihf =>
  intro τ listed X F ρ w fr hL hs hleft hcl hI hF
  simp only [Region.linearise.go] at hF
  change iY E.P ρ0 f fn .leaf (.inRegion ops (match (Region.ready .any ops listed)[τ % (Region.ready .any ops listed).length]? with
   | some i => Region.linearise.go .any ops fuel (τ / (Region.ready .any ops listed).length) (listed.setIfInBounds i true) [i]
   | none => [].reverse) :: k) ds .run up rd fr cs at hF
  cases hi : (Region.ready .any ops listed)[τ % (Region.ready .any ops listed).length]? with
  | none =>
   have hnil : Region.ready .any ops listed = [] := by
    cases hr : Region.ready .any ops listed with
    | nil => rfl
    | cons x xs =>
     rw [hr] at hi
     have hlt : τ % (x :: xs).length < (x :: xs).length := Nat.mod_lt _ (by simp)
     simp at hi
     simp at hlt
     omega
   rw [hi] at hF
   exact fin listed X F ρ w fr hL (xS hD.back hs hnil) hI hF
  | some i =>
   rw [hi] at hF
   simp only at hF
   rw [linearise_go_acc, List.reverse_singleton, List.singleton_append] at hF
   obtain ⟨o, ho, hfalse, hed⟩ := yd hs (List.mem_of_getElem? hi)
   have hn : ¬ cv listed i := fun h => by unfold cv at h; rw [hfalse] at h; cases h
   have hpre := uN hD.back hcl ho hed
   have hisz : i < listed.size := by
    rcases Nat.lt_or_ge i listed.size with h | h
    ·exact h
    ·rw [Array.getElem?_eq_none h] at hfalse; cases hfalse
   obtain ⟨e, heL, hei⟩ := hall i (by omega)
   subst hei
   obtain ⟨_, _, _, hev0, _⟩ := ei.ok hR heL
   have heo : e.o = o := by have := hev0.op; rw [ho] at this; cases this; rfl
   subst heo
   have heX : e ∈ X := by
    rw [hL] at heL
    rcases List.mem_append.1 heL with h | h
    ·exact h
    ·exact absurd (hI.inF e h) hn
   obtain ⟨X1, X2, rfl⟩ := List.append_of_mem heX
   have hL' : L = X1 ++ e :: (X2 ++ F) := by rw [hL]; simp
   have hR' := hR
   rw [hL'] at hR'
   obtain ⟨hev, hRY⟩ := ei.at hR'
   have hdst' : ∀ d, e.o.dst = some d → d < fr.tmps.size := fun d hd => Nat.lt_of_lt_of_le (pD hdst ho d hd) hF.size
   have hm := th hF
   have htd := hF.todo rfl
   have hsz' : (listed.setIfInBounds e.i true).size = ops.size := by simpa using hs
   have hleft' : left (listed.setIfInBounds e.i true).toList ≤ fuel := by
    have := vj listed.toList e.i (by rw [Array.getElem?_toList]; exact hfalse)
    rw [Array.toList_setIfInBounds]; omega
   have hset := ve hisz
   have hcl' : iZ ops (cv (listed.setIfInBounds e.i true)) := by rw [hset]; exact hcl.with1 hpre
   by_cases hk : kf E e.o
   ·
    have hstep : dH E (bq ih) e.t e.a e.o (aM ops e.t e.o) = some (e.v, e.b) ∧ ∀ q ∈ X2 ++ F, lA ops e.i q.i := by
     rcases hev.step with ⟨hk', _⟩ | ⟨_, h1, _, h2⟩
     ·exact absurd hk hk'
     ·exact ⟨h1, h2⟩
    obtain ⟨hst, hXF⟩ := hstep
    have hX2 : ∀ q ∈ X2, cv listed q.i := fun q hq => hpre _ (hXF q (by simp [hq]))
    have hreg := hI.reg (X1 := X1 ++ [e]) (Z := X2) (by simp) hRY hX2
    rw [← hev.st] at hreg
    have hT := hI.env hD hR' hn hcl hpre
    have wsp : ∀ b, aM ops e.t e.o = some b → Region.wanted e.o (yielded ops fr.tmps) = b := fun b hb => by
     rw [← kx] at hb
     exact eN hT hb
    have go : ∀ (ρ1 : aq) (w1 : World) (y : Value), Steps E.P (lone fr cs w) (lone (fr.finish y) cs w1) → HR ρ1 e.b w1 → FR (ρ.to e.a.next) w ρ1 w1 → den ρ1 e.v = some y →
     ∃ ρ' w' fr', Steps E.P (lone fr cs w) (lone fr' cs w') ∧ FR ρ0 w0 ρ' w' ∧ HR ρ' (cD s0 L) w' ∧ iY E.P ρ' f fn t' k ds .run up rd fr' cs := by
     intro ρ1 w1 y hsteps h1 h2 h3
     obtain ⟨ρ', hI'⟩ := hI.effect hD hR' hk hn hX2 h1 h2 h3 hdst'
     obtain ⟨hF', htm⟩ := Jc hF ho y
     rw [← hset, ← htm] at hI'
     obtain ⟨ρ2, w2, fr2, a1, a2⟩ := ihf (τ / (Region.ready .any ops listed).length) _ X1 (e :: (X2 ++ F)) ρ' w1 (fr.finish y) hL' hsz' hleft' hcl' hI' hF'
     exact ⟨ρ2, w2, fr2, hsteps.trans a1, a2⟩
    unfold dH at hst
    split at hst
    ·rename_i hw
     have hwant := wsp _ hw
     rw [← js (ops := ops)] at hst
     cases hdo : dV E (only e.t (looks ops e.o)) e.a e.o with
     | none => rw [hdo] at hst; cases hst
     | some nx =>
      rw [hdo] at hst
      have hop := ma hE hreg hT e.o hdo
      have hstg : (∀ c, e.o.op ≠ .defer c) → stepG E.P true { frame := fr, callers := cs, status := .running, dying := none } w = stepG.apply E.P true fr cs none (execOp (rv fr.tmps) e.o) w := fun q => ij hm htd ho hwant (.inr q)
      cases nx with
      | val v s1 =>
       simp only [kG, Option.some.injEq, Prod.mk.injEq] at hst
       obtain ⟨hst1, hst2⟩ := hst
       obtain ⟨ρ1, y, w1, h1, h2, h3, h4⟩ := hop
       have hst := hstg (dy hdo (fun d s' => by intro h; cases h))
       exact go ρ1 w1 y (.one (nQ hst h1)) (by rw [← hst2]; exact h3) h4 (by rw [← hst1]; exact h2)
      | skip s1 =>
       simp only [kG, Option.some.injEq, Prod.mk.injEq] at hst
       obtain ⟨hst1, hst2⟩ := hst
       obtain ⟨ρ1, w1, h1, h3, h4⟩ := hop
       have hst := hstg (dy hdo (fun d s' => by intro h; cases h))
       exact go ρ1 w1 undef (.one (Bd hst h1)) (by rw [← hst2]; exact h3) h4 (by rw [← hst1]; rfl)
      | enter g args s1 =>
       obtain ⟨ys, h1, h2, h3⟩ := hop
       have hstx := hstg (dy hdo (fun d s' => by intro h; cases h))
       simp only [kG] at hst
       cases hr : bq ih g args none s1 with
       | none => rw [hr] at hst; cases hst
       | some out =>
        rw [hr] at hst
        obtain ⟨hcall, hfin⟩ := li hg h3 h1 hr
        rw [hcall] at h2
        obtain ⟨ρ1, w1, en, j1, j2, j3, j4⟩ := hfin fr cs
        have hsteps : Steps E.P (lone fr cs w) (lone (cE fr en) cs w1) := .head (qV htd hstx h2) j4
        obtain ⟨oe, oup, os⟩ := out
        cases oe with
        | panicked c => cases hst
        | returned v =>
         simp only [nG, Option.some.injEq, Prod.mk.injEq] at hst
         obtain ⟨hst1, hst2⟩ := hst
         cases en with
         | returned y => exact go ρ1 w1 y hsteps (by rw [← hst2]; exact j1) j2 (by rw [← hst1]; exact j3)
         | panicked _ => exact j3.elim
         | outgrown => exact j3.elim
      | round l args s1 => cases hst
      | defer df s1 => cases hst
      | recover s1 => cases hst
      | panic v s1 => cases hst
    ·rename_i hw
     have hwant := wsp _ hw
     simp only [Option.some.injEq, Prod.mk.injEq] at hst
     obtain ⟨hst1, hst2⟩ := hst
     exact go (ρ.to e.a.next) w undef (.one (iC hm htd (by simp [ho, hwant]))) (by rw [← hst2]; exact hreg) (FR.refl _ _) (by rw [← hst1]; rfl)
    ·cases hst
   ·
    rcases hI.float hD hR' hk hn hcl hpre hdst' with ⟨hwant, hI'⟩ | ⟨hwant, y, w1, ρ1, hrun, hI'⟩
    ·obtain ⟨hF', htm⟩ := Jc hF ho undef
     rw [← hset, ← htm] at hI'
     obtain ⟨ρ2, w2, fr2, a1, a2⟩ := ihf (τ / (Region.ready .any ops listed).length) _ (X1 ++ e :: X2) F ρ w (fr.finish undef) hL hsz' hleft' hcl' hI' hF'
     exact ⟨ρ2, w2, fr2, (Steps.one (iC hm htd (by simp [ho, hwant]))).trans a1, a2⟩
    ·obtain ⟨hF', htm⟩ := Jc hF ho y
     rw [← hset, ← htm] at hI'
     obtain ⟨ρ2, w2, fr2, a1, a2⟩ := ihf (τ / (Region.ready .any ops listed).length) _ (X1 ++ e :: X2) F ρ1 w1 (fr.finish y) hL hsz' hleft' hcl' hI' hF'
     have hnd : ∀ c, e.o.op ≠ .defer c := fun c hc => by
      apply hk
      show al E.P e.o.op = 3
      rw [hc]; rfl
     exact ⟨ρ2, w2, fr2, (Steps.one (nQ (ij hm htd ho hwant (.inr hnd)) hrun)).trans a1, a2⟩
theorem Kj {P : Program} {fr : Frame} {cs : List Frame} {w : World} {id : Nat} (hm : fr.mode = .run) (ht : fr.todo = .code (.region id ops true) :: k) :
 step P (lone fr cs w) = .next (lone { fr with todo := .inRegion ops (Region.schedule (P.follows .mixedOrders) ops (w.tape w.drawn (.order fr.fn id))) :: k } cs { w with drawn := w.drawn + 1 }) :=
 step_lone_go (by simp [stepG, stepG.exec, hm, ht, choose, Sem.run, Question.forced, Question.cut])
end
section
variable {E : cg} {ih : sd → S → Option cX} {ops : Array Oper} {t0 : T V} {s0 : S} {ρ0 : aq} {w0 : World} {f : FuncId} {fn : Func} {k : List Item} {rd : Option Nat} {ds : List dT} {up : Option Md} {cs : List Frame}
theorem jn {done : Nat} {d : Tmp} {x : V} : ∀ {l : List (Nat × Oper)} {t : T V}, (fS done l t).get (eT d) = some x → t.get (eT d) = some x ∧ ∀ a o, (a, o) ∈ l → o.dst = some d → done.testBit a = true
 | [], t, h => ⟨h, fun _ _ h => by cases h⟩
 | (a, o) :: r, t, h => by
  simp only [fS] at h
  cases hb : done.testBit a with
  | true =>
   rw [hb] at h
   obtain ⟨h1, h2⟩ := jn h
   refine ⟨h1, fun a' o' hm hd => ?_⟩
   rcases List.mem_cons.1 hm with hm | hm
   ·cases hm; exact hb
   ·exact h2 a' o' hm hd
  | false =>
   rw [hb] at h
   simp only [cond_false] at h
   cases ho : o.dst with
   | none =>
    rw [ho] at h
    obtain ⟨h1, h2⟩ := jn h
    refine ⟨h1, fun a' o' hm hd => ?_⟩
    rcases List.mem_cons.1 hm with hm | hm
    ·cases hm; rw [ho] at hd; cases hd
    ·exact h2 a' o' hm hd
   | some e =>
    rw [ho] at h
    simp only at h
    rw [T.setK_eq] at h
    obtain ⟨h1, h2⟩ := jn h
    rw [T.get_setN] at h1
    by_cases hed : e = d
    ·rw [if_pos hed] at h1; cases h1
    ·rw [if_neg hed] at h1
     refine ⟨h1, fun a' o' hm hd => ?_⟩
     rcases List.mem_cons.1 hm with hm | hm
     ·cases hm; rw [ho] at hd; cases hd; exact absurd rfl hed
     ·exact h2 a' o' hm hd
theorem FR.to_start {ρ : aq} {w : World} {n : Nat} (h : FR ρ0 w0 ρ w) (h0 : ∀ f v, n ≤ f → ρ0 f v = none) : FR ρ0 w0 (ρ.to n) w :=
 ⟨fun f v l e => by
  have hf : f < n := Nat.lt_of_not_le fun hc => by rw [h0 f v hc] at e; cases e
  rw [aq.to_of hf]; exact h.ext f v l e, h.size, h.os, h.tape, h.output, h.same, fun f v l e hl => h.new f v l (aq.to_lt e).2 hl⟩
theorem tY.envP {rec : fu} {Z X2 F : List Ev} {i : Nat} {o : Oper} {t1 : T V} {R : Nat → Prop} {ρ : aq} {w : World} {tm : Array Value} (hD : ke ops) (h : tY E t0 s0 ρ0 w0 (Z ++ X2) F R ρ w tm)
 (hR : ei E rec ops t0 s0 (Z ++ (X2 ++ F))) (ho : ops[i]? = some o) (hpY : ∀ k, lA ops i k → ∃ q ∈ X2 ++ F, q.i = k) (hnew : ∀ q ∈ Z ++ (X2 ++ F), q.i ≠ i) (hslots : nR t0 (X2 ++ F) t1)
 (hn : ¬ R i) (hcl : iZ ops R) (hpre : ∀ k, lA ops i k → R k) : TR (ρ.to (cD s0 (X2 ++ F)).next) (only t1 (looks ops o)) tm := by
 have hL : Z ++ X2 ++ F = Z ++ (X2 ++ F) := by simp
 have hRY : ei E rec ops t0 s0 (X2 ++ F) := ei.suf hR
 intro d x hx
 rw [nk] at hx
 split at hx
 ·rename_i hd
  have hord : ∀ q oq, ops[q]? = some oq → oq.dst = some d → q ≠ i → lA ops i q ∨ lA ops q i := by
   intro q oq hq hdq hqi
   rcases List.mem_append.1 hd with hd | hd
   ·exact hD.sees i q o oq d ho hq (fun h => hqi h.symm) hdq hd
   ·unfold oi at hd
    split at hd
    ·rename_i g b hg
     have hgd : ((ops[g]?).bind (·.dst)) = some d := by simpa using hd
     cases hog : ops[g]? with
     | none => rw [hog] at hgd; cases hgd
     | some og =>
      rw [hog] at hgd
      by_cases hgq : g = q
      ·subst hgq; exact .inl (hD.guard i o g b ho hg)
      ·exact absurd hgd (hD.dst g q og oq d hog hq hgq hdq)
    ·simp at hd
  have hle : ∀ q ∈ X2 ++ F, q.b.next ≤ (cD s0 (X2 ++ F)).next := fun q hq => by
   obtain ⟨Y1, Y2, hY⟩ := List.append_of_mem hq
   rw [hY] at hRY ⊢
   exact ei.next_le (Y := q :: Y2) hRY
  rcases hslots d with ⟨q, q1, q2, q3⟩ | ⟨q1, q2⟩
  ·rw [q3] at hx; cases hx
   obtain ⟨Ya, Yb, hY, hqev, _⟩ := ei.ok hRY q1
   have hqi : q.i ≠ i := hnew q (List.mem_append_right _ q1)
   rcases hord q.i q.o hqev.op q2 hqi with p | p
   ·obtain ⟨y, y1, y2⟩ := h.vals q (by rw [hL]; exact List.mem_append_right _ q1) (hpre _ p)
    exact ⟨y, bA (aq.to_le ρ (hle q q1)) _ _ y1, y2 d q2⟩
   ·obtain ⟨z, z1, z2⟩ := hqev.pre i p
    exact absurd z2 (hnew z (List.mem_append_right _ (by rw [hY]; simp [z1])))
  ·rw [q2] at hx
   obtain ⟨y, y1, y2⟩ := h.olds d x hx (fun q hq hr hdq => by
    rw [hL] at hq
    obtain ⟨_, Y', _, k1, _⟩ := ei.ok hR hq
    rcases hord q.i q.o k1.op hdq (hnew q hq) with p | p
    ·obtain ⟨z, z1, z2⟩ := hpY _ p
     have hz : z = q := ei.uniq hR (List.mem_append_right _ z1) hq z2
     subst hz
     exact q1 z z1 hdq
    ·exact hn (hcl q.i i hr p))
   refine ⟨y, bA (aq.to_le ρ ?_) _ _ y1, y2⟩
   have h1 : ei E rec ops t0 s0 ((X2 ++ F) ++ []) := by simpa using hRY
   have h2 := ei.next_le h1
   rw [List.append_nil] at h2
   exact h2
 ·cases hx
theorem KX (hE : iQ E) (hg : Good E.P ih) (hD : ke ops) (hdst : gp ops fn.ntmps = true) (h0 : ∀ f v, s0.next ≤ f → ρ0 f v = none) {i0 : Nat} {o0 : Oper} {Z0 Y0 : List Ev} {done : Nat} {t1 : T V} {c : List tX} {s2 : S}
 (ho0 : ops[i0]? = some o0) (hk0 : kf E o0) (hR : ei E (bq ih) ops t0 s0 (Z0 ++ Y0)) (hdone : se done Y0) (hS : nR t0 Y0 t1) (hpan : kW E (bq ih) t1 (cD s0 Y0) o0 (aM ops t1 o0) = some (.pan c s2))
 (hpY1 : ∀ q ∈ Y0, lA ops i0 q.i) (hpY : ∀ k, lA ops i0 k → ∃ q ∈ Y0, q.i = k) (hZ : ∀ q ∈ Z0, ¬ kf E q.o) (hnew : ∀ q ∈ Z0 ++ Y0, q.i ≠ i0) (hall : ∀ k, k < ops.size → k ≠ i0 → ¬ lA ops k i0 → ∃ q ∈ Z0 ++ Y0, q.i = k) :
 ∀ (fuel τ : Nat) (listed : Array Bool) (X F : List Ev) (ρ : aq) (w : World) (fr : Frame), Z0 ++ Y0 = X ++ F → listed.size = ops.size → left listed.toList ≤ fuel → iZ ops (cv listed) → ¬ cv listed i0 →
  tY E t0 s0 ρ0 w0 X F (cv listed) ρ w fr.tmps → iY E.P ρ0 f fn .leaf (.inRegion ops (Region.linearise.go .any ops fuel τ listed []) :: k) ds .run up rd fr cs →
  ∃ ρ' w' fr', Steps E.P (lone fr cs w) (lone fr' cs w') ∧ FR ρ0 w0 ρ' w' ∧ HR ρ' s2 w' ∧ iY E.P ρ' f fn (fS done (dz ops.toList 0) t1) k ds (.panicking c) up rd fr' cs := by
 have hi0 : i0 < ops.size := by
  rcases Nat.lt_or_ge i0 ops.size with h | h
  ·exact h
  ·rw [Array.getElem?_eq_none h] at ho0; cases ho0
 intro fuel
 induction fuel with
 | zero =>
  intro τ listed X F ρ w fr hL hs hleft hcl hni hI hF
  exfalso
  have := rB listed.toList (by omega) i0
  have hi' : i0 < listed.size := by omega
  apply hni
  unfold cv
  rw [Array.getElem?_eq_getElem hi']
  cases hb : listed[i0] with
  | true => rfl
  | false => exfalso; apply this; rw [Array.getElem?_toList, Array.getElem?_eq_getElem hi', hb]
 | succ fuel ihf =>
  intro τ listed X F ρ w fr hL hs hleft hcl hni hI hF
  simp only [Region.linearise.go] at hF
  change iY E.P ρ0 f fn .leaf (.inRegion ops (match (Region.ready .any ops listed)[τ % (Region.ready .any ops listed).length]? with
   | some i => Region.linearise.go .any ops fuel (τ / (Region.ready .any ops listed).length) (listed.setIfInBounds i true) [i]
   | none => [].reverse) :: k) ds .run up rd fr cs at hF
  cases hi : (Region.ready .any ops listed)[τ % (Region.ready .any ops listed).length]? with
  | none =>
   exfalso
   have hnil : Region.ready .any ops listed = [] := by
    cases hr : Region.ready .any ops listed with
    | nil => rfl
    | cons x xs =>
     rw [hr] at hi
     have hlt : τ % (x :: xs).length < (x :: xs).length := Nat.mod_lt _ (by simp)
     simp at hi
     simp at hlt
     omega
   exact hni (xS hD.back hs hnil i0 hi0)
  | some i =>
   rw [hi] at hF
   simp only at hF
   rw [linearise_go_acc, List.reverse_singleton, List.singleton_append] at hF
   obtain ⟨o, ho, hfalse, hed⟩ := yd hs (List.mem_of_getElem? hi)
   have hn : ¬ cv listed i := fun h => by unfold cv at h; rw [hfalse] at h; cases h
   have hpre := uN hD.back hcl ho hed
   have hisz : i < listed.size := by
    rcases Nat.lt_or_ge i listed.size with h | h
    ·exact h
    ·rw [Array.getElem?_eq_none h] at hfalse; cases hfalse
   have hm := th hF
   have htd := hF.todo rfl
   by_cases hii : i = i0
   ·
    subst hii
    rw [ho0] at ho
    cases ho
    obtain ⟨X2, hX2, hY0⟩ : ∃ X2, X = Z0 ++ X2 ∧ Y0 = X2 ++ F := by
     rcases List.append_eq_append_iff.1 hL with ⟨a, h1, h2⟩ | ⟨a, h1, h2⟩
     ·exact ⟨a, h1, h2⟩
     ·cases a with
      | nil => exact ⟨[], by simpa using h1.symm, by simpa using h2.symm⟩
      | cons e a =>
       exfalso
       subst h2
       have hfe : kf E e.o := hI.front
       exact hZ e (by rw [h1]; simp) hfe
    subst hX2; subst hY0
    have hRY : ei E (bq ih) ops t0 s0 (X2 ++ F) := ei.suf hR
    have hreg := hI.reg (X1 := Z0) (Z := X2) rfl hRY fun q hq => hpre _ (hpY1 q (List.mem_append_left _ hq))
    have hT := hI.envP hD hR ho0 hpY hnew hS hn hcl hpre
    have wsp : ∀ b, aM ops t1 o0 = some b → Region.wanted o0 (yielded ops fr.tmps) = b := fun b hb => by
     rw [← kx] at hb
     exact eN hT hb
    have hFR0 : FR ρ0 w0 (ρ.to (cD s0 (X2 ++ F)).next) w := hI.fr.to_start fun f v hf => h0 f v (by
     have h1 : ei E (bq ih) ops t0 s0 ((X2 ++ F) ++ []) := by simpa using hRY
     have h2 := ei.next_le h1
     rw [List.append_nil] at h2
     exact Nat.le_trans h2 hf)
    have tr : ∀ ρ1 : aq, (ρ.to (cD s0 (X2 ++ F)).next).le ρ1 → TR ρ1 (fS done (dz ops.toList 0) t1) fr.tmps := fun ρ1 hle d x hx => by
     obtain ⟨hx1, hx2⟩ := jn hx
     have hle2 : ∀ q ∈ X2 ++ F, q.b.next ≤ (cD s0 (X2 ++ F)).next := fun q hq => by
      obtain ⟨Y1, Y2, hY⟩ := List.append_of_mem hq
      rw [hY] at hRY ⊢
      exact ei.next_le (Y := q :: Y2) hRY
     rcases hS d with ⟨q, q1, q2, q3⟩ | ⟨q1, q2⟩
     ·rw [q3] at hx1; cases hx1
      obtain ⟨y, y1, y2⟩ := hI.vals q (by rw [List.append_assoc]; exact List.mem_append_right _ q1) (hpre _ (hpY1 q q1))
      exact ⟨y, bA (aq.le_trans (aq.to_le ρ (hle2 q q1)) hle) _ _ y1, y2 d q2⟩
     ·rw [q2] at hx1
      obtain ⟨y, y1, y2⟩ := hI.olds d x hx1 fun q hq hr hdq => by
       rw [List.append_assoc] at hq
       obtain ⟨_, _, _, k1, _⟩ := ei.ok hR hq
       have := hx2 q.i q.o (ej.2 k1.op) hdq
       obtain ⟨z, z1, z2⟩ := (hdone q.i).1 this
       have hz : z = q := ei.uniq hR (List.mem_append_right _ z1) hq z2
       subst hz
       exact q1 z z1 hdq
      have h1 : ei E (bq ih) ops t0 s0 ((X2 ++ F) ++ []) := by simpa using hRY
      have h2 := ei.next_le h1
      rw [List.append_nil] at h2
      exact ⟨y, bA (aq.le_trans (aq.to_le ρ h2) hle) _ _ y1, y2⟩
    unfold kW at hpan
    split at hpan
    ·rename_i hw
     have hwant := wsp _ hw
     rw [← js (ops := ops)] at hpan
     cases hdo : dV E (only t1 (looks ops o0)) (cD s0 (X2 ++ F)) o0 with
     | none => rw [hdo] at hpan; cases hpan
     | some nx =>
      rw [hdo] at hpan
      have hop := ma hE hreg hT o0 hdo
      have hstg : (∀ c, o0.op ≠ .defer c) → stepG E.P true { frame := fr, callers := cs, status := .running, dying := none } w = stepG.apply E.P true fr cs none (execOp (rv fr.tmps) o0) w := fun q => ij hm htd ho0 hwant (.inr q)
      cases nx with
      | enter g args s1 =>
       obtain ⟨ys, h1, h2, h3⟩ := hop
       have hstx := hstg (dy hdo (fun d s' => by intro h; cases h))
       simp only [pC] at hpan
       cases hr : bq ih g args none s1 with
       | none => rw [hr] at hpan; cases hpan
       | some out =>
        rw [hr] at hpan
        obtain ⟨hcall, hfin⟩ := li hg h3 h1 hr
        rw [hcall] at h2
        obtain ⟨ρ1, w1, en, j1, j2, j3, j4⟩ := hfin fr cs
        have hsteps : Steps E.P (lone fr cs w) (lone (cE fr en) cs w1) := .head (qV htd hstx h2) j4
        obtain ⟨oe, oup, os⟩ := out
        cases oe with
        | returned v => cases hpan
        | panicked c' =>
         simp only [qF, Option.some.injEq, JA.pan.injEq] at hpan
         obtain ⟨rfl, rfl⟩ := hpan
         cases en with
         | returned _ => exact j3.elim
         | outgrown => exact j3.elim
         | panicked ch =>
          have hfr := hFR0.trans j2
          have hF1 := hF.mono hfr.ext
          exact ⟨ρ1, w1, _, hsteps, hfr, j1, ⟨hF1.name.symm ▸ (by rw [cE, bp hm]), hF1.func, by rw [cE, bp hm]; exact tr ρ1 j2.ext, by rw [cE, bp hm]; exact hF1.size, (fun q => by cases q), by rw [cE, bp hm]; exact hF1.ds, by rw [cE, bp hm]; exact j3, by rw [cE, bp hm]; exact hF1.rd, by rw [cE, bp hm]; exact hF1.up⟩⟩
      | panic v s1 =>
       simp only [pC, Option.some.injEq, JA.pan.injEq] at hpan
       obtain ⟨rfl, rfl⟩ := hpan
       obtain ⟨y, h1, h2, h3⟩ := hop
       have hstx := hstg (dy hdo (fun d s' => by intro h; cases h))
       refine ⟨ρ.to (cD s0 (X2 ++ F)).next, w, _, .one (DI hstx h2), hFR0, h3, ?_⟩
       rw [bp hm]
       have hF1 := hF.mono hFR0.ext
       exact ⟨hF1.name, hF1.func, tr _ (aq.le_refl _), hF1.size, (fun q => by cases q), hF1.ds, ⟨⟨h1, rfl, rfl⟩, trivial⟩, hF1.rd, hF1.up⟩
      | val v s1 => cases hpan
      | skip s1 => cases hpan
      | round l args s1 => cases hpan
      | defer df s1 => cases hpan
      | recover s1 => cases hpan
    ·cases hpan
    ·cases hpan
   ·
    obtain ⟨e, heL, hei⟩ := hall i (by omega) hii fun h => hni (hpre _ h)
    subst hei
    have hL0 := hL
    obtain ⟨_, _, _, hev0, _⟩ := ei.ok hR heL
    have heo : e.o = o := by have := hev0.op; rw [ho] at this; cases this; rfl
    subst heo
    have heX : e ∈ X := by
     rw [hL] at heL
     rcases List.mem_append.1 heL with h | h
     ·exact h
     ·exact absurd (hI.inF e h) hn
    obtain ⟨X1, X2, rfl⟩ := List.append_of_mem heX
    have hL' : Z0 ++ Y0 = X1 ++ e :: (X2 ++ F) := by rw [hL]; simp
    have hR' := hR
    rw [hL'] at hR'
    obtain ⟨hev, hRY⟩ := ei.at hR'
    have hdst' : ∀ d, e.o.dst = some d → d < fr.tmps.size := fun d hd => Nat.lt_of_lt_of_le (pD hdst ho d hd) hF.size
    have hsz' : (listed.setIfInBounds e.i true).size = ops.size := by simpa using hs
    have hleft' : left (listed.setIfInBounds e.i true).toList ≤ fuel := by
     have := vj listed.toList e.i (by rw [Array.getElem?_toList]; exact hfalse)
     rw [Array.toList_setIfInBounds]; omega
    have hset := ve hisz
    have hcl' : iZ ops (cv (listed.setIfInBounds e.i true)) := by rw [hset]; exact hcl.with1 hpre
    have hni' : ¬ cv (listed.setIfInBounds e.i true) i0 := by
     rw [hset]
     rintro (h | h)
     ·exact hni h
     ·exact hii h.symm
    by_cases hk : kf E e.o
    ·
     have hstep : dH E (bq ih) e.t e.a e.o (aM ops e.t e.o) = some (e.v, e.b) ∧ ∀ q ∈ X2 ++ F, lA ops e.i q.i := by
      rcases hev.step with ⟨hk', _⟩ | ⟨_, h1, _, h2⟩
      ·exact absurd hk hk'
      ·exact ⟨h1, h2⟩
     obtain ⟨hst, hXF⟩ := hstep
     have hX2 : ∀ q ∈ X2, cv listed q.i := fun q hq => hpre _ (hXF q (by simp [hq]))
     have hreg := hI.reg (X1 := X1 ++ [e]) (Z := X2) (by simp) hRY hX2
     rw [← hev.st] at hreg
     have hT := hI.env hD hR' hn hcl hpre
     have wsp : ∀ b, aM ops e.t e.o = some b → Region.wanted e.o (yielded ops fr.tmps) = b := fun b hb => by
      rw [← kx] at hb
      exact eN hT hb
     have go : ∀ (ρ1 : aq) (w1 : World) (y : Value), Steps E.P (lone fr cs w) (lone (fr.finish y) cs w1) → HR ρ1 e.b w1 → FR (ρ.to e.a.next) w ρ1 w1 → den ρ1 e.v = some y →
      ∃ ρ' w' fr', Steps E.P (lone fr cs w) (lone fr' cs w') ∧ FR ρ0 w0 ρ' w' ∧ HR ρ' s2 w' ∧ iY E.P ρ' f fn (fS done (dz ops.toList 0) t1) k ds (.panicking c) up rd fr' cs := by
      intro ρ1 w1 y hsteps h1 h2 h3
      obtain ⟨ρ', hI'⟩ := hI.effect hD hR' hk hn hX2 h1 h2 h3 hdst'
      obtain ⟨hF', htm⟩ := Jc hF ho y
      rw [← hset, ← htm] at hI'
      obtain ⟨ρ2, w2, fr2, a1, a2⟩ := ihf (τ / (Region.ready .any ops listed).length) _ X1 (e :: (X2 ++ F)) ρ' w1 (fr.finish y) hL' hsz' hleft' hcl' hni' hI' hF'
      exact ⟨ρ2, w2, fr2, hsteps.trans a1, a2⟩
     unfold dH at hst
     split at hst
     ·rename_i hw
      have hwant := wsp _ hw
      rw [← js (ops := ops)] at hst
      cases hdo : dV E (only e.t (looks ops e.o)) e.a e.o with
      | none => rw [hdo] at hst; cases hst
      | some nx =>
       rw [hdo] at hst
       have hop := ma hE hreg hT e.o hdo
       have hstg : (∀ c, e.o.op ≠ .defer c) → stepG E.P true { frame := fr, callers := cs, status := .running, dying := none } w = stepG.apply E.P true fr cs none (execOp (rv fr.tmps) e.o) w := fun q => ij hm htd ho hwant (.inr q)
       cases nx with
       | val v s1 =>
        simp only [kG, Option.some.injEq, Prod.mk.injEq] at hst
        obtain ⟨hst1, hst2⟩ := hst
        obtain ⟨ρ1, y, w1, h1, h2, h3, h4⟩ := hop
        have hst := hstg (dy hdo (fun d s' => by intro h; cases h))
        exact go ρ1 w1 y (.one (nQ hst h1)) (by rw [← hst2]; exact h3) h4 (by rw [← hst1]; exact h2)
       | skip s1 =>
        simp only [kG, Option.some.injEq, Prod.mk.injEq] at hst
        obtain ⟨hst1, hst2⟩ := hst
        obtain ⟨ρ1, w1, h1, h3, h4⟩ := hop
        have hst := hstg (dy hdo (fun d s' => by intro h; cases h))
        exact go ρ1 w1 undef (.one (Bd hst h1)) (by rw [← hst2]; exact h3) h4 (by rw [← hst1]; rfl)
       | enter g args s1 =>
        obtain ⟨ys, h1, h2, h3⟩ := hop
        have hstx := hstg (dy hdo (fun d s' => by intro h; cases h))
        simp only [kG] at hst
        cases hr : bq ih g args none s1 with
        | none => rw [hr] at hst; cases hst
        | some out =>
         rw [hr] at hst
         obtain ⟨hcall, hfin⟩ := li hg h3 h1 hr
         rw [hcall] at h2
         obtain ⟨ρ1, w1, en, j1, j2, j3, j4⟩ := hfin fr cs
         have hsteps : Steps E.P (lone fr cs w) (lone (cE fr en) cs w1) := .head (qV htd hstx h2) j4
         obtain ⟨oe, oup, os⟩ := out
         cases oe with
         | panicked c => cases hst
         | returned v =>
          simp only [nG, Option.some.injEq, Prod.mk.injEq] at hst
          obtain ⟨hst1, hst2⟩ := hst
          cases en with
          | returned y => exact go ρ1 w1 y hsteps (by rw [← hst2]; exact j1) j2 (by rw [← hst1]; exact j3)
          | panicked _ => exact j3.elim
          | outgrown => exact j3.elim
       | round l args s1 => cases hst
       | defer df s1 => cases hst
       | recover s1 => cases hst
       | panic v s1 => cases hst
     ·rename_i hw
      have hwant := wsp _ hw
      simp only [Option.some.injEq, Prod.mk.injEq] at hst
      obtain ⟨hst1, hst2⟩ := hst
      exact go (ρ.to e.a.next) w undef (.one (iC hm htd (by simp [ho, hwant]))) (by rw [← hst2]; exact hreg) (FR.refl _ _) (by rw [← hst1]; rfl)
     ·cases hst
    ·
     rcases hI.float hD hR' hk hn hcl hpre hdst' with ⟨hwant, hI'⟩ | ⟨hwant, y, w1, ρ1, hrun, hI'⟩
     ·obtain ⟨hF', htm⟩ := Jc hF ho undef
      rw [← hset, ← htm] at hI'
      obtain ⟨ρ2, w2, fr2, a1, a2⟩ := ihf (τ / (Region.ready .any ops listed).length) _ (X1 ++ e :: X2) F ρ w (fr.finish undef) hL hsz' hleft' hcl' hni' hI' hF'
      exact ⟨ρ2, w2, fr2, (Steps.one (iC hm htd (by simp [ho, hwant]))).trans a1, a2⟩
     ·obtain ⟨hF', htm⟩ := Jc hF ho y
      rw [← hset, ← htm] at hI'
      obtain ⟨ρ2, w2, fr2, a1, a2⟩ := ihf (τ / (Region.ready .any ops listed).length) _ (X1 ++ e :: X2) F ρ1 w1 (fr.finish y) hL hsz' hleft' hcl' hni' hI' hF'
      have hnd : ∀ c, e.o.op ≠ .defer c := fun c hc => by
       apply hk
       show al E.P e.o.op = 3
       rw [hc]; rfl
      exact ⟨ρ2, w2, fr2, (Steps.one (nQ (ij hm htd ho hwant (.inr hnd)) hrun)).trans a1, a2⟩
theorem Di (hE : iQ E) (hmix : E.P.follows .mixedOrders = true) : eo E := by
 intro ih hg f fn id ops k rd t ds up s r hdst e ρ w fr cs h hF
 obtain ⟨hD, hcase⟩ := AJ e
 have hm := th hF
 have ht := hF.todo rfl
 have hstep := Kj (P := E.P) (cs := cs) (w := w) hm ht
 rw [hmix] at hstep
 simp only [Region.schedule, Bool.true_or, if_true, Region.linearise] at hstep
 have hno : ∀ i, ¬ cv (Array.replicate ops.size false) i := by
  intro i hi
  unfold cv at hi
  rw [Array.getElem?_replicate] at hi
  split at hi <;> cases hi
 have hI0 : ∀ L, tY E t s ρ w L [] (cv (Array.replicate ops.size false)) ρ { w with drawn := w.drawn + 1 } fr.tmps := by
  intro L
  have hto : ρ.to s.next = ρ := aq.to_all fun f v hf => h.fresh f v hf
  refine ⟨trivial, by simp, fun e _ hr => absurd hr (hno _), fun e _ hr => absurd hr (hno _), fun d x hx _ => ?_, fun e _ hr => absurd hr (hno _), ?_, h.inj, h.low, fun f v hf => .inl ?_, FR.drawn w _⟩
  ·rw [hto]; exact hF.tr d x hx
  ·show HR (ρ.to s.next) s _
   rw [hto]; exact h.drawn _
  ·show f < s.next
   exact Nat.lt_of_not_le fun hc => hf (h.fresh f v hc)
 have hF0 : iY E.P ρ f fn .leaf (.inRegion ops (Region.linearise.go .any ops ops.size (w.tape w.drawn (.order fr.fn id)) (Array.replicate ops.size false) []) :: k) ds .run up rd { fr with todo := .inRegion ops (Region.linearise.go .any ops ops.size (w.tape w.drawn (.order fr.fn id)) (Array.replicate ops.size false) []) :: k } cs :=
  ⟨hF.name, hF.func, TR.leaf _ _, hF.size, fun _ => rfl, hF.ds, hF.md, hF.rd, hF.up⟩
 have hcl0 : iZ ops (cv (Array.replicate ops.size false)) := fun i k hi => absurd hi (hno _)
 rcases hcase with ⟨L, t', s', rfl, hR, hS, rfl, hall⟩ | ⟨i0, o0, Z0, Y0, done, t1, c, s2, rfl, ho0, hk0, hR, hdone, hS, hpan, hpY1, hpY, hZ, hnew, hall⟩
 ·obtain ⟨ρ', w', fr', a1, a2, a3, a4⟩ := KW (ih := ih) (f := f) (fn := fn) (k := k) (rd := rd) (ds := ds) (up := up) (cs := cs) (ρ0 := ρ) (w0 := w) hE hg hD hdst hR hall hS ops.size _ (Array.replicate ops.size false) L [] ρ { w with drawn := w.drawn + 1 } { fr with todo := .inRegion ops (Region.linearise.go .any ops ops.size (w.tape w.drawn (.order fr.fn id)) (Array.replicate ops.size false) []) :: k } (by simp) (by simp)
   (by simp [jM]) hcl0 (hI0 L) hF0
  exact ⟨ρ', w', fr', cs, .head hstep a1, a2, qW.refl hF, a3, a4, rfl⟩
 ·obtain ⟨ρ', w', fr', a1, a2, a3, a4⟩ := KX (ih := ih) (f := f) (fn := fn) (k := k) (rd := rd) (ds := ds) (up := up) (cs := cs) (ρ0 := ρ) (w0 := w) hE hg hD hdst (fun f v hf => h.fresh f v hf) ho0 hk0 hR hdone hS hpan hpY1 hpY hZ hnew hall ops.size _ (Array.replicate ops.size false) (Z0 ++ Y0) [] ρ { w with drawn := w.drawn + 1 } { fr with todo := .inRegion ops (Region.linearise.go .any ops ops.size (w.tape w.drawn (.order fr.fn id)) (Array.replicate ops.size false) []) :: k } (by simp) (by simp)
   (by simp [jM]) hcl0 (hno _) (hI0 _) hF0
  exact ⟨ρ', w', fr', cs, .head hstep a1, a2, qW.refl hF, a3, a4, rfl⟩
end
def aq.no : aq := fun _ _ => none
theorem HR.empty (w : World) (n : Nat) : HR aq.no ⟨.leaf, n⟩ w :=
 ⟨fun _ _ _ => rfl, fun _ _ _ _ _ _ e => (by cases e), fun _ _ _ e => (by cases e), fun f B hB => by (rw [S.get_eq, T.get_leaf] at hB; cases hB), fun f B hB => by (rw [S.get_eq, T.get_leaf] at hB; cases hB), fun f B hB => by (rw [S.get_eq, T.get_leaf] at hB; cases hB)⟩
theorem wh {P : Program} {f : FuncId} {args : List V} {s : S} {v : V} {u : Option Md} {s' : S} (h : fN P f args none s ⟨.returned v, u, s'⟩) {ρ : aq} {w : World} {ys : List Value} (hr : HR ρ s w) (hd : aY ρ args = some ys) :
 Calls P f ys.toArray w fun e w' => ∃ ρ' y, e = .returned y ∧ den ρ' v = some y ∧ HR ρ' s' w' ∧ FR ρ w ρ' w' := by
 intro cs
 obtain ⟨_, h2⟩ := h ρ w ys hr hd
 obtain ⟨ρ', w', k1, k2, fr', e, k3, k4, k5, k6⟩ := h2 cs (fun u hu => by cases hu)
 cases e with
 | panicked _ => exact k3.elim
 | outgrown => exact k3.elim
 | returned y => exact ⟨.returned y, w', fr', ⟨ρ', y, rfl, k3, k1, k2⟩, k4, k5, k6⟩
theorem FR.keeps {w : World} {ρ' : aq} {w' : World} (h : FR aq.no w ρ' w') : ∀ b, b < w.heap.size → w'.heap[b]? = w.heap[b]? := fun b hb => h.same b hb fun f v l e => by cases e
theorem BU {P : Program} {f : FuncId} {args : List V} {v : V} {n : Nat} {s1 : S} (h : fN P f args none ⟨.leaf, n⟩ ⟨.returned v, none, s1⟩)
 (ha : ∀ ρ ys, aY ρ args = some ys → aY aq.no args = some ys) (hv : ∀ ρ y, den ρ v = some y → ∀ ρ', den ρ' v = some y) (s : S) : fN P f args none s ⟨.returned v, none, s⟩ := by
 intro ρ w ys hr hd
 obtain ⟨h1, h2⟩ := h aq.no w ys (HR.empty w n) (ha ρ ys hd)
 refine ⟨h1, fun cs hup => ?_⟩
 obtain ⟨ρ', w', k1, k2, fr', e, k3, k4, k5, k6⟩ := h2 cs (fun u hu => by cases hu)
 refine ⟨ρ, w', hr.frame k2.size k2.keeps, ⟨ρ.le_refl, k2.size, k2.os, k2.tape, k2.output, fun b hb _ => k2.keeps b hb, fun f v l e _ => ⟨f, v, l, e, rfl, id⟩⟩, fr', e, ?_, k4, k5, k6⟩
 cases e with
 | panicked _ => exact k3.elim
 | outgrown => exact k3.elim
 | returned y => exact hv _ _ k3 _
def RB (a s : S) : Prop := (∀ f B, a.get f = some B → s.get f = some B) ∧ s.next ≤ a.next
theorem HR.sub {ρ : aq} {a s : S} {w : World} (h : HR ρ s w) (hs : RB a s) : HR ρ a w :=
 ⟨fun f v hf => h.fresh f v (Nat.le_trans hs.2 hf), h.inj, h.low, fun f B hB => h.blk f B (hs.1 f B hB), fun f B hB => Nat.lt_of_lt_of_le (h.dom f B (hs.1 f B hB)) hs.2, fun f B hB => h.rw f B (hs.1 f B hB)⟩
theorem EJ {P : Program} {f : FuncId} {args : List V} {v : V} {a a' s b : S} (h : fN P f args none a ⟨.returned v, none, a'⟩) (h1 : RB a s) (h2 : RB b a') : fN P f args none s ⟨.returned v, none, b⟩ := by
 intro ρ w ys hr hd
 obtain ⟨k1, k2⟩ := h ρ w ys (hr.sub h1) hd
 refine ⟨k1, fun cs hup => ?_⟩
 obtain ⟨ρ', w', j1, j2, fr', e, j3, j4, j5, j6⟩ := k2 cs (fun u hu => by cases hu)
 exact ⟨ρ', w', j1.sub h2, j2, fr', e, j3, j4, j5, j6⟩
def zR (u v : mH) : Bool := Nat.beq u.v v.v && Nat.beq u.lo v.lo && ba u.cells v.cells
def pZ : List mH → List mH → Bool
 | [], [] => true
 | u :: r, v :: q => zR u v && pZ r q
 | _, _ => false
def zT (x y : pL) : Bool := ba [x.key, x.val] [y.key, y.val] && Nat.beq x.born y.born
def qa : List pL → List pL → Bool
 | [], [] => true
 | u :: r, v :: q => zT u v && qa r q
 | _, _ => false
def zV : bP → bP → Bool
 | .cells e sb nv vs, .cells e' sb' nv' vs' => Nat.beq e e' && (sb == sb') && Nat.beq nv nv' && pZ vs vs'
 | .map es c, .map es' c' => qa es es' && Nat.beq c c'
 | .gone, .gone => true
 | _, _ => false
def KF : Option bP → Option bP → Bool
 | none, _ => true
 | some a, some b => zV a b
 | some _, none => false
def Kc : T bP → T bP → Bool
 | .leaf, _ => true
 | .node l v r, .node l' v' r' => KF v v' && Kc l l' && Kc r r'
 | .node _ _ _, .leaf => false
def Nq (a s : S) : Bool := Nat.ble s.next a.next && Kc a.h s.h
theorem zQ {u v : mH} (h : zR u v = true) : u = v := by
 unfold zR at h
 simp only [Bool.and_eq_true] at h
 cases u; cases v
 simp only at h
 rw [Nat.eq_of_beq_eq_true h.1.1, Nat.eq_of_beq_eq_true h.1.2, cw h.2]
theorem oC : ∀ {a b : List mH}, pZ a b = true → a = b
 | [], [], _ => rfl
 | [], _ :: _, h => by cases h
 | _ :: _, [], h => by cases h
 | u :: r, v :: q, h => by
  simp only [pZ, Bool.and_eq_true] at h
  rw [zQ h.1, oC h.2]
theorem zS {u v : pL} (h : zT u v = true) : u = v := by
 unfold zT at h
 simp only [Bool.and_eq_true] at h
 have h1 := cw h.1
 have h2 := Nat.eq_of_beq_eq_true h.2
 cases u; cases v
 simp only [List.cons.injEq, and_true] at h1 h2
 rw [h1.1, h1.2, h2]
theorem oD : ∀ {a b : List pL}, qa a b = true → a = b
 | [], [], _ => rfl
 | [], _ :: _, h => by cases h
 | _ :: _, [], h => by cases h
 | u :: r, v :: q, h => by
  simp only [qa, Bool.and_eq_true] at h
  rw [zS h.1, oD h.2]
theorem zU : ∀ {a b : bP}, zV a b = true → a = b := by
 intro a b h
 unfold zV at h
 split at h
 ·simp only [Bool.and_eq_true, beq_iff_eq] at h
  rw [Nat.eq_of_beq_eq_true h.1.1.1, h.1.1.2, Nat.eq_of_beq_eq_true h.1.2, oC h.2]
 ·simp only [Bool.and_eq_true] at h
  rw [oD h.1, Nat.eq_of_beq_eq_true h.2]
 ·rfl
 ·cases h
theorem rg : ∀ {a b : T bP}, Kc a b = true → ∀ p B, a.get p = some B → b.get p = some B
 | .leaf, _, _, p, B, e => by rw [T.get_leaf] at e; cases e
 | .node _ _ _, .leaf, h, _, _, _ => by cases h
 | .node l v r, .node l' v' r', h, p, B, e => by
  simp only [Kc, Bool.and_eq_true] at h
  cases p with
  | o =>
   rw [T.get_o] at e ⊢
   subst e
   cases v' with
   | none => have := h.1.1; cases this
   | some B' => rw [zU (a := B) (b := B') h.1.1]
  | l p => rw [T.get_l] at e ⊢; exact rg h.1.2 p B e
  | r p => rw [T.get_r] at e ⊢; exact rg h.2 p B e
theorem xM {a s : S} (h : Nq a s = true) : RB a s := by
 unfold Nq at h
 simp only [Bool.and_eq_true] at h
 exact ⟨fun f B hB => by rw [S.get_eq] at hB ⊢; exact rg h.2 _ B hB, Nat.le_of_ble_eq_true h.1⟩
def jK (E : cg) (n : Nat) (f : FuncId) (args : List V) (a : S) (v : V) (b : S) : Bool :=
 match pi E n (.call f args none) a with
 | some ⟨.returned v', none, s'⟩ => ba [v] [v'] && Nq b s'
 | _ => false
theorem dF {E : cg} (hE : iQ E) (hO : qX E) (hD : eo E) {n : Nat} {f : FuncId} {args : List V} {a : S} {v : V} {b : S} (h : jK E n f args a v b = true) {s : S} (hs : RB a s) : fN E.P f args none s ⟨.returned v, none, b⟩ := by
 unfold jK at h
 split at h
 ·rename_i v' s' hr
  simp only [Bool.and_eq_true] at h
  have h1 := cw h.1
  simp at h1
  subst h1
  exact EJ (lT hE hO hD n _ _ _ hr) hs (xM h.2)
 ·cases h
def fM (E : cg) (n : Nat) (f : FuncId) (args : List V) (v : V) : Bool :=
 match pi E n (.call f args none) ⟨.leaf, 0⟩ with
 | some ⟨.returned v', none, _⟩ => ba [v] [v']
 | _ => false
def V.flat : V → Bool
 | .bool _ => true
 | .int _ _ => true
 | .str _ => true
 | .nilptr => true
 | .nilslice => true
 | .nilmap => true
 | .nilFunc => true
 | .nilIface => true
 | _ => false
theorem Da {v : V} (h : v.flat = true) : ∀ ρ y, den ρ v = some y → ∀ ρ', den ρ' v = some y := by
 intro ρ y e ρ'
 cases v <;> simp [V.flat] at h <;> exact e
theorem yv : ∀ {l : List V}, l.all V.flat = true → ∀ ρ ys, aY ρ l = some ys → aY aq.no l = some ys
 | [], _, _, _, e => e
 | v :: l, h, ρ, ys, e => by
  simp only [List.all_cons, Bool.and_eq_true] at h
  obtain ⟨y, q, h1, h2, rfl⟩ := aW.1 e
  exact aW.2 ⟨y, q, Da h.1 _ _ h1 _, yv h.2 _ _ h2, rfl⟩
theorem bL {E : cg} (hE : iQ E) (hO : qX E) (hD : eo E) {n : Nat} {f : FuncId} {args : List V} {v : V} (h : fM E n f args v = true) (ha : args.all V.flat = true) (hv : v.flat = true) (s : S) : fN E.P f args none s ⟨.returned v, none, s⟩ := by
 unfold fM at h
 split at h
 ·rename_i v' s' hr
  have h1 := cw h
  simp at h1
  subst h1
  exact BU (lT hE hO hD n _ _ _ hr) (yv ha) (Da hv) s
 ·cases h
structure kc where
 f : FuncId
 args : List V
 a : S
 v : V
 b : S
def kc.fits (k : kc) (f : FuncId) (args : List V) (s : S) : Bool := Nat.beq f k.f && (ba args k.args && Nq k.a s)
def tK : List kc → FuncId → List V → S → Option (V × S)
 | [], _, _, _ => none
 | k :: r, f, args, s => bif k.fits f args s then some (k.v, k.b) else tK r f args s
theorem qt : ∀ {l : List kc} {f : FuncId} {args : List V} {s : S} {v : V} {s' : S}, tK l f args s = some (v, s') → ∃ k ∈ l, k.f = f ∧ k.args = args ∧ RB k.a s ∧ k.v = v ∧ k.b = s'
 | [], _, _, _, _, _, h => by cases h
 | k :: r, f, args, s, v, s', h => by
  simp only [tK] at h
  cases hb : k.fits f args s with
  | true =>
   rw [hb] at h
   cases h
   unfold kc.fits at hb
   simp only [Bool.and_eq_true] at hb
   exact ⟨k, by simp, (Nat.eq_of_beq_eq_true hb.1).symm, (cw hb.2.1).symm, xM hb.2.2, rfl, rfl⟩
  | false =>
   rw [hb] at h
   obtain ⟨k', h1, h2⟩ := qt h
   exact ⟨k', List.mem_cons_of_mem _ h1, h2⟩
def il (f0 : FuncId) (l : List (List Nat × V)) (f : FuncId) (args : List V) (s : S) : Option (V × S) := bif Nat.beq f f0 then look args l else none
 where
  look : List V → List (List Nat × V) → Option (V × S)
   | [.str x], (y, v) :: r => bif x == y then some (v, s) else look [.str x] r
   | _, _ => none
theorem ye {s : S} : ∀ {l : List (List Nat × V)} {args : List V} {v : V} {s' : S}, il.look s args l = some (v, s') → ∃ x, args = [.str x] ∧ (x, v) ∈ l ∧ s' = s
 | [], args, v, s', h => by
  have : il.look s args [] = none := by cases args with
   | nil => rfl
   | cons a r => cases a <;> cases r <;> rfl
  rw [this] at h; cases h
 | (y, u) :: r, args, v, s', h => by
  unfold il.look at h
  split at h
  ·rename_i x y' u' r' he
   cases he
   cases hb : (x == y) with
   | true =>
    rw [hb] at h
    cases h
    have : x = y := by simpa using hb
    subst this
    exact ⟨x, rfl, by simp, rfl⟩
   | false =>
    rw [hb] at h
    obtain ⟨x', h1, h2, h3⟩ := ye h
    exact ⟨x', h1, List.mem_cons_of_mem _ h2, h3⟩
  ·cases h
theorem vo {f0 : FuncId} {l : List (List Nat × V)} {f : FuncId} {args : List V} {s : S} {v : V} {s' : S} (h : il f0 l f args s = some (v, s')) : f = f0 ∧ ∃ x, args = [.str x] ∧ (x, v) ∈ l ∧ s' = s := by
 unfold il at h
 cases hb : Nat.beq f f0 with
 | false => rw [hb] at h; cases h
 | true => rw [hb] at h; exact ⟨Nat.eq_of_beq_eq_true hb, ye h⟩
end Go.AI
