/- What the functions answer in the evaluator: part 9. No conditions beyond those of the row. -/
import Derived.Test.YtkeaedhoaamfnaaGreatDoorL8
set_option linter.unusedVariables false
set_option linter.unusedSimpArgs false
noncomputable section
namespace Go.AI.Lx
open Go.Proofs Go.Proofs.YtkeaedhoaamfnaaGreatDoor
set_option maxRecDepth 10000
mutual
def gw : Ty → Nat → Nat → Bool × Nat
 | .mk name args, d, c => if ek name args.length = true ∧ c + 1 ≤ 2000 ∧ d ≤ 100 then ja args (d + 1) (c + 1) else (false, c + 1)
def ja : List Ty → Nat → Nat → Bool × Nat
 | [], _, c => (true, c)
 | t :: r, d, c => if (gw t d c).1 = true then ja r d (gw t d c).2 else (false, (gw t d c).2)
end
mutual
theorem HB : ∀ (t : Ty) (d c : Nat), (gw t d c).1 = true → (gw t d c).2 ≤ 2000
 | .mk name args, d, c => by
  simp only [gw]
  split
  ·rename_i h
   exact CP args (d + 1) (c + 1) h.2.1
  ·intro h; cases h
theorem CP : ∀ (l : List Ty) (d c : Nat), c ≤ 2000 → (ja l d c).1 = true → (ja l d c).2 ≤ 2000
 | [], d, c, h => by simpa [ja] using h
 | t :: r, d, c, h => by
  simp only [ja]
  split
  ·rename_i h1
   exact CP r d _ (HB t d c h1)
  ·intro h; cases h
end
abbrev xF (c : Nat) : bP := .cells 3 false 1 [⟨0, 0, [.int .i64 ((c : Nat) : Int)]⟩]
def QI (t : Ty) (d c fc : Nat) (s : S) : cX → Prop := tW fun v s' => v = .bool (gw t d c).1 ∧ s'.get fc = some (xF (gw t d c).2) ∧ Fw [fc] s s'
def MQ (K : S → Prop) (fc N : Nat) : Prop := ∀ (t : Ty) (d c : Nat) (p : Ad) (nm rw : V) (s : S), cY t ≤ N → gY K t nm rw → (∀ s, K s → loadCells s p 2 = some [nm, rw]) → d ≤ 101 → c ≤ 2000 → WF s → cF s → K s → s.get fc = some (xF c) →
 Cw au 38 [.ptr p, .int .i64 ((d : Nat) : Int), .ptr ⟨fc, 0, 0⟩] s fun v s' => v = .bool (gw t d c).1 ∧ s'.get fc = some (xF (gw t d c).2) ∧ Fw [fc] s s'
section
variable {K : S → Prop} {fc : Nat} {L : List ck}
theorem NS {name : List Nat} {args : List Ty} {d c : Nat} (h : ¬ (ek name args.length = true ∧ c + 1 ≤ 2000 ∧ d ≤ 100)) : gw (.mk name args) d c = (false, c + 1) := by simp only [gw]; rw [if_neg h]
theorem CQ {name : List Nat} {args : List Ty} {d c : Nat} (h : ek name args.length = true ∧ c + 1 ≤ 2000 ∧ d ≤ 100) : gw (.mk name args) d c = ja args (d + 1) (c + 1) := by simp only [gw]; rw [if_pos h]
theorem jE (hK : ∀ s s', Fw [fc] s s' → K s → K s') {N : Nat} (ih : MQ K fc N) {name : List Nat} {args : List Ty} {d c : Nat} {p : Ad} {rw : V} {cs : List (List V)} {s : S} (hN : cR args ≤ N) (hrow : jq K 2 rw cs) (hts : dS K args cs) (hp : ∀ s, K s → loadCells s p 2 = some [.str name, rw]) (hd : d ≤ 101) (hc : c ≤ 2000)
 (hw : WF s) (hG : cF s) (hk : K s) {q : Bool} (hq : q = false ↔ (ek name args.length = true ∧ c + 1 ≤ 2000 ∧ d ≤ 100)) :
 ah au [fc] s (QI (.mk name args) d c fc s) kl ⟨[.ptr p, .int .i64 ((d : Nat) : Int), .bool q, .int .i64 ((c + 1 : Nat) : Int)], [fc]⟩ [] T0 L := by
 refine aI rfl (fun c1 => ?_) (fun c1 => ?_)
 ·refine aE fun s1 h1 h2 h3 h4 => ⟨_, _, rfl, ?_⟩
  rw [NS (fun h => by rw [hq.2 h] at c1; cases c1)]
  exact ⟨rfl, h4.1, h1⟩
 ·have hyes := hq.1 c1
  have hlen := hts.len
  have hlt := hrow.lt
  refine aD (.ptr p) rfl (fun _ _ _ _ _ => rfl) rfl ?_
  refine aD (.ptr (eK p 1)) rfl (fun _ _ _ _ _ => FC p 1 (by omega)) rfl ?_
  refine aD rw hrow.one (fun a b _ _ _ => ll (hp a (hK _ _ b hk)) rfl Ql) rfl ?_
  refine eL rfl (fun s1 _ _ => hrow.len gz s1) rfl ?_
  refine tM (fun j vs bs => ∃ i c', i ≤ args.length ∧ j = args.length - i ∧ vs = [.ptr p, .int .i64 ((d : Nat) : Int), .int .i64 ((cs.length : Nat) : Int), .int .i64 ((i : Nat) : Int), .int .i64 ((c' : Nat) : Int)] ∧ bs = [fc] ∧ ja (args.drop i) (d + 1) c' = ja args (d + 1) (c + 1) ∧ c' ≤ 2000) args.length ⟨0, c + 1, by omega, rfl, rfl, rfl, rfl, hyes.2.1⟩ ?_
  rintro j _ _ ⟨i, c', hi, rfl, rfl, rfl, hcc, hcl⟩
  refine jO rfl rfl rfl ?_
  refine dA rfl (fun c2 => ?_) (fun c2 => ?_)
  ·have hi2 : i < args.length := by omega
   obtain ⟨t', ht', hdr⟩ := et hi2
   rw [hdr] at hcc
   simp only [ja] at hcc
   obtain ⟨nm', rw', hx, hR'⟩ := hts.at ht'
   obtain ⟨p', hp', hld⟩ := hrow.at gz fx hx
   have hsz := lI ht'
   refine aD (.ptr p) rfl (fun _ _ _ _ _ => rfl) rfl ?_
   refine aD (.ptr (eK p 1)) rfl (fun _ _ _ _ _ => FC p 1 (by omega)) rfl ?_
   refine aD rw hrow.one (fun a b _ _ _ => ll (hp a (hK _ _ b hk)) rfl Ql) rfl ?_
   refine aD (.ptr p') rfl (fun _ _ _ _ _ => hp') rfl ?_
   refine ed (r := ((d + 1 : Nat) : Int)) rfl rfl (wI (by omega)) rfl ?_
   refine ec fun s1 k1 k2 k3 k4 => ?_
   obtain ⟨v, s2, hcall, rfl, hcnt, hf⟩ := ih t' (d + 1) c' p' nm' rw' s1 (by omega) hR' hld (by omega) hcl k2 (hG.keep k1.ro) (hK _ _ k1 hk) k4.1
   refine .inl ⟨[.int .i64 (((gw t' (d + 1) c').2 : Nat) : Int), .bool (gw t' (d + 1) c').1], _, s2, [], T0, inferInstance, rfl, rfl, hcall, hf.mono (by simp [fk]; rfl), ⟨hcnt, trivial⟩, ay, trivial, by simp, ?_⟩
   refine fl rfl rfl ?_
   refine aI rfl (fun c3 => ?_) (fun c3 => ?_)
   ·have c4 : (gw t' (d + 1) c').1 = false := by simpa using c3
    rw [if_neg (by rw [c4]; simp)] at hcc
    refine aE fun s1 h1 h2 h3 h4 => ⟨_, _, rfl, ?_⟩
    rw [CQ hyes, ← hcc]
    exact ⟨rfl, h4.1, h1⟩
   ·have c4 : (gw t' (d + 1) c').1 = true := by simpa using c3
    rw [if_pos c4] at hcc
    refine ed (r := ((i + 1 : Nat) : Int)) rfl rfl (wI (by omega)) rfl ?_
    exact tN (args.length - (i + 1)) rfl (by omega) ⟨i + 1, _, by omega, rfl, rfl, rfl, hcc, HB t' (d + 1) c' c4⟩
  ·have : i = args.length := by omega
   subst this
   rw [List.drop_length] at hcc
   simp only [ja] at hcc
   refine aE fun s1 h1 h2 h3 h4 => ⟨_, _, rfl, ?_⟩
   rw [CQ hyes, ← hcc]
   exact ⟨rfl, h4.1, h1⟩
theorem ul (hK : ∀ s s', Fw [fc] s s' → K s → K s') {N : Nat} (ih : MQ K fc N) {name : List Nat} {args : List Ty} {d c : Nat} {p : Ad} {rw : V} {cs : List (List V)} {s : S} (hN : cR args ≤ N) (hrow : jq K 2 rw cs) (hts : dS K args cs) (hp : ∀ s, K s → loadCells s p 2 = some [.str name, rw]) (hd : d ≤ 101) (hc : c ≤ 2000)
 (hw : WF s) (hG : cF s) (hk : K s) {q : Bool} (hq : q = ek name args.length) :
 ah au [fc] s (QI (.mk name args) d c fc s) di ⟨[.ptr p, .int .i64 ((d : Nat) : Int), .bool q, .int .i64 ((c + 1 : Nat) : Int)], [fc]⟩ [] T0 L := by
 refine fl rfl rfl ?_
 refine aI rfl (fun c1 => ?_) (fun c1 => ?_)
 ·exact bI (jE hK ih hN hrow hts hp hd hc hw hG hk (q := true) ⟨fun h => by (cases h), fun h => by rw [hq, h.1] at c1; cases c1⟩)
 ·have hr : ek name args.length = true := by rw [← hq]; simpa using c1
  refine qw rfl rfl rfl ?_
  refine dA rfl (fun c2 => ?_) (fun c2 => ?_)
  ·exact bI (jE hK ih hN hrow hts hp hd hc hw hG hk (q := true) ⟨fun h => by (cases h), fun h => by omega⟩)
  ·refine qw rfl rfl rfl ?_
   exact bI (jE hK ih hN hrow hts hp hd hc hw hG hk (q := decide (((d : Nat) : Int) > 100)) ⟨fun h => ⟨hr, by omega, by have := of_decide_eq_false h; omega⟩, fun h => decide_eq_false (by omega)⟩)
theorem NR (hK : ∀ s s', Fw [fc] s s' → K s → K s') : ∀ N, MQ K fc N := by
 intro N
 induction N with
 | zero => intro t d c p nm rw s h; cases t; simp only [cY] at h; omega
 | succ N ih =>
  intro t d c p nm rw s hN hR hp hd hc hw hG hk hg
  refine aL (bb (C := wc) (e := ⟨[.ptr p, .int .i64 ((d : Nat) : Int), .int .i64 ((c : Nat) : Int)], [fc]⟩) (F := [fc]) rfl Tryz.func38 rfl (by kernel_rfl) ET rfl ⟨rfl, rfl, rfl⟩ rfl hw rfl (by simp) ⟨hg, trivial⟩ ay trivial (by simp) ?_)
  obtain ⟨name, args⟩ := t
  simp only [gY] at hR
  obtain ⟨rfl, hb, hbl, cs, hrow, hts⟩ := hR
  have hlen := hts.len
  have hlt := hrow.lt
  simp only [cY] at hN
  have hN' : cR args ≤ N := by omega
  have hend : ∀ {L : List ck} {q : Bool}, q = ek name args.length → ah au [fc] s (QI (.mk name args) d c fc s) di ⟨[.ptr p, .int .i64 ((d : Nat) : Int), .bool q, .int .i64 ((c + 1 : Nat) : Int)], [fc]⟩ [] T0 L :=
   fun hq => ul hK ih hN' hrow hts hp hd hc hw hG hk hq
  have hld0 : ∀ s1, Fw [fc] s s1 → gc (eI Tryz.prog s1 9 (some (.ptr (eK p 0)))) = some (.str name) := fun s1 h1 => ll (hp s1 (hK _ _ h1 hk)) rfl IU
  have hld1 : ∀ s1, Fw [fc] s s1 → gc (eI Tryz.prog s1 23 (some (.ptr (eK p 1)))) = some rw := fun s1 h1 => ll (hp s1 (hK _ _ h1 hk)) rfl Ql
  show ah au [fc] s (QI (.mk name args) d c fc s) _ _ _ _ _
  refine ed (r := ((c + 1 : Nat) : Int)) rfl rfl (wI (by omega)) rfl ?_
  refine aD (.ptr p) rfl (fun _ _ _ _ _ => rfl) rfl ?_
  refine aD (.ptr (eK p 1)) rfl (fun _ _ _ _ _ => FC p 1 (by omega)) rfl ?_
  refine aD rw hrow.one (fun a b _ _ _ => hld1 a b) rfl ?_
  refine eL rfl (fun s1 _ _ => hrow.len gz s1) rfl ?_
  refine aD (.ptr p) rfl (fun _ _ _ _ _ => rfl) rfl ?_
  refine aD (.ptr (eK p 0)) rfl (fun _ _ _ _ _ => FC p 0 (by omega)) rfl ?_
  refine aD (.str name) rfl (fun a b _ _ _ => hld0 a b) rfl ?_
  refine rN rfl rfl hb (Tt (by omega) (by omega) (by omega)) rfl ?_
  refine dA rfl (fun n3 => ?_) (fun n3 => ?_)
  ·refine gP rfl rfl rfl ?_
   exact bI (hend (by subst n3; unfold ek; rw [if_neg (by decide), if_neg (by decide), if_pos rfl, decide_eq_decide]; omega))
  ·refine rN rfl rfl hb (Tu (by omega) (by omega)) rfl ?_
   refine dA rfl (fun n1 => ?_) (fun n1 => ?_)
   ·refine gP rfl rfl rfl ?_
    exact bI (hend (by unfold ek; rw [if_pos n1, decide_eq_decide]; omega))
   ·refine rN rfl rfl hb (Tv (by omega)) rfl ?_
    refine dA rfl (fun n2 => ?_) (fun n2 => ?_)
    ·refine HF rfl rfl rfl ?_
     refine dA rfl (fun c5 => ?_) (fun c5 => ?_)
     ·refine Ph rfl rfl rfl ?_
      exact bI (hend (by unfold ek; rw [if_neg n1, if_pos n2, decide_eq_decide]; omega))
     ·exact bI (hend (by unfold ek; rw [if_neg n1, if_pos n2, decide_eq_false (by omega)]))
    ·have hno : ek name args.length = decide (aK name = 4 ∧ args.length = 0 ∨ aK name = 3 ∧ args.length ≤ 16) := by unfold ek; rw [if_neg n1, if_neg n2, if_neg n3]
     refine aD (.ptr p) rfl (fun _ _ _ _ _ => rfl) rfl ?_
     refine aD (.ptr (eK p 0)) rfl (fun _ _ _ _ _ => FC p 0 (by omega)) rfl ?_
     refine aD (.str name) rfl (fun a b _ _ _ => hld0 a b) rfl ?_
     refine ax (.bool (decide (aK name = 4))) (fun _ a b _ _ => Fm hb hbl b (hG.keep a.ro)) rfl rfl ?_
     refine dA rfl (fun c7 => ?_) (fun c7 => ?_)
     ·refine gP rfl rfl rfl ?_
      refine dA rfl (fun c8 => ?_) (fun c8 => ?_)
      ·exact bI (hend (by rw [hno, decide_eq_true (.inl ⟨c7, by omega⟩)]))
      ·refine aD (.ptr p) rfl (fun _ _ _ _ _ => rfl) rfl ?_
       refine aD (.ptr (eK p 0)) rfl (fun _ _ _ _ _ => FC p 0 (by omega)) rfl ?_
       refine aD (.str name) rfl (fun a b _ _ _ => hld0 a b) rfl ?_
       refine ax (.bool (decide (aK name = 3))) (fun _ a b _ _ => LI hb hbl b (hG.keep a.ro)) rfl rfl ?_
       refine dA rfl (fun c9 => ?_) (fun c9 => ?_)
       ·omega
       ·exact bI (hend (by rw [hno, decide_eq_false (by omega)]))
     ·refine aD (.ptr p) rfl (fun _ _ _ _ _ => rfl) rfl ?_
      refine aD (.ptr (eK p 0)) rfl (fun _ _ _ _ _ => FC p 0 (by omega)) rfl ?_
      refine aD (.str name) rfl (fun a b _ _ _ => hld0 a b) rfl ?_
      refine ax (.bool (decide (aK name = 3))) (fun _ a b _ _ => LI hb hbl b (hG.keep a.ro)) rfl rfl ?_
      refine dA rfl (fun c9 => ?_) (fun c9 => ?_)
      ·refine Ph rfl rfl rfl ?_
       exact bI (hend (by rw [hno, decide_eq_decide]; omega))
      ·exact bI (hend (by rw [hno, decide_eq_false (by omega)]))
end
theorem tR : ∀ (l : List Ty) (n : Nat), FF l n = max n (FF l 0)
 | [], n => by simp [FF]
 | t :: r, n => by
  have h1 := tR r (max n (dp t))
  have h2 := tR r (max 0 (dp t))
  simp only [FF]; omega
mutual
theorem CR : ∀ (t : Ty) (d c : Nat), ((gw t d c).1 = true ↔ c + cY t ≤ 2000 ∧ d + dp t ≤ 101 ∧ nu t = true) ∧ ((gw t d c).1 = true → (gw t d c).2 = c + cY t)
 | .mk name args, d, c => by
  simp only [gw, cY, dp, nu, Bool.and_eq_true]
  by_cases h : ek name args.length = true ∧ c + 1 ≤ 2000 ∧ d ≤ 100
  ·rw [if_pos h]
   obtain ⟨h1, h2⟩ := yj args (d + 1) (c + 1) h.2.1 (by omega)
   refine ⟨?_, fun hh => by rw [h2 hh]; omega⟩
   rw [h1]
   constructor
   ·rintro ⟨a, b, e⟩; exact ⟨by omega, by omega, e, h.1⟩
   ·rintro ⟨a, b, e, _⟩; exact ⟨by omega, by omega, e⟩
  ·rw [if_neg h]
   refine ⟨⟨fun hh => (by cases hh), fun ⟨a, b, e, f⟩ => absurd ⟨f, by omega, by omega⟩ h⟩, fun hh => by cases hh⟩
theorem yj : ∀ (l : List Ty) (d c : Nat), c ≤ 2000 → d ≤ 101 → ((ja l d c).1 = true ↔ c + cR l ≤ 2000 ∧ d + FF l 0 ≤ 101 ∧ eX l = true) ∧ ((ja l d c).1 = true → (ja l d c).2 = c + cR l)
 | [], d, c, hc, hd => by simp only [ja, cR, FF, eX]; exact ⟨⟨fun _ => ⟨by omega, by omega, trivial⟩, fun _ => trivial⟩, fun _ => by omega⟩
 | t :: r, d, c, hc, hd => by
  obtain ⟨h1, h2⟩ := CR t d c
  have hm := tR r (max 0 (dp t))
  simp only [ja, cR, FF, eX, Bool.and_eq_true]
  by_cases h : (gw t d c).1 = true
  ·rw [if_pos h]
   have h3 := h1.1 h
   have h4 := h2 h
   obtain ⟨h5, h6⟩ := yj r d (gw t d c).2 (by omega) hd
   refine ⟨?_, fun hh => by rw [h6 hh]; omega⟩
   rw [h5]
   constructor
   ·rintro ⟨a, b, e⟩; exact ⟨by omega, by omega, h3.2.2, e⟩
   ·rintro ⟨a, b, e, f⟩; exact ⟨by omega, by omega, f⟩
  ·rw [if_neg h]
   refine ⟨⟨fun hh => (by cases hh), fun ⟨a, b, e, f⟩ => absurd (h1.2 ⟨by omega, by omega, e⟩) h⟩, fun hh => by cases hh⟩
end
theorem LH (t : Ty) : (gw t 1 0).1 = gt t ∧ (gt t = true → (gw t 1 0).2 = cY t) := by
 obtain ⟨h1, h2⟩ := CR t 1 0
 have hv : gt t = true ↔ (gw t 1 0).1 = true := by
  rw [h1]; unfold gt
  simp only [Bool.and_eq_true, decide_eq_true_eq]
  constructor
  ·rintro ⟨⟨a, b⟩, c⟩; exact ⟨by omega, by omega, c⟩
  ·rintro ⟨a, b, c⟩; exact ⟨⟨by omega, by omega⟩, c⟩
 refine ⟨?_, fun h => by rw [h2 (hv.1 h)]; omega⟩
 cases hq : gt t with
 | true => exact hv.1 hq
 | false =>
  cases hi : (gw t 1 0).1 with
  | true => have := hv.2 hi; rw [hq] at this; cases this
  | false => rfl
def Kn (K : S → Prop) (n : Nat) : Prop := ∀ F s s', (∀ b ∈ F, n ≤ b) → Fw F s s' → K s → K s'
theorem Kn.still {K : S → Prop} {n : Nat} (h : Kn K n) : fJ K := fun s s' hf => h [] s s' (by simp) hf
section
variable {K : S → Prop} {n : Nat}
theorem uv (hK : Kn K n) {t : Ty} {nm rw : V} {s : S} (hn : n ≤ s.next) (hR : gY K t nm rw) (hw : WF s) (hG : cF s) (hk : K s) : Cw au 13 [.agg [nm, rw]] s fun v s' => v = .int .i64 (if gt t = true then ((cY t : Nat) : Int) else 0) ∧ Fw [] s s' := by
 have ho := hR.one
 refine aL (bb (C := yS) (e := ⟨[nm, rw], []⟩) (F := []) rfl Tryz.func13 rfl (by kernel_rfl) Iu rfl ⟨rfl, by simp [aA, ho.1, ho.2], rfl⟩ rfl hw rfl (by simp) trivial ay trivial (by simp) ?_)
 refine bd fun b1 hb1 hd1 => ?_
 refine bd fun b2 hb2 hd2 => ?_
 refine ec fun s1 k1 k2 k3 k4 => ?_
 have g1 : s1.get b1 = some (.cells 25 false 1 [⟨0, 0, [nm, rw]⟩]) := k4.1
 have g2 : s1.get b2 = some (xF 0) := k4.2.1
 have hne : b1 ≠ b2 := fun h => by subst h; rw [g1] at g2; cases g2
 obtain ⟨v, s2, hcall, rfl, hcnt, hf⟩ := NR (K := fun s => K s ∧ s.get b1 = some (.cells 25 false 1 [⟨0, 0, [nm, rw]⟩])) (fc := b2)
  (fun s s' hf ⟨h1, h2⟩ => ⟨hK [b2] s s' (by simp; omega) hf h1, hf.keep _ _ (by simp [hne]) h2⟩) (cY t) t 1 0 ⟨b1, 0, 0⟩ nm rw s1 (Nat.le_refl _) (hR.mono fun s h => h.1) (fun s h => by rw [MY h.2]; rfl) (by omega) (by omega) k2 (hG.keep k1.ro) ⟨hK.still _ _ k1 hk, g1⟩ g2
 refine .inl ⟨[.int .i64 (((gw t 1 0).2 : Nat) : Int), .bool (gw t 1 0).1], _, s2, [], T0, inferInstance, rfl, rfl, hcall, hf.mono (by simp [fk]; rfl), ⟨hcnt, trivial⟩, ay, trivial, by simp, ?_⟩
 obtain ⟨hl1, hl2⟩ := LH t
 refine fl rfl rfl ?_
 refine aI rfl (fun c1 => ?_) (fun c1 => ?_)
 ·have hv : gt t = false := by rw [← hl1]; simpa using c1
  exact aE fun s1 h1 h2 h3 h4 => ⟨_, _, rfl, by rw [hv]; rfl, h1⟩
 ·have hv : gt t = true := by rw [← hl1]; simpa using c1
  exact aE fun s1 h1 h2 h3 h4 => ⟨_, _, rfl, by rw [if_pos hv, ← hl2 hv]; rfl, h1⟩
end
end Go.AI.Lx
namespace Go.AI.Lx
open Go.Proofs Go.Proofs.YtkeaedhoaamfnaaGreatDoor
def Gp : List aH := [⟨4, [(1, true), (23, false), (24, false), (25, true)], []⟩]
def ZS : Code := match Tryz.f35.body with | some c => c | none => .skip
def yP : gX := ⟨au, Tryz.f35, Gp, [(35, ⟨[], false⟩), (43, ⟨[], false⟩), (64, ⟨[], false⟩), (101, ⟨[], false⟩)], [⟨3, [(1, true), (2, false)], []⟩, ⟨100002, [(1, false), (2, false), (16, true)], []⟩], 0⟩
def ED : aB := aT (.bin .lss 3 false 3 2) 4 (.cond 4 (aT (.indexAddr 23 1 3) 5 (.ask (.load 25 5) true [] 2 (.agg [6, 7]) (.new (cT 35 [.agg [6, 7], 0] 8 (aT (.bin .add 3 true 3 (iV 1)) 9 (.back 0 [8, 1, 2, 9] [])))))) (rT 0))
def pa : aB := aT (.bif .len #[23] [2]) 3 (.loop 0 4 [0, 2, 3, iV 0] [] [] ED)
def oZ : aB := .cond 1 (.new (.act (.bif .append #[22, 22] [0, .slice ⟨1, 0, 0⟩ 0 1 (some 1) 1]) [(1, cB 9 [2])] 1 4 (.cut 3 [4, 2, 3] [0] [cB 25 [1, 2]] pa))) (.cut 3 [0, 2, 3] [0] [cB 25 [1, 2]] pa)
def Ei : aB := .new (cT 43 [0] 3 (.cond 3 (cT 64 [2, 0] 4 (aT (.un .not 4) 5 (.cut 4 [2, 5, 0, 1] [0] [cB 25 [2, 3]] oZ))) (.cut 4 [2, .bool false, 0, 1] [0] [cB 25 [2, 3]] oZ)))
theorem Iq : cb yP 400 [] [.code ZS] (bi [.agg [.atom 0, .atom 1], .atom 2] 0 .leaf id) (br ⟨.leaf, 0⟩ []) 3 = some Ei := by kernel_rfl
def xx : List aH := [⟨6, [(3, false), (4, false), (22, false), (23, false), (24, true)], []⟩]
def xn : Code := match Tryz.f40.body with | some c => c | none => .skip
def qO : gX := ⟨au, Tryz.f40, xx, [(13, ⟨[], false⟩), (35, ⟨[], false⟩), (64, ⟨[], false⟩), (101, ⟨[], false⟩)], [⟨100002, [(1, false), (16, true)], []⟩], 0⟩
def wN : aB := aT (.bin .lss 3 false 4 3) 5 (.cond 5 (aT (.indexAddr 22 2 4) 6 (aT (.load 9 6) 7 (aT (.lookup 86 1 7 false) 8 (aT (.bin .add 3 true 8 (iV 1)) 9 (.act (.mapUpd 86 1 7 9) [] 0 (.tuple []) (aT (.lookup 86 1 7 false) 10 (aT (.bin .gtr 3 true 10 (iV 1)) 11 (.cond 11 (rT (.bool false)) (cT 64 [0, 7] 12 (aT (.un .not 12) 13 (.cond 13 (rT (.bool false)) (aT (.bin .add 3 true 4 (iV 1)) 14 (.back 0 [0, 1, 2, 3, 14] []))))))))))))) (rT (.bool true)))
def kP : aB := .cond 0 (rT (.bool false)) (cT 35 [.agg [2, 3], nS] 4 (.act .makeMap [] 1 5 (aT (.bif .len #[22] [1]) 6 (.loop 0 5 [4, 5, 1, 6, iV 0] [] [] wN))))
def wH : aB := .new (cT 13 [.agg [1, 2]] 3 (aT (.bin .eql 3 true 3 (iV 0)) 4 (.cond 4 (.cut 4 [.bool true, 0, 1, 2] [0] [cB 27 [1, 2, 3]] kP) (aT (.bif .len #[22] [0]) 5 (aT (.bin .gtr 3 true 5 (iV 2000)) 6 (.cut 4 [6, 0, 1, 2] [0] [cB 27 [1, 2, 3]] kP))))))
theorem zW : cb qO 400 [] [.code xn] (bi [.agg [.atom 0, .atom 1, .atom 2]] 0 .leaf id) (br ⟨.leaf, 0⟩ []) 3 = some wH := by kernel_rfl
def GE : List aH := []
def Gh : Code := match Tryz.f64.body with | some c => c | none => .skip
def ze : gX := ⟨au, Tryz.f64, GE, [(64, ⟨[], false⟩), (101, ⟨[], false⟩)], [], 0⟩
def EA : aB := cT 101 [0, 1] 2 (aT (.bin .geq 3 true 2 (iV 0)) 3 (rT 3))
theorem IG : cb ze 400 [] [.code Gh] (bi [.atom 0, .atom 1] 0 .leaf id) (br ⟨.leaf, 0⟩ []) 2 = some EA := by kernel_rfl
def GD : List aH := [⟨2, [(0, false), (1, false), (7, false), (8, true)], []⟩]
def Gg : Code := match Tryz.f101.body with | some c => c | none => .skip
def zd : gX := ⟨au, Tryz.f101, GD, [(64, ⟨[], false⟩), (101, ⟨[], false⟩)], [], 0⟩
def Ez : aB := aT (.bif .len #[22] [0]) 2 (.loop 0 4 [0, 1, 2, iV 0] [] [] (aT (.bin .lss 3 false 3 2) 4 (.cond 4 (aT (.indexAddr 22 0 3) 5 (aT (.load 9 5) 6 (aT (.bin .eql 9 false 1 6) 7 (.cond 7 (rT 3) (aT (.bin .add 3 true 3 (iV 1)) 8 (.back 0 [0, 1, 2, 8] [])))))) (rT (iV (-1))))))
theorem IF : cb zd 400 [] [.code Gg] (bi [.atom 0, .atom 1] 0 .leaf id) (br ⟨.leaf, 0⟩ []) 2 = some Ez := by kernel_rfl
end Go.AI.Lx
namespace Go.AI.Lx
open Go.Proofs Go.Proofs.YtkeaedhoaamfnaaGreatDoor
set_option maxRecDepth 10000
structure DV (K : S → Prop) (v : V) (l : List (List Nat)) : Prop where
 row : jq K 1 v (l.map fun x => [.str x])
 bytes : ∀ x ∈ l, Bytes x
theorem DV.mono {K K' : S → Prop} (h : ∀ s, K' s → K s) {v : V} {l : List (List Nat)} (r : DV K v l) : DV K' v l := ⟨r.row.mono h, r.bytes⟩
theorem SH {s : S} {p : Ad} {x : V} (h : loadCells s p 1 = some [x]) {ty : TypeId} (hl : ∀ s a, loadVar Tryz.prog s ty a = cz s a) : gc (eI Tryz.prog s ty (some (.ptr p))) = some x := by
 have := ll h (i := 0) rfl hl
 rwa [show eK p 0 = p from rfl] at this
theorem DV.len {K : S → Prop} {v : V} {l : List (List Nat)} (r : DV K v l) (s : S) : mK Tryz.prog 22 s v = some (.int .i64 ((l.length : Nat) : Int)) := by
 have := r.row.len JP s
 rwa [List.length_map] at this
theorem DV.lt {K : S → Prop} {v : V} {l : List (List Nat)} (r : DV K v l) : l.length < 4611686018427387904 := by
 have := r.row.lt; rwa [List.length_map] at this
theorem DV.at {K : S → Prop} {v : V} {l : List (List Nat)} (r : DV K v l) {i : Nat} {x : List Nat} (h : l[i]? = some x) :
 ∃ p, bF Tryz.prog 22 (some v) (some i) = some (.ptr p) ∧ ∀ s, K s → gc (eI Tryz.prog s 9 (some (.ptr p))) = some (.str x) := by
 obtain ⟨p, h1, h2⟩ := r.row.at JP BH (i := i) (x := [.str x]) (by rw [List.getElem?_map, h]; rfl)
 exact ⟨p, h1, fun s hs => SH (h2 s hs) IU⟩
def Oc (x : List Nat) : List (List Nat) → Nat → Option Nat
 | [], _ => none
 | y :: r, i => if y = x then some i else Oc x r (i + 1)
def LY (o : Option Nat) : Int := match o with
 | some i => ((i : Nat) : Int)
 | none => -1
theorem HI {x : List Nat} : ∀ {l : List (List Nat)} {i : Nat}, (LY (Oc x l i) ≥ 0) ↔ x ∈ l
 | [], i => by simp [Oc, LY]
 | y :: r, i => by
  simp only [Oc]
  split
  ·rename_i h; subst h; simp [LY]
  ·rename_i h
   rw [HI (l := r) (i := i + 1)]
   simp [Ne.symm h]
section
variable {K : S → Prop}
theorem Qu (hK : fJ K) {v : V} {l : List (List Nat)} {x : List Nat} {s : S} (hr : DV K v l) (hx : Bytes x) (hw : WF s) (hk : K s) : Cw au 101 [v, .str x] s fun w s' => w = .int .i64 (LY (Oc x l 0)) ∧ Fw [] s s' := by
 have hlt := hr.lt
 refine aL (bb (C := zd) (e := ⟨[v, .str x], []⟩) (F := []) (dn rfl rfl rfl) Tryz.func101 rfl (by kernel_rfl) IF rfl ⟨rfl, by simp [aA, hr.row.one, nZ], rfl⟩ rfl hw rfl (by simp) trivial ay trivial (by simp) ?_)
 refine eL rfl (fun s1 _ _ => hr.len s1) rfl ?_
 refine tM (fun j vs bs => ∃ i, i ≤ l.length ∧ j = l.length - i ∧ vs = [v, .str x, .int .i64 ((l.length : Nat) : Int), .int .i64 ((i : Nat) : Int)] ∧ bs = [] ∧ Oc x (l.drop i) i = Oc x l 0) l.length ⟨0, by omega, rfl, rfl, rfl, rfl⟩ ?_
 rintro j _ _ ⟨i, hi, rfl, rfl, rfl, hf⟩
 refine jO rfl rfl rfl ?_
 refine dA rfl (fun c1 => ?_) (fun c1 => ?_)
 ·obtain ⟨y, hy, hd⟩ := et (show i < l.length by omega)
  rw [hd] at hf
  simp only [Oc] at hf
  obtain ⟨p, hp, hld⟩ := hr.at hy
  refine aD (.ptr p) rfl (fun _ _ _ _ _ => hp) rfl ?_
  refine aD (.str y) rfl (fun a b _ _ _ => hld a (hK _ _ b hk)) rfl ?_
  refine rN rfl rfl hx (hr.bytes y (List.mem_of_getElem? hy)) rfl ?_
  refine dA rfl (fun c2 => ?_) (fun c2 => ?_)
  ·rw [if_pos c2.symm] at hf
   exact aE fun s1 h1 h2 h3 h4 => ⟨_, _, rfl, by rw [← hf]; rfl, h1⟩
  ·rw [if_neg (fun h => c2 h.symm)] at hf
   refine ed (r := ((i + 1 : Nat) : Int)) rfl rfl (wI (by omega)) rfl ?_
   exact tN (l.length - (i + 1)) rfl (by omega) ⟨i + 1, by omega, rfl, rfl, rfl, hf⟩
 ·have : i = l.length := by omega
  subst this
  rw [List.drop_length] at hf
  exact aE fun s1 h1 h2 h3 h4 => ⟨_, _, rfl, by rw [← hf]; rfl, h1⟩
theorem yM (hK : fJ K) {v : V} {l : List (List Nat)} {x : List Nat} {s : S} (hr : DV K v l) (hx : Bytes x) (hw : WF s) (hk : K s) : Cw au 64 [v, .str x] s fun w s' => w = .bool (decide (x ∈ l)) ∧ Fw [] s s' := by
 refine aL (bb (C := ze) (e := ⟨[v, .str x], []⟩) (F := []) (dn rfl rfl rfl) Tryz.func64 rfl (by kernel_rfl) IG rfl ⟨rfl, by simp [aA, hr.row.one, nZ], rfl⟩ rfl hw rfl (by simp) trivial ay trivial (by simp) ?_)
 refine ax (.int .i64 (LY (Oc x l 0))) (fun _ a b _ _ => Qu hK hr hx b (hK _ _ a hk)) rfl rfl ?_
 refine HF rfl rfl rfl ?_
 exact aE fun s1 h1 h2 h3 h4 => ⟨_, _, rfl, by show V.bool _ = V.bool _; congr 1; rw [decide_eq_decide]; exact HI, h1⟩
theorem EN (hK : fJ K) {v w : V} {a b : List (List Nat)} {s : S} (ha : DV K v a) (hb : DV K w b) (hw : WF s) (hk : K s) : Cw au 8 [v, w] s fun u s' => u = .bool (decide (a = b)) ∧ Fw [] s s' := by
 have hla := ha.lt
 have hlb := hb.lt
 refine aL (bb (C := oO) (e := ⟨[v, w], []⟩) (F := []) (dn rfl rfl rfl) Tryz.func8 rfl (by kernel_rfl) wQ rfl ⟨rfl, by simp [aA, ha.row.one, hb.row.one], rfl⟩ rfl hw rfl (by simp) trivial ay trivial (by simp) ?_)
 refine eL rfl (fun s1 _ _ => ha.len s1) rfl ?_
 refine eL rfl (fun s1 _ _ => hb.len s1) rfl ?_
 refine sG rfl rfl rfl ?_
 refine dA rfl (fun c1 => ?_) (fun c1 => ?_)
 ·exact aE fun s1 h1 h2 h3 h4 => ⟨_, _, rfl, by rw [decide_eq_false (show ¬ a = b from fun h => c1 (by rw [h]))]; rfl, h1⟩
 ·have hlen : a.length = b.length := by omega
  refine tM (fun j vs bs => ∃ i, i ≤ a.length ∧ j = a.length - i ∧ vs = [v, w, .int .i64 ((i : Nat) : Int)] ∧ bs = [] ∧ (a = b ↔ a.drop i = b.drop i)) a.length ⟨0, by omega, rfl, rfl, rfl, by simp⟩ ?_
  rintro j _ _ ⟨i, hi, rfl, rfl, rfl, hf⟩
  refine eL rfl (fun s1 _ _ => ha.len s1) rfl ?_
  refine jO rfl rfl rfl ?_
  refine dA rfl (fun c2 => ?_) (fun c2 => ?_)
  ·obtain ⟨x, hx, hd⟩ := et (show i < a.length by omega)
   obtain ⟨y, hy, hd'⟩ := et (show i < b.length by omega)
   rw [hd, hd'] at hf
   obtain ⟨p, hp, hld⟩ := ha.at hx
   obtain ⟨p', hp', hld'⟩ := hb.at hy
   refine aD (.ptr p) rfl (fun _ _ _ _ _ => hp) rfl ?_
   refine aD (.str x) rfl (fun a b _ _ _ => hld a (hK _ _ b hk)) rfl ?_
   refine aD (.ptr p') rfl (fun _ _ _ _ _ => hp') rfl ?_
   refine aD (.str y) rfl (fun a b _ _ _ => hld' a (hK _ _ b hk)) rfl ?_
   refine Fs rfl rfl (ha.bytes x (List.mem_of_getElem? hx)) (hb.bytes y (List.mem_of_getElem? hy)) rfl ?_
   refine aI rfl (fun c3 => ?_) (fun c3 => ?_)
   ·have hne : x ≠ y := by simpa using c3
    exact aE fun s1 h1 h2 h3 h4 => ⟨_, _, rfl, by rw [decide_eq_false (show ¬ a = b from fun h => hne (by have := hf.1 h; simp at this; exact this.1))]; rfl, h1⟩
   ·have heq : x = y := by simpa using c3
    subst heq
    refine ed (r := ((i + 1 : Nat) : Int)) rfl rfl (wI (by omega)) rfl ?_
    exact tN (a.length - (i + 1)) rfl (by omega) ⟨i + 1, by omega, rfl, rfl, rfl, by rw [hf]; simp⟩
  ·have : i = a.length := by omega
   subst this
   rw [List.drop_length, hlen, List.drop_length] at hf
   exact aE fun s1 h1 h2 h3 h4 => ⟨_, _, rfl, by rw [decide_eq_true (hf.2 rfl)]; rfl, h1⟩
end
theorem RM : zi Tryz.prog 22 9 1 := ⟨by kernel_rfl, by kernel_rfl, by kernel_rfl, by kernel_rfl, by kernel_rfl⟩
def UV (l : List (List Nat)) (o : Option Nat) (v : V) (s : S) : Prop := gx 9 1 s v l.length (l.map V.str) o
theorem UV.stb {l : List (List Nat)} {o : Option Nat} {v : V} : iA o.toList (UV l o v) := fun s s' h hk _ => gx.keep h (fun X B hX hB => hk X (by simp [hX]) B hB)
theorem UV.still {l : List (List Nat)} {o : Option Nat} {v : V} : fJ (UV l o v) := fun s s' hf h => gx.fw h hf (by simp)
theorem UV.one {l : List (List Nat)} {o : Option Nat} {v : V} {s : S} (h : UV l o v s) : v.one = true := gx.one h
theorem UV.nil (s : S) : UV [] none .nilslice s := gx.nil
theorem UV.txs {l : List (List Nat)} {o : Option Nat} {v : V} {s : S} (h : UV l o v s) (hl : l.length < 4611686018427387904) (hb : ∀ x ∈ l, Bytes x) : DV (UV l o v) v l := by
 refine ⟨?_, hb⟩
 have h' : gx 9 1 s v l.length (l.map V.str) o := h
 generalize hn : l.length = n at h'
 generalize hc : l.map V.str = cs at h'
 have hcl : cs.length = l.length := by rw [← hc, List.length_map]
 cases h' with
 | nil =>
  have : l = [] := List.eq_nil_of_length_eq_zero hn
  subst this; exact .nil
 | row X nv rest n cs h1 h2 h3 =>
  refine .row _ _ _ _ (by simp [hn]) (by omega) fun i x hx s' hs => ?_
  rw [List.getElem?_map] at hx
  cases hy : l[i]? with
  | none => rw [hy] at hx; cases hx
  | some y =>
   rw [hy] at hx; cases hx
   have hs' : gx 9 1 s' (.slice ⟨X, nv, 0⟩ 0 n none 1) l.length (l.map V.str) (some X) := hs
   rw [hn, hc] at hs'
   cases hs' with
   | row _ _ rest' _ _ g1 g2 g3 =>
    have hv : bg (⟨nv, 0, cs⟩ :: rest') nv = some ⟨nv, 0, cs⟩ := by simp only [bg, Nat.beq_refl, cond_true]
    have hi : cs[i]? = some (.str y) := by rw [← hc, List.getElem?_map, hy]; rfl
    have hlt : i < cs.length := by
     rcases Nat.lt_or_ge i cs.length with h | h
     ·exact h
     ·rw [List.getElem?_eq_none h] at hi; cases hi
    simp only [loadCells, eK, g1, hv, DG, cond_true, Nat.sub_zero, Nat.zero_add, Nat.mul_one]
    rw [List.drop_eq_getElem_cons hlt]
    rw [List.getElem?_eq_getElem hlt] at hi
    rw [Option.some.inj hi]
    rfl
theorem UV.app {l : List (List Nat)} {o : Option Nat} {v : V} {s : S} (h : UV l o v s) (hw : WF s) {b : Nat} {x : List Nat} (hb : s.get b = some (.cells 9 false 1 [⟨0, 0, [.str x]⟩])) (hl : l.length ≤ 999999) :
 ∃ v' s' X, wG.run Tryz.prog s (.bif .append #[22, 22] [v, .slice ⟨b, 0, 0⟩ 0 1 (some 1) 1]) = some (v', s') ∧ UV (l ++ [x]) (some X) v' s' ∧ Fw o.toList s s' ∧ X < s'.next ∧ (o = some X ∨ s.next ≤ X) := by
 obtain ⟨v', s', X, happ, hG, hble, hor⟩ := gx.app RM h hw (c := some 1) hb rfl rfl hl
 have hU : UV (l ++ [x]) (some X) v' s' := by
  unfold UV
  rw [List.length_append, List.map_append]
  exact hG
 have hf : Fw o.toList s s' := by
  rcases hor with ⟨rfl, _, hf⟩ | ⟨rfl, hf⟩
  ·exact hf
  ·exact hf
 refine ⟨v', s', X, ?_, hU, hf, hG.lt (hf.wf hw), ?_⟩
 ·show gK (ff (iz Tryz.prog 22 22 s v (.slice ⟨b, 0, 0⟩ 0 1 (some 1) 1))) = _
  rw [happ]; rfl
 ·rcases hor with ⟨_, h, _⟩ | ⟨h, _⟩
  ·exact .inr (by omega)
  ·exact .inl h
mutual
def er : Ty → List (List Nat) → List (List Nat)
 | .mk name args, acc => fL args (if aK name = 4 ∧ name ∉ acc then acc ++ [name] else acc)
def fL : List Ty → List (List Nat) → List (List Nat)
 | [], acc => acc
 | t :: r, acc => fL r (er t acc)
end
mutual
theorem ki : ∀ (t : Ty) (acc : List (List Nat)), (er t acc).length ≤ acc.length + cY t
 | .mk name args, acc => by
  simp only [er, cY]
  have := Bz args (if aK name = 4 ∧ name ∉ acc then acc ++ [name] else acc)
  split at this
  ·rename_i h; rw [if_pos h]; simp only [List.length_append, List.length_cons, List.length_nil] at this; omega
  ·rename_i h; rw [if_neg h]; omega
theorem Bz : ∀ (l : List Ty) (acc : List (List Nat)), (fL l acc).length ≤ acc.length + cR l
 | [], acc => by simp [fL, cR]
 | t :: r, acc => by
  simp only [fL, cR]
  have h1 := ki t acc
  have h2 := Bz r (er t acc)
  omega
end
def SK (f : FuncId) (spec : Ty → List (List Nat) → List (List Nat)) (K : S → Prop) (n N : Nat) : Prop := ∀ (t : Ty) (acc : List (List Nat)) (nm rw out : V) (o : Option Nat) (s : S), cY t ≤ N → gY K t nm rw → WF s → cF s → K s → n ≤ s.next → (∀ X, o = some X → n ≤ X) →
 UV acc o out s → (∀ x ∈ acc, Bytes x) → acc.length + cY t ≤ 99999 →
 Cw au f [.agg [nm, rw], out] s fun v s' => ∃ o', UV (spec t acc) o' v s' ∧ (∀ X, o' = some X → o = some X ∨ s.next ≤ X) ∧ (∀ x ∈ spec t acc, Bytes x) ∧ Fw o.toList s s'
section
variable {K : S → Prop} {n : Nat}
theorem pQ {l : List (List Nat)} {o : Option Nat} {v : V} {s : S} (h : UV l o v s) (hw : WF s) : ∀ g ∈ o.toList, g < s.next := fun g hg => by
 cases o with
 | none => simp at hg
 | some X => simp at hg; subst hg; exact gx.lt h hw
theorem Ed (hK : Kn K n) : ∀ N, SK 35 er K n N := by
 intro N
 induction N with
 | zero => intro t acc nm rw out o s h; cases t; simp only [cY] at h; omega
 | succ N ih =>
  intro t acc nm rw out o s hN hR hw hG hk hn hon hU hba hal
  have ho := hR.one
  have hoo := hU.one
  obtain ⟨name, args⟩ := t
  simp only [gY] at hR
  obtain ⟨rfl, hb, hbl, cs, hrow, hts⟩ := hR
  have hlen := hts.len
  have hlt := hrow.lt
  simp only [cY] at hN hal
  have hkk : ∀ s1, Fw o.toList s s1 → K s1 := fun s1 h1 => hK o.toList s s1 (fun b hb => by cases o with
   | none => simp at hb
   | some X => simp at hb; subst hb; exact hon b rfl) h1 hk
  refine aL (bb (C := yP) (e := ⟨[.str name, rw, out], []⟩) (F := o.toList) (D := o.toList) (U := UV acc o out) (dn rfl rfl rfl) Tryz.func35 rfl (by kernel_rfl) Iq rfl ⟨rfl, by simp [aA, ho.2, hoo, nZ], rfl⟩ rfl hw rfl (by simp) trivial UV.stb hU (fun g hg => ⟨pQ hU hw g hg, hg, by simp⟩) ?_)
  have key1 : ∀ (acc' : List (List Nat)) (out' : V) (o' : Option Nat) (b1 : Nat) (L : List ck), out'.one = true → (∀ X, o' = some X → o = some X ∨ s.next ≤ X) → (∀ x ∈ acc', Bytes x) → acc'.length + cR args ≤ 99999 → fL args acc' = er (.mk name args) acc →
   ah au o.toList s (tW fun v s' => ∃ o', UV (er (.mk name args) acc) o' v s' ∧ (∀ X, o' = some X → o = some X ∨ s.next ≤ X) ∧ (∀ x ∈ er (.mk name args) acc, Bytes x) ∧ Fw o.toList s s') pa ⟨[out', .str name, rw], [b1]⟩ o'.toList (UV acc' o' out') L := by
   intro acc' out' o' b1 L hone hX hb' hl' hv
   refine eL rfl (fun s1 _ _ => hrow.len gz s1) rfl ?_
   refine jP (fun j vs bs D U => ∃ (i : Nat) (acc2 : List (List Nat)) (out2 : V) (o2 : Option Nat), i ≤ args.length ∧ j = args.length - i ∧ vs = [out2, rw, .int .i64 ((cs.length : Nat) : Int), .int .i64 ((i : Nat) : Int)] ∧ bs = [] ∧ D = o2.toList ∧ U = UV acc2 o2 out2 ∧ out2.one = true ∧ (∀ X, o2 = some X → o = some X ∨ s.next ≤ X) ∧ (∀ x ∈ acc2, Bytes x) ∧ acc2.length + cR (args.drop i) ≤ 99999 ∧ fL (args.drop i) acc2 = er (.mk name args) acc)
    args.length ⟨0, acc', out', o', by omega, rfl, rfl, rfl, rfl, rfl, hone, hX, hb', hl', hv⟩ UV.stb ?_
   rintro j _ _ _ _ ⟨i, acc2, out2, o2, hi, rfl, rfl, rfl, rfl, rfl, hone2, hX2, hby2, hl2, hv2⟩ - - -
   refine jO rfl rfl rfl ?_
   refine dA rfl (fun c1 => ?_) (fun c1 => ?_)
   ·obtain ⟨t', ht', hdr⟩ := et (show i < args.length by omega)
    rw [hdr] at hv2 hl2
    simp only [fL, cR] at hv2 hl2
    obtain ⟨nm', rw', hx, hR'⟩ := hts.at ht'
    obtain ⟨p', hp', hld⟩ := hrow.at gz fx hx
    have ho' := hR'.one
    have hsz := lI ht'
    refine aD (.ptr p') rfl (fun _ _ _ _ _ => hp') rfl ?_
    refine h_askN [nm', rw'] (.agg [nm', rw']) rfl (by simp [aA, ho'.1, ho'.2]) (fun a b _ _ _ => lm (hld a (hkk a b))) rfl ?_
    refine bd fun b2 hb2 hd2 => ?_
    refine ec fun s1 k1 k2 k3 k4 => ?_
    have hon2 : ∀ X, o2 = some X → n ≤ X := fun X hx => by
     rcases hX2 X hx with h | h
     ·exact hon X h
     ·omega
    obtain ⟨v, s2, hcall, o3, hU3, hX3, hb3, hf3⟩ := ih t' acc2 nm' rw' out2 o2 s1 (by omega) hR' k2 (hG.keep k1.ro) (hkk s1 k1) (Nat.le_trans hn k1.next) hon2 k3 hby2 (by omega)
    have hw2 := hf3.wf k2
    refine .inl ⟨[v], _, s2, o3.toList, UV (er t' acc2) o3 v, inferInstance, rfl, by simp [aA, hU3.one], hcall, hf3.mono (by simp [fk]), trivial, UV.stb, hU3, fun g hg => ⟨pQ hU3 hw2 g hg, ?_⟩, ?_⟩
    ·cases o3 with
     | none => simp at hg
     | some X =>
      simp at hg; subst hg
      rcases hX3 g rfl with h | h
      ·exact .inl (by simp [h])
      ·exact .inr h
    have hl3 := ki t' acc2
    refine ed (r := ((i + 1 : Nat) : Int)) rfl rfl (wI (by omega)) rfl ?_
    refine kT rfl UV.stb ⟨args.length - (i + 1), by omega, i + 1, er t' acc2, v, o3, by omega, rfl, rfl, rfl, rfl, rfl, hU3.one, fun X hx => ?_, hb3, by omega, hv2⟩
    rcases hX3 X hx with h | h
    ·exact hX2 X h
    ·exact .inr (Nat.le_trans k1.next h)
   ·have : i = args.length := by omega
    subst this
    rw [List.drop_length] at hv2
    simp only [fL] at hv2
    exact aE fun s1 h1 h2 h3 h4 => ⟨_, _, rfl, o2, by rw [← hv2]; exact h3, hX2, by rw [← hv2]; exact hby2, h1⟩
  have key2 : ∀ (q : Bool) (b1 : Nat) (L : List ck), (q = true ↔ aK name = 4 ∧ name ∉ acc) →
   ah au o.toList s (tW fun v s' => ∃ o', UV (er (.mk name args) acc) o' v s' ∧ (∀ X, o' = some X → o = some X ∨ s.next ≤ X) ∧ (∀ x ∈ er (.mk name args) acc, Bytes x) ∧ Fw o.toList s s') oZ ⟨[out, .bool q, .str name, rw], [b1]⟩ o.toList (UV acc o out) L := by
   intro q b1 L hq
   refine aI rfl (fun c1 => ?_) (fun c1 => ?_)
   ·refine bd fun b2 hb2 hd2 => ?_
    refine jb fun s1 k1 k2 k3 k4 => ?_
    obtain ⟨v', s2, X, hrun, hU2, hf2, hXl, hXo⟩ := UV.app k3 k2 k4.1 (by omega)
    refine ⟨[v'], _, s2, [X], UV (acc ++ [name]) (some X) v', inferInstance, rfl, by simp [aA, hU2.one], hrun, hf2, UV.stb, hU2, fun g hg => ?_, ?_⟩
    ·simp at hg; subst hg
     refine ⟨hXl, ?_⟩
     rcases hXo with h | h
     ·exact .inl (by simp [h])
     ·exact .inr h
    refine ib (fun vs bs D U => vs = [v', .str name, rw] ∧ bs = [b1] ∧ D = [X] ∧ U = UV (acc ++ [name]) (some X) v') ⟨rfl, rfl, rfl, rfl⟩ UV.stb ?_
    rintro _ _ _ _ ⟨rfl, rfl, rfl, rfl⟩ - - -
    refine key1 (acc ++ [name]) v' (some X) b1 _ hU2.one (fun Y hY => ?_) (fun x hx => ?_) (by simp only [List.length_append, List.length_cons, List.length_nil]; omega) (by simp only [er]; rw [if_pos (hq.1 c1)])
    ·cases hY
     rcases hXo with h | h
     ·exact .inl h
     ·exact .inr (Nat.le_trans k1.next h)
    ·simp at hx
     rcases hx with h | h
     ·exact hba x h
     ·rw [h]; exact hb
   ·refine ib (fun vs bs D U => vs = [out, .str name, rw] ∧ bs = [b1] ∧ D = o.toList ∧ U = UV acc o out) ⟨rfl, rfl, rfl, rfl⟩ UV.stb ?_
    rintro _ _ _ _ ⟨rfl, rfl, rfl, rfl⟩ - - -
    refine key1 acc out o b1 _ hoo (fun Y hY => .inl hY) hba (by omega) (by simp only [er]; rw [if_neg (fun h => by rw [hq.2 h] at c1; cases c1)])
  refine bd fun b1 hb1 hd1 => ?_
  refine ax (.bool (decide (aK name = 4))) (fun _ a b _ _ => Fm hb hbl b (hG.keep a.ro)) rfl rfl ?_
  refine dA rfl (fun c1 => ?_) (fun c1 => ?_)
  ·refine ax (.bool (decide (name ∈ acc))) (fun _ _ a b _ => yM UV.still (UV.txs hU (by omega) hba) hb a b) rfl rfl ?_
   refine fl rfl rfl ?_
   refine ib (fun vs bs D U => vs = [out, .bool (!decide (name ∈ acc)), .str name, rw] ∧ bs = [b1] ∧ D = o.toList ∧ U = UV acc o out) ⟨rfl, rfl, rfl, rfl⟩ UV.stb ?_
   rintro _ _ _ _ ⟨rfl, rfl, rfl, rfl⟩ - - -
   exact key2 _ _ _ (by simp [c1])
  ·refine ib (fun vs bs D U => vs = [out, .bool false, .str name, rw] ∧ bs = [b1] ∧ D = o.toList ∧ U = UV acc o out) ⟨rfl, rfl, rfl, rfl⟩ UV.stb ?_
   rintro _ _ _ _ ⟨rfl, rfl, rfl, rfl⟩ - - -
   exact key2 _ _ _ (by simp [c1])
end
theorem Cs : (39 : Nat) ∉ xQ := by decide
theorem Fk {l : List Nat} : (aK l = 4 → Pe l = true) ∧ (Pe l = true → aK l = 4 ∨ aK l = 0) := by
 unfold aK
 split
 ·exact ⟨fun h => by omega, fun _ => .inr rfl⟩
 ·rename_i h0
  have hl : 0 < l.length := by
   rcases Nat.eq_zero_or_pos l.length with h | h
   ·exact absurd (.inl h) h0
   ·exact h
  unfold Np
  by_cases hq : aC l 0 = 39
  ·have hv : Pe l = true := decide_eq_true ⟨hl, hq⟩
   refine ⟨fun _ => hv, fun _ => ?_⟩
   by_cases h1 : aC l 0 = 39 ∧ 1 < l.length ∧ dC (aC l 1) = true
   ·rw [if_pos h1]
    split
    ·exact .inr rfl
    ·rename_i k m hk
     split at hk
     ·cases hk
     ·cases hk
      split
      ·exact .inl rfl
      ·exact .inr rfl
   ·rw [if_neg h1]
    have h2 : ¬ (dC (aC l 0) = true ∨ gV (aC l 0) = true) := by
     rw [hq, sn, so]; simp
    rw [if_neg h2]
    split
    ·exact .inr rfl
    ·rename_i k m hk
     split at hk
     ·cases hk
     ·rename_i h3
      exfalso
      apply h3
      unfold GV
      have h4 : ¬ (0 + 1 < l.length ∧ ((l.drop 0).take 2 = [61, 62] ∨ (l.drop 0).take 2 = [45, 62])) := by
       rintro ⟨h5, h6⟩
       rw [List.drop_zero] at h6
       have h7 : aC (l.take 2) 0 = aC l 0 := xY (by omega)
       rcases h6 with h6 | h6
       ·rw [h6, hq] at h7; revert h7; decide
       ·rw [h6, hq] at h7; revert h7; decide
      rw [if_neg h4, hq, if_neg Cs]
  ·have hv : Pe l = false := decide_eq_false (fun h => hq h.2)
   rw [hv]
   refine ⟨fun h => ?_, fun h => by cases h⟩
   exfalso
   rw [if_neg (fun h => hq h.1)] at h
   revert h
   split
   ·intro h; omega
   ·rename_i k m hk
    split at hk
    ·split at hk
     ·cases hk
     ·cases hk
      split
      ·split
       ·intro h; omega
       ·split <;> intro h <;> omega
      ·intro h; omega
    ·split at hk
     ·cases hk
     ·cases hk
      split <;> intro h <;> omega
theorem pu : aK [45, 62] = 6 := by decide +kernel
theorem pt : aK [44] = 6 := by decide +kernel
theorem vz : aK [73, 110, 116] = 3 := by decide +kernel
theorem uS {name : List Nat} {n : Nat} (h : ek name n = true) : (Pe name = true ↔ aK name = 4) ∧ (aK name = 4 → n = 0) := by
 unfold ek at h
 have hq := Fk (l := name)
 split at h
 ·rename_i hn; subst hn
  rw [pu]
  exact ⟨⟨fun hh => by revert hh; decide, fun hh => by omega⟩, fun hh => by omega⟩
 ·split at h
  ·rename_i hn; subst hn
   rw [pt]
   exact ⟨⟨fun hh => by revert hh; decide, fun hh => by omega⟩, fun hh => by omega⟩
  ·split at h
   ·rename_i hn; subst hn
    rw [vz]
    exact ⟨⟨fun hh => by revert hh; decide, fun hh => by omega⟩, fun hh => by omega⟩
   ·have h := of_decide_eq_true h
    refine ⟨⟨fun hh => ?_, hq.1⟩, fun hh => by omega⟩
    have := hq.2 hh
    omega
theorem bu {t : Ty} (h : gt t = true) : cY t ≤ 2000 ∧ dp t ≤ 100 ∧ nu t = true := by
 unfold gt at h
 simp only [Bool.and_eq_true, decide_eq_true_eq] at h
 exact ⟨h.1.1, h.1.2, h.2⟩
def RA (t : Ty) : List (List Nat) := if gt t = true then er t [] else []
section
variable {K : S → Prop} {n : Nat}
end
def ru : List (List Nat × V) → Nat → List pL
 | [], _ => []
 | (k, v) :: r, n => ⟨.str k, v, n⟩ :: ru r (n + 1)
def fg (x : List Nat) : List (List Nat × V) → Option V
 | [] => none
 | (k, v) :: r => if x = k then some v else fg x r
def gd (x : List Nat) (w : V) : List (List Nat × V) → List (List Nat × V)
 | [] => [(x, w)]
 | (k, v) :: r => if x = k then (x, w) :: r else (k, v) :: gd x w r
theorem ob (x y : List Nat) (w : V) : ∀ (m : List (List Nat × V)), fg y (gd x w m) = if y = x then some w else fg y m
 | [] => by simp [gd, fg]
 | (k, v) :: r => by
  have ih := ob x y w r
  by_cases hx : x = k
  ·subst hx
   simp only [gd, if_true, fg]
   by_cases hy : y = x <;> simp [hy]
  ·simp only [gd, if_neg hx, fg, ih]
   by_cases hy : y = k
   ·subst hy; simp [Ne.symm hx]
   ·simp [hy]
theorem CH (x : List Nat) (w : V) : ∀ (m : List (List Nat × V)), (gd x w m).length = if (fg x m).isSome = true then m.length else m.length + 1
 | [] => by simp [gd, fg]
 | (k, v) :: r => by
  have ih := CH x w r
  by_cases hx : x = k
  ·subst hx; simp [gd, fg]
  ·simp only [gd, if_neg hx, fg, List.length_cons, ih]
   split <;> rfl
def kZ (m : List (List Nat × V)) : Prop := ∀ p ∈ m, Bytes p.1
theorem kZ.set {m : List (List Nat × V)} (h : kZ m) {x : List Nat} (hx : Bytes x) (w : V) : kZ (gd x w m) := by
 induction m with
 | nil => intro p hp; simp [gd] at hp; subst hp; exact hx
 | cons a r ih =>
  obtain ⟨k, v⟩ := a
  simp only [gd]
  split
  ·intro p hp
   rcases List.mem_cons.1 hp with rfl | hp
   ·exact hx
   ·exact h p (List.mem_cons_of_mem _ hp)
  ·intro p hp
   rcases List.mem_cons.1 hp with rfl | hp
   ·exact h _ (by simp)
   ·exact ih (fun q hq => h q (List.mem_cons_of_mem _ hq)) p hp
theorem qB {ok : V → V → Option Bool} (hok : ∀ a b, Bytes a → Bytes b → ok (.str a) (.str b) = some (decide (a = b))) {x : List Nat} (hx : Bytes x) : ∀ (m : List (List Nat × V)) (n : Nat), kZ m → bN ok (.str x) (ru m n) = some (fg x m)
 | [], n, _ => by simp [ru, fg, bN]
 | (k, v) :: r, n, h => by
  have ih := qB hok hx r (n + 1) (fun p hp => h p (List.mem_cons_of_mem _ hp))
  simp only [ru, bN, ih, hok x k hx (h (k, v) (by simp)), fg]
  by_cases hw : x = k
  ·subst hw; simp [bN.foundKey]
  ·simp [bN.foundKey, hw]
theorem JO {ok : V → V → Option Bool} (hok : ∀ a b, Bytes a → Bytes b → ok (.str a) (.str b) = some (decide (a = b))) {x : List Nat} (hx : Bytes x) (w : V) : ∀ (m : List (List Nat × V)) (n : Nat), kZ m →
 cl ok (.str x) w (ru m n) = some (if (fg x m).isSome = true then some (ru (gd x w m) n) else none)
 | [], n, _ => by simp [ru, fg, cl]
 | (k, v) :: r, n, h => by
  have ih := JO hok hx w r (n + 1) (fun p hp => h p (List.mem_cons_of_mem _ hp))
  simp only [ru, cl, hok x k hx (h (k, v) (by simp)), fg, gd]
  rw [ih]
  by_cases hw : x = k
  ·subst hw; simp [cl.setKey, ru]
  ·cases hm : (fg x r).isSome with
   | true =>
    rw [hm] at ih
    simp only [if_true] at ih ⊢
    simp only [hw, decide_false, if_false, hm, if_true, cl.setKey, ru]
   | false =>
    rw [hm] at ih
    simp only [hw, decide_false, if_false, hm, cl.setKey, Bool.false_eq_true]
theorem np {x : List Nat} (w : V) : ∀ {m : List (List Nat × V)}, fg x m = none → gd x w m = m ++ [(x, w)]
 | [], _ => rfl
 | (k, v) :: r, h => by
  simp only [fg] at h
  split at h
  ·cases h
  ·rename_i hk
   simp only [gd, if_neg hk, np w h, List.cons_append]
theorem CI (x : List Nat) (w : V) : ∀ (m : List (List Nat × V)) (n : Nat), ru (m ++ [(x, w)]) n = ru m n ++ [⟨.str x, w, n + m.length⟩]
 | [], n => rfl
 | (k, v) :: r, n => by
  simp only [List.cons_append, ru, CI x w r (n + 1), List.length_cons]
  rw [show n + 1 + r.length = n + (r.length + 1) by omega]
def MP (s : S) (mm : Nat) (m : List (List Nat × V)) : Prop := s.get mm = some (.map (ru m 0) m.length)
theorem MP.upd {s : S} {mm : Nat} {m : List (List Nat × V)} (h : MP s mm m) (hw : WF s) (hk : kZ m) {x : List Nat} (hx : Bytes x) (w : V) {ty vt : TypeId} (hu : Tryz.prog.underlying ty = some (.map 9 vt)) :
 ∃ s', wG.run Tryz.prog s (.mapUpd ty (.map mm) (.str x) w) = some (V.undef, s') ∧ MP s' mm (gd x w m) ∧ Fw [mm] s s' ∧ mm < s'.next := by
 have hupd := JO (ok := dJ Tryz.prog (Go.AI.plainAt s) 20 9) (fun a b ha hb => io s a b ha hb) hx w m 0 hk
 have h' : s.get mm = some (.map (ru m 0) m.length) := h
 have hlt := hw mm _ h'
 cases hm : fg x m with
 | none =>
  have hs := np w hm
  refine ⟨s.put mm (.map (ru (gd x w m) 0) (gd x w m).length), ?_, by unfold MP; rw [S.get_put, if_pos rfl], Fw.put (by simp) h' (fun _ h => by cases h) _, by rw [S.next_put]; exact hlt⟩
  rw [hm] at hupd
  simp only [Option.isSome_none, Bool.false_eq_true, if_false] at hupd
  show gK (dt Tryz.prog s ty (some (.map mm)) (some (.str x)) (some w)) = _
  simp only [dt, hu, h', jg, cond_true, hupd, pR]
  rw [hs, CI, List.length_append]
  simp [gK]
 | some v0 =>
  have hl := CH x w m
  rw [hm] at hl hupd
  simp only [Option.isSome_some, if_true] at hl hupd
  refine ⟨s.put mm (.map (ru (gd x w m) 0) (gd x w m).length), ?_, by unfold MP; rw [S.get_put, if_pos rfl], Fw.put (by simp) h' (fun _ h => by cases h) _, by rw [S.next_put]; exact hlt⟩
  show gK (dt Tryz.prog s ty (some (.map mm)) (some (.str x)) (some w)) = _
  simp only [dt, hu, h', jg, cond_true, hupd, pR, hl]
  rfl
theorem PB : qz Tryz.prog 3 false (some none) = some (.int .i64 0) := by kernel_rfl
theorem MP.look {s : S} {mm : Nat} {m : List (List Nat × V)} (h : MP s mm m) (hk : kZ m) {x : List Nat} (hx : Bytes x) : bZ Tryz.prog s 86 (some (.map mm)) (some (.str x)) false = some ((fg x m).getD (.int .i64 0)) := by
 have h' : s.get mm = some (.map (ru m 0) m.length) := h
 simp only [bZ, Tryz.underlying86, nE, h', jg, cond_true, qB (fun a b ha hb => io s a b ha hb) hx m 0 hk]
 cases hm : fg x m with
 | none => simp only [PB]; rfl
 | some v => rfl
def rk (l : List (List Nat)) : List (List Nat) → List (List Nat) → Bool
 | _, [] => true
 | seen, v :: r => decide (v ∉ seen) && decide (v ∈ l) && rk l (seen ++ [v]) r
def gv (vars : List (List Nat)) (t : Ty) : Bool := gt t && decide (vars.length ≤ 2000) && rk (RA t) [] vars
theorem JN {l : List (List Nat)} {X : Nat} {v : V} {s : S} {mm : Nat} {m : List (List Nat × V)} (h : UV l (some X) v s) (h2 : MP s mm m) : X ≠ mm := fun e => by
 subst e
 have h' : gx 9 1 s v l.length (l.map V.str) (some X) := h
 have h2' : s.get X = some (.map (ru m 0) m.length) := h2
 generalize hn : l.length = n at h'
 generalize hc : l.map V.str = cs at h'
 cases h' with
 | row _ nv rest n cs h1 h3 h4 => rw [h2'] at h1; cases h1
def UM (l : List (List Nat)) (o : Option Nat) (v : V) (mm : Nat) (m : List (List Nat × V)) (s : S) : Prop := UV l o v s ∧ MP s mm m
theorem UM.stb {l : List (List Nat)} {o : Option Nat} {v : V} {mm : Nat} {m : List (List Nat × V)} : iA (mm :: o.toList) (UM l o v mm m) := fun s s' ⟨h1, h2⟩ hk hn =>
 ⟨UV.stb s s' h1 (fun g hg => hk g (by simp at hg ⊢; exact .inr hg)) hn, hk mm (by simp) _ h2⟩
theorem UM.upd {l : List (List Nat)} {o : Option Nat} {v : V} {mm : Nat} {m : List (List Nat × V)} {s : S} (h : UM l o v mm m s) (hw : WF s) (hk : kZ m) {x : List Nat} (hx : Bytes x) (w : V) :
 ∃ s', wG.run Tryz.prog s (.mapUpd 86 (.map mm) (.str x) w) = some (V.undef, s') ∧ UM l o v mm (gd x w m) s' ∧ Fw (mm :: o.toList) s s' ∧ ∀ g ∈ mm :: o.toList, g < s'.next := by
 obtain ⟨s', h1, h2, h3, h4⟩ := MP.upd h.2 hw hk hx w Tryz.underlying86
 have hU : UV l o v s' := gx.fw h.1 h3 (fun X hX => by subst hX; simp; exact JN h.1 h.2)
 refine ⟨s', h1, ⟨hU, h2⟩, h3.mono (by simp), fun g hg => ?_⟩
 rcases List.mem_cons.1 hg with rfl | hg
 ·exact h4
 ·exact pQ hU (h3.wf hw) g hg
section
variable {K : S → Prop} {n : Nat}
structure DW (K : S → Prop) (vars : List (List Nat)) (t : Ty) (vr nm rw : V) : Prop where
 vars : DV K vr vars
 ty : gY K t nm rw
theorem oh (hK : Kn K n) {vars : List (List Nat)} {t : Ty} {vr nm rw : V} {s : S} (hn : n ≤ s.next) (hR : DW K vars t vr nm rw) (hw : WF s) (hG : cF s) (hk : K s) : Cw au 40 [.agg [vr, nm, rw]] s fun v s' => v = .bool (gv vars t) ∧ Fw [] s s' := by
 have ho := hR.ty.one
 have hov := hR.vars.row.one
 have hvl := hR.vars.lt
 refine aL (bb (C := qO) (e := ⟨[vr, nm, rw], []⟩) (F := []) (dn rfl rfl rfl) Tryz.func40 rfl (by kernel_rfl) zW rfl ⟨rfl, by simp [aA, ho.1, ho.2, hov], rfl⟩ rfl hw rfl (by simp) trivial ay trivial (by simp) ?_)
 have hpos : 1 ≤ cY t := by cases t; simp only [cY]; omega
 have key : ∀ (q : Bool) (b1 : Nat) (L : List ck), (q = false ↔ gt t = true ∧ vars.length ≤ 2000) → ah au [] s (tW fun v s' => v = .bool (gv vars t) ∧ Fw [] s s') kP ⟨[.bool q, vr, nm, rw], [b1]⟩ [] T0 L := by
  intro q b1 L hq
  refine aI rfl (fun c1 => ?_) (fun c1 => ?_)
  ·refine aE fun s1 h1 h2 h3 h4 => ⟨_, _, rfl, ?_, h1⟩
   have : (gt t && decide (vars.length ≤ 2000)) = false := by
    cases hv : (gt t && decide (vars.length ≤ 2000)) with
    | false => rfl
    | true =>
     simp only [Bool.and_eq_true, decide_eq_true_eq] at hv
     rw [hq.2 hv] at c1; cases c1
   show V.bool false = V.bool (gv vars t)
   unfold gv; rw [this, Bool.false_and]
  ·obtain ⟨hv, hl⟩ := hq.1 c1
   have hsp : gv vars t = rk (er t []) [] vars := by
    unfold gv RA; rw [hv, decide_eq_true hl, if_pos rfl]; rfl
   rw [hsp]
   refine ec fun s1 k1 k2 k3 k4 => ?_
   obtain ⟨v, s2, hcall, o', hU, hX, hby, hf⟩ := Ed hK (cY t) t [] nm rw .nilslice none s1 (Nat.le_refl _) hR.ty k2 (hG.keep k1.ro) (hK.still _ _ k1 hk) (Nat.le_trans hn k1.next) (fun X hX => by cases hX) (UV.nil _) (by simp) (by have := (bu hv).1; simp only [List.length_nil]; omega)
   have hw2 := hf.wf k2
   have hil := ki t []
   have hsz := (bu hv).1
   simp only [List.length_nil] at hil
   refine .inl ⟨[v], _, s2, o'.toList, UV (er t []) o' v, inferInstance, rfl, by simp [aA, hU.one], hcall, hf.mono (by simp), trivial, UV.stb, hU, fun g hg => ⟨pQ hU hw2 g hg, ?_⟩, ?_⟩
   ·cases o' with
    | none => simp at hg
    | some X =>
     simp at hg; subst hg
     rcases hX g rfl with h | h
     ·cases h
     ·exact .inr h
   generalize hins : er t [] = ins at *
   have hvo := hU.one
   refine jb fun s3 j1 j2 j3 j4 => ?_
   have hal := Fw.alloc [] j2 (.map [] 0)
   refine ⟨[.map s3.next], _, s3.alloc (.map [] 0), s3.next :: o'.toList, UM ins o' v s3.next [], inferInstance, rfl, rfl, rfl, hal.mono (by simp), UM.stb, ⟨gx.fw j3 hal (by simp), bT _ _⟩, fun g hg => ?_, ?_⟩
   ·rw [S.next_alloc]
    rcases List.mem_cons.1 hg with rfl | hg
    ·exact ⟨by omega, .inr (Nat.le_refl _)⟩
    ·have := pQ j3 j2 g hg
     exact ⟨by omega, .inl hg⟩
   generalize s3.next = mm
   refine eL rfl (fun s1 _ _ => hR.vars.len s1) rfl ?_
   refine jP (fun j vs bs D U => ∃ (i : Nat) (m : List (List Nat × V)), i ≤ vars.length ∧ j = vars.length - i ∧ vs = [v, .map mm, vr, .int .i64 ((vars.length : Nat) : Int), .int .i64 ((i : Nat) : Int)] ∧ bs = [] ∧ D = mm :: o'.toList ∧ U = UM ins o' v mm m ∧ kZ m ∧ (∀ x, fg x m = if x ∈ vars.take i then some (.int .i64 1) else none) ∧ rk ins (vars.take i) (vars.drop i) = rk ins [] vars)
    vars.length ⟨0, [], by omega, rfl, rfl, rfl, rfl, rfl, (fun p hp => by cases hp), (fun x => by simp [fg]), rfl⟩ UM.stb ?_
   rintro j _ _ _ _ ⟨i, m, hi, rfl, rfl, rfl, rfl, rfl, hkm, hmg, hs⟩ - - -
   refine jO rfl rfl rfl ?_
   refine dA rfl (fun c2 => ?_) (fun c2 => ?_)
   ·obtain ⟨x, hx, hd⟩ := et (show i < vars.length by omega)
    rw [hd] at hs
    simp only [rk] at hs
    have hxb := hR.vars.bytes x (List.mem_of_getElem? hx)
    obtain ⟨p, hp, hld⟩ := hR.vars.at hx
    refine aD (.ptr p) rfl (fun _ _ _ _ _ => hp) rfl ?_
    refine aD (.str x) rfl (fun a b _ _ _ => hld a (hK.still _ _ b hk)) rfl ?_
    refine aD (.int .i64 (if x ∈ vars.take i then 1 else 0)) rfl (fun s1 h1 h2 h3 h4 => ?_) rfl ?_
    ·have := (h3 rfl).2.look hkm hxb
     show bZ Tryz.prog s1 86 (some (.map mm)) (some (.str x)) false = _
     rw [this, hmg x]
     split <;> rfl
    refine ed (r := (if x ∈ vars.take i then 1 else 0) + 1) rfl rfl (by split <;> rfl) rfl ?_
    refine jb fun s3 j1 j2 j3 j4 => ?_
    obtain ⟨s4, hrun, hU4, hf4, hb4⟩ := UM.upd j3 j2 hkm hxb (.int .i64 ((if x ∈ vars.take i then 1 else 0) + 1))
    refine ⟨[], _, s4, mm :: o'.toList, UM ins o' v mm (gd x (.int .i64 ((if x ∈ vars.take i then 1 else 0) + 1)) m), inferInstance, rfl, rfl, hrun, hf4, UM.stb, hU4, fun g hg => ⟨hb4 g hg, .inl hg⟩, ?_⟩
    have hkm2 := hkm.set hxb (.int .i64 ((if x ∈ vars.take i then 1 else 0) + 1))
    refine aD (.int .i64 ((if x ∈ vars.take i then 1 else 0) + 1)) rfl (fun s1 h1 h2 h3 h4 => ?_) rfl ?_
    ·have := (h3 rfl).2.look hkm2 hxb
     show bZ Tryz.prog s1 86 (some (.map mm)) (some (.str x)) false = _
     rw [this, ob, if_pos rfl]; rfl
    refine qw rfl rfl rfl ?_
    refine dA rfl (fun c3 => ?_) (fun c3 => ?_)
    ·have hmem : x ∈ vars.take i := by
      by_cases h : x ∈ vars.take i
      ·exact h
      ·rw [if_neg h] at c3; omega
     refine aE fun s1 h1 h2 h3 h4 => ⟨_, _, rfl, ?_, h1⟩
     show V.bool false = _
     rw [← hs]; simp [hmem]
    ·have hmem : x ∉ vars.take i := fun h => by rw [if_pos h] at c3; omega
     simp only [hmem, not_false_eq_true, decide_true, Bool.true_and] at hs
     refine ax (.bool (decide (x ∈ ins))) (fun _ _ a b _ => yM UV.still (UV.txs b.1 (by omega) hby) hxb a b.1) rfl rfl ?_
     refine fl rfl rfl ?_
     refine aI rfl (fun c4 => ?_) (fun c4 => ?_)
     ·have hni : x ∉ ins := by simpa using c4
      refine aE fun s1 h1 h2 h3 h4 => ⟨_, _, rfl, ?_, h1⟩
      show V.bool false = _
      rw [← hs]; simp [hni]
     ·have hin : x ∈ ins := by simpa using c4
      simp only [hin, decide_true, Bool.true_and] at hs
      refine ed (r := ((i + 1 : Nat) : Int)) rfl rfl (wI (by omega)) rfl ?_
      have htk : vars.take (i + 1) = vars.take i ++ [x] := by rw [List.take_add_one, hx]; rfl
      refine kT rfl UM.stb ⟨vars.length - (i + 1), by omega, i + 1, _, by omega, rfl, rfl, rfl, rfl, rfl, hkm2, fun y => ?_, by rw [htk]; exact hs⟩
      rw [ob, htk, hmg y]
      by_cases hy : y = x
      ·subst hy; simp [hmem]
      ·simp [hy]
   ·have : i = vars.length := by omega
    subst this
    rw [List.drop_length] at hs
    simp only [rk] at hs
    exact aE fun s1 h1 h2 h3 h4 => ⟨_, _, rfl, by rw [← hs]; rfl, h1⟩
 refine bd fun b1 hb1 hd1 => ?_
 refine ax (.int .i64 (if gt t = true then ((cY t : Nat) : Int) else 0)) (fun _ a b _ _ => uv hK (Nat.le_trans hn a.next) hR.ty b (hG.keep a.ro) (hK.still _ _ a hk)) rfl rfl ?_
 refine gP rfl rfl rfl ?_
 refine dA rfl (fun c1 => ?_) (fun c1 => ?_)
 ·refine bI (key true _ _ ⟨fun h => (by cases h), fun h => ?_⟩)
  rw [if_pos h.1] at c1; omega
 ·have hvt : gt t = true := by
   cases hv : gt t with
   | true => rfl
   | false => rw [hv] at c1; exact absurd rfl c1
  refine eL rfl (fun s1 _ _ => hR.vars.len s1) rfl ?_
  refine qw rfl rfl rfl ?_
  exact bI (key _ _ _ ⟨fun h => ⟨hvt, by have := of_decide_eq_false h; omega⟩, fun h => decide_eq_false (by omega)⟩)
end
end Go.AI.Lx
