/- What the functions answer in the evaluator: part 9. No conditions beyond those of the row. -/
import Derived.Test.YtkeaedhoaamfnaaGreatDoorL8
set_option linter.unusedVariables false
set_option linter.unusedSimpArgs false
noncomputable section
namespace Go.AI.Lx
open Go.Proofs Go.Proofs.YtkeaedhoaamfnaaGreatDoor
set_option maxRecDepth 10000
mutual
def um : Ty → Nat → Nat
 | .mk _ args, m => mY args 1 m
def mY : List Ty → Nat → Nat → Nat
 | [], n, _ => n
 | t :: r, n, m => if n ≤ m then mY r (n + um t (m - n)) m else n
end
mutual
theorem Qe : ∀ (t : Ty) (m : Nat), um t m ≤ m + 1
 | .mk _ args, m => by
  simp only [um]
  exact LE args 1 m (by omega)
theorem LE : ∀ (l : List Ty) (n m : Nat), n ≤ m + 1 → mY l n m ≤ m + 1
 | [], n, m, h => by simpa only [mY] using h
 | t :: r, n, m, h => by
  simp only [mY]
  split
  ·have := Qe t (m - n)
   exact LE r _ m (by omega)
  ·exact h
end
abbrev ep (K : S → Prop) : Prop := ∀ s s', Fw [] s s' → K s → K s'
theorem bM {α : Type} {l : List α} {i : Nat} (h : i < l.length) : ∃ x, l[i]? = some x ∧ l.drop i = x :: l.drop (i + 1) := ⟨l[i], List.getElem?_eq_getElem h, List.drop_eq_getElem_cons h⟩
theorem ff.one {K : S → Prop} : ∀ {t : Ty} {nm rw : V}, ff K t nm rw → nm.one = true ∧ rw.one = true
 | .mk name args, nm, rw, h => by
  simp only [ff] at h
  obtain ⟨rfl, _, _, cs, h4, _⟩ := h
  exact ⟨rfl, h4.one⟩
section
variable {K : S → Prop}
theorem PY (hK : ep K) : ∀ (N : Nat) (t : Ty) (m : Nat) (nm rw : V) (s : S), cq t ≤ N → ff K t nm rw → m < 4611686018427387904 → WF s → K s → Cw aq 39 [.agg [nm, rw], .int .i64 ((m : Nat) : Int)] s fun v s' => v = .int .i64 ((um t m : Nat) : Int) ∧ Fw [] s s' := by
 intro N
 induction N with
 | zero => intro t m nm rw s h; cases t; simp only [cq] at h; omega
 | succ N ih =>
  intro t m nm rw s hN hR hm hw hk
  have ho := hR.one
  refine ay (aI (C := AW) (e := ⟨[nm, rw, .int .i64 ((m : Nat) : Int)], []⟩) (F := []) rfl Tryz.func39 rfl (by kernel_rfl) MC rfl ⟨rfl, by simp [au, ho.1, ho.2, eA], rfl⟩ rfl hw rfl (by simp) trivial am trivial (by simp) ?_)
  obtain ⟨name, args⟩ := t
  simp only [ff] at hR
  obtain ⟨rfl, hb, -, cs, hrow, hts⟩ := hR
  have hlen := hts.len
  have hlt := hrow.lt
  simp only [cq] at hN
  refine aN fun b1 hb1 hd1 => ?_
  refine ej (fun j vs bs => ∃ i n, i ≤ args.length ∧ j = args.length - i ∧ vs = [.int .i64 ((m : Nat) : Int), .int .i64 ((n : Nat) : Int), .int .i64 ((i : Nat) : Int), .str name, rw] ∧ bs = [b1] ∧ mY (args.drop i) n m = mY args 1 m ∧ n ≤ m + 1) args.length ⟨0, 1, by omega, rfl, rfl, rfl, rfl, by omega⟩ ?_
  rintro j _ _ ⟨i, n, hi, rfl, rfl, rfl, hc, hn⟩
  refine bT rfl (fun s1 _ _ => hrow.len cX s1) rfl ?_
  refine cP rfl rfl rfl ?_
  refine aP rfl (fun c1 => ?_) (fun c1 => ?_)
  ·have hi2 : i < args.length := by omega
   obtain ⟨t', ht', hd⟩ := bM hi2
   rw [hd] at hc
   simp only [mY] at hc
   refine wZ rfl rfl rfl ?_
   refine aP rfl (fun c2 => ?_) (fun c2 => ?_)
   ·rw [if_pos (by omega)] at hc
    obtain ⟨nm', rw', hx, hR'⟩ := hts.at ht'
    obtain ⟨p, hp, hld⟩ := hrow.at cX dj hx
    have ho' := hR'.one
    refine ao (.ptr p) rfl (fun _ _ _ _ _ => hp) rfl ?_
    refine h_askN [nm', rw'] (.agg [nm', rw']) rfl (by simp [au, ho'.1, ho'.2]) (fun a b _ _ _ => eM (hld a (hK _ _ b hk))) rfl ?_
    refine Aa (r := ((m - n : Nat) : Int)) rfl rfl (by rw [show ((m : Nat) : Int) - ((n : Nat) : Int) = ((m - n : Nat) : Int) by omega]; exact aY _ ⟨by omega, by omega⟩) rfl ?_
    refine aj (.int .i64 ((um t' (m - n) : Nat) : Int)) (fun a b c _ _ => ih t' (m - n) nm' rw' a (by have := fT ht'; omega) hR' (by omega) c (hK _ _ b hk)) rfl rfl ?_
    have hcl := Qe t' (m - n)
    refine br (r := ((n + um t' (m - n) : Nat) : Int)) rfl rfl (by rw [show ((n : Nat) : Int) + ((um t' (m - n) : Nat) : Int) = ((n + um t' (m - n) : Nat) : Int) by omega]; exact aY _ ⟨by omega, by omega⟩) rfl ?_
    refine br (r := ((i + 1 : Nat) : Int)) rfl rfl (wI (by omega)) rfl ?_
    exact eJ (args.length - (i + 1)) rfl (by omega) ⟨i + 1, n + um t' (m - n), by omega, rfl, rfl, rfl, hc, by omega⟩
   ·rw [if_neg (by omega)] at hc
    exact ak fun s1 h1 h2 h3 h4 => ⟨_, _, rfl, by rw [show um (.mk name args) m = n by simp only [um]; exact hc.symm]; rfl, h1⟩
  ·have : i = args.length := by omega
   subst this
   rw [List.drop_length] at hc
   simp only [mY] at hc
   exact ak fun s1 h1 h2 h3 h4 => ⟨_, _, rfl, by rw [show um (.mk name args) m = n by simp only [um]; exact hc.symm]; rfl, h1⟩
end
mutual
def dp : Ty → Nat
 | .mk _ args => Dd args 0 + 1
def Dd : List Ty → Nat → Nat
 | [], n => n
 | t :: r, n => Dd r (max n (dp t))
end
mutual
theorem SY : ∀ (t : Ty), dp t ≤ cq t
 | .mk _ args => by
  have := PS args 0
  simp only [dp, cq]; omega
theorem PS : ∀ (l : List Ty) (n : Nat), Dd l n ≤ max n (cG l)
 | [], n => by simp only [Dd]; omega
 | t :: r, n => by
  have h1 := SY t
  have h2 := PS r (max n (dp t))
  simp only [Dd, cG]; omega
end
section
variable {K : S → Prop}
theorem Wy (hK : ep K) : ∀ (N : Nat) (t : Ty) (nm rw : V) (s : S), cq t ≤ N → N < 4611686018427387904 → ff K t nm rw → WF s → K s → Cw aq 65 [.agg [nm, rw]] s fun v s' => v = .int .i64 ((dp t : Nat) : Int) ∧ Fw [] s s' := by
 intro N
 induction N with
 | zero => intro t nm rw s h; cases t; simp only [cq] at h; omega
 | succ N ih =>
  intro t nm rw s hN hNl hR hw hk
  have ho := hR.one
  refine ay (aI (C := GJ) (e := ⟨[nm, rw], []⟩) (F := []) rfl Tryz.func65 rfl (by kernel_rfl) OM rfl ⟨rfl, by simp [au, ho.1, ho.2], rfl⟩ rfl hw rfl (by simp) trivial am trivial (by simp) ?_)
  obtain ⟨name, args⟩ := t
  simp only [ff] at hR
  obtain ⟨rfl, hb, -, cs, hrow, hts⟩ := hR
  have hlen := hts.len
  have hlt := hrow.lt
  simp only [cq] at hN
  refine aN fun b1 hb1 hd1 => ?_
  refine ej (fun j vs bs => ∃ i n, i ≤ args.length ∧ j = args.length - i ∧ vs = [.int .i64 ((n : Nat) : Int), .int .i64 ((i : Nat) : Int), .str name, rw] ∧ bs = [b1] ∧ Dd (args.drop i) n = Dd args 0 ∧ n ≤ cG args) args.length ⟨0, 0, by omega, rfl, rfl, rfl, rfl, by omega⟩ ?_
  rintro j _ _ ⟨i, n, hi, rfl, rfl, rfl, hc, hn⟩
  refine bT rfl (fun s1 _ _ => hrow.len cX s1) rfl ?_
  refine cP rfl rfl rfl ?_
  refine aP rfl (fun c1 => ?_) (fun c1 => ?_)
  ·have hi2 : i < args.length := by omega
   obtain ⟨t', ht', hd⟩ := bM hi2
   rw [hd] at hc
   simp only [Dd] at hc
   obtain ⟨nm', rw', hx, hR'⟩ := hts.at ht'
   obtain ⟨p, hp, hld⟩ := hrow.at cX dj hx
   have ho' := hR'.one
   have hsz := fT ht'
   have hdp := SY t'
   refine ao (.ptr p) rfl (fun _ _ _ _ _ => hp) rfl ?_
   refine h_askN [nm', rw'] (.agg [nm', rw']) rfl (by simp [au, ho'.1, ho'.2]) (fun a b _ _ _ => eM (hld a (hK _ _ b hk))) rfl ?_
   refine aj (.int .i64 ((dp t' : Nat) : Int)) (fun a b c _ _ => ih t' nm' rw' a (by omega) (by omega) hR' c (hK _ _ b hk)) rfl rfl ?_
   refine ao (.int .i64 ((max n (dp t') : Nat) : Int)) rfl (fun s1 h1 h2 h3 h4 => ?_) rfl ?_
   ·show some (V.int .i64 (bif decide (((dp t' : Nat) : Int) > ((n : Nat) : Int)) then ((dp t' : Nat) : Int) else ((n : Nat) : Int))) = _
    by_cases hd : ((dp t' : Nat) : Int) > ((n : Nat) : Int)
    ·rw [decide_eq_true hd, cond_true, show max n (dp t') = dp t' by omega]
    ·rw [decide_eq_false hd, cond_false, show max n (dp t') = n by omega]
   refine br (r := ((i + 1 : Nat) : Int)) rfl rfl (wI (by omega)) rfl ?_
   exact eJ (args.length - (i + 1)) rfl (by omega) ⟨i + 1, max n (dp t'), by omega, rfl, rfl, rfl, hc, by omega⟩
  ·have : i = args.length := by omega
   subst this
   rw [List.drop_length] at hc
   simp only [Dd] at hc
   refine br (r := ((n + 1 : Nat) : Int)) rfl rfl (wI (by omega)) rfl ?_
   exact ak fun s1 h1 h2 h3 h4 => ⟨_, _, rfl, by rw [show dp (.mk name args) = n + 1 by simp only [dp, hc]]; rfl, h1⟩
end
def dI (name : List Nat) (n : Nat) : Bool :=
 if name = [45, 62] then decide (n = 2) else if name = [44] then decide (2 ≤ n ∧ n ≤ 4) else if name = [73, 110, 116] then decide (n = 0) else decide (bo name = 4 ∧ n = 0 ∨ bo name = 3 ∧ n ≤ 16)
mutual
def qN : Ty → Bool
 | .mk name args => iM args && dI name args.length
def iM : List Ty → Bool
 | [] => true
 | t :: r => qN t && iM r
end
theorem vz {l : List Nat} {k c : Int} (h : qL l (.int .i64 k)) (h0 : c ≠ 0) (h1 : c ≠ 1) : k = c ↔ bo l = c := by
 obtain ⟨k', hk, h⟩ := h
 cases hk
 rcases h with rfl | ⟨hn, rfl⟩
 ·rfl
 ·have : bo l = 0 := wS hn
  rw [this]; omega
theorem VR {a b : Nat} (ha : a < 256) (hb : b < 256) : ∀ z ∈ [a, b], z < 256 := by intro z hz; simp at hz; omega
theorem VS {a : Nat} (ha : a < 256) : ∀ z ∈ [a], z < 256 := by intro z hz; simp at hz; omega
theorem Ua {a b c : Nat} (ha : a < 256) (hb : b < 256) (hc : c < 256) : ∀ z ∈ [a, b, c], z < 256 := by intro z hz; simp at hz; omega
section
variable {K : S → Prop}
theorem RR (hK : ep K) : ∀ (N : Nat) (t : Ty) (nm rw : V) (s : S), cq t ≤ N → ff K t nm rw → WF s → K s → Cw aq 66 [.agg [nm, rw]] s fun v s' => v = .bool (qN t) ∧ Fw [] s s' := by
 intro N
 induction N with
 | zero => intro t nm rw s h; cases t; simp only [cq] at h; omega
 | succ N ih =>
  intro t nm rw s hN hR hw hk
  have ho := hR.one
  refine ay (aI (C := xN) (e := ⟨[nm, rw], []⟩) (F := []) rfl Tryz.func66 rfl (by kernel_rfl) Iu rfl ⟨rfl, by simp [au, ho.1, ho.2], rfl⟩ rfl hw rfl (by simp) trivial am trivial (by simp) ?_)
  obtain ⟨name, args⟩ := t
  simp only [ff] at hR
  obtain ⟨rfl, hb, hbl, cs, hrow, hts⟩ := hR
  have hlen := hts.len
  have hlt := hrow.lt
  simp only [cq] at hN
  have hend : ∀ {q : Bool} {s1 : S}, iM args = true → dI name args.length = q → Fw [] s s1 → (sq fun v s' => v = .bool (qN (.mk name args)) ∧ Fw [] s s') ⟨.returned (.bool q), none, s1⟩ := fun h1 h2 h3 => ⟨_, _, rfl, by simp only [qN, h1, h2, Bool.true_and], h3⟩
  refine aN fun b1 hb1 hd1 => ?_
  refine ej (fun j vs bs => ∃ i, i ≤ args.length ∧ j = args.length - i ∧ vs = [.int .i64 ((i : Nat) : Int), .str name, rw] ∧ bs = [b1] ∧ iM (args.drop i) = iM args) args.length ⟨0, by omega, rfl, rfl, rfl, rfl⟩ ?_
  rintro j _ _ ⟨i, hi, rfl, rfl, rfl, hc⟩
  refine bT rfl (fun s1 _ _ => hrow.len cX s1) rfl ?_
  refine cP rfl rfl rfl ?_
  refine aP rfl (fun c1 => ?_) (fun c1 => ?_)
  ·have hi2 : i < args.length := by omega
   obtain ⟨t', ht', hd⟩ := bM hi2
   rw [hd] at hc
   simp only [iM] at hc
   obtain ⟨nm', rw', hx, hR'⟩ := hts.at ht'
   obtain ⟨p, hp, hld⟩ := hrow.at cX dj hx
   have ho' := hR'.one
   have hsz := fT ht'
   refine ao (.ptr p) rfl (fun _ _ _ _ _ => hp) rfl ?_
   refine h_askN [nm', rw'] (.agg [nm', rw']) rfl (by simp [au, ho'.1, ho'.2]) (fun a b _ _ _ => eM (hld a (hK _ _ b hk))) rfl ?_
   refine aj (.bool (qN t')) (fun a b c _ _ => ih t' nm' rw' a (by omega) hR' c (hK _ _ b hk)) rfl rfl ?_
   refine dR rfl rfl ?_
   refine aB rfl (fun c2 => ?_) (fun c2 => ?_)
   ·have c3 : qN t' = false := by simpa using c2
    rw [c3, Bool.false_and] at hc
    exact ak fun s1 h1 h2 h3 h4 => ⟨_, _, rfl, by simp only [qN, ← hc, Bool.false_and]; rfl, h1⟩
   ·have c3 : qN t' = true := by simpa using c2
    rw [c3, Bool.true_and] at hc
    refine br (r := ((i + 1 : Nat) : Int)) rfl rfl (wI (by omega)) rfl ?_
    exact eJ (args.length - (i + 1)) rfl (by omega) ⟨i + 1, by omega, rfl, rfl, rfl, hc⟩
  ·have : i = args.length := by omega
   subst this
   rw [List.drop_length] at hc
   simp only [iM] at hc
   have hc := hc.symm
   refine gi rfl rfl hb (VR (by omega) (by omega)) rfl ?_
   refine aP rfl (fun n1 => ?_) (fun n1 => ?_)
   ·refine bT rfl (fun s1 _ _ => hrow.len cX s1) rfl ?_
    refine cQ rfl rfl rfl ?_
    exact ak fun s1 h1 h2 h3 h4 => hend hc (by unfold dI; rw [if_pos n1, decide_eq_decide]; omega) h1
   ·refine gi rfl rfl hb (VS (by omega)) rfl ?_
    refine aP rfl (fun n2 => ?_) (fun n2 => ?_)
    ·refine bT rfl (fun s1 _ _ => hrow.len cX s1) rfl ?_
     refine xa rfl rfl rfl ?_
     refine aP rfl (fun c5 => ?_) (fun c5 => ?_)
     ·refine bT rfl (fun s1 _ _ => hrow.len cX s1) rfl ?_
      refine wZ rfl rfl rfl ?_
      exact ak fun s1 h1 h2 h3 h4 => hend hc (by unfold dI; rw [if_neg n1, if_pos n2, decide_eq_decide]; omega) h1
     ·exact ak fun s1 h1 h2 h3 h4 => hend hc (by unfold dI; rw [if_neg n1, if_pos n2, decide_eq_false (by omega)]) h1
    ·refine gi rfl rfl hb (Ua (by omega) (by omega) (by omega)) rfl ?_
     refine aP rfl (fun n3 => ?_) (fun n3 => ?_)
     ·refine bT rfl (fun s1 _ _ => hrow.len cX s1) rfl ?_
      refine cQ rfl rfl rfl ?_
      exact ak fun s1 h1 h2 h3 h4 => hend hc (by unfold dI; rw [if_neg n1, if_neg n2, if_pos n3, decide_eq_decide]; omega) h1
     ·have hno : dI name args.length = decide (bo name = 4 ∧ args.length = 0 ∨ bo name = 3 ∧ args.length ≤ 16) := by unfold dI; rw [if_neg n1, if_neg n2, if_neg n3]
      refine gI (fun _ _ a _ _ => Uc hb hbl a) ?_
      intro v s1 s2 hkk _ _
      obtain ⟨k, rfl, -⟩ := id hkk
      have k4 := vz (c := 4) hkk (by omega) (by omega)
      have k3 := vz (c := 3) hkk (by omega) (by omega)
      refine LH rfl rfl ?_
      refine cQ rfl rfl rfl ?_
      refine aP rfl (fun c7 => ?_) (fun c7 => ?_)
      ·have q4 := k4.1 c7
       refine bT rfl (fun s1 _ _ => hrow.len cX s1) rfl ?_
       refine cQ rfl rfl rfl ?_
       refine aP rfl (fun c8 => ?_) (fun c8 => ?_)
       ·exact ak fun s1 h1 h2 h3 h4 => hend hc (by rw [hno, decide_eq_true (.inl ⟨q4, by omega⟩)]) h1
       ·refine cQ rfl rfl rfl ?_
        refine aP rfl (fun c9 => ?_) (fun c9 => ?_)
        ·omega
        ·exact ak fun s1 h1 h2 h3 h4 => hend hc (by rw [hno, decide_eq_false]; omega) h1
      ·refine cQ rfl rfl rfl ?_
       refine aP rfl (fun c10 => ?_) (fun c10 => ?_)
       ·refine bT rfl (fun s1 _ _ => hrow.len cX s1) rfl ?_
        refine wZ rfl rfl rfl ?_
        exact ak fun s1 h1 h2 h3 h4 => hend hc (by rw [hno, decide_eq_decide]; have := k3.1 c10; omega) h1
       ·exact ak fun s1 h1 h2 h3 h4 => hend hc (by rw [hno, decide_eq_false]; intro h; rcases h with h | h; exact c7 (k4.2 h.1); exact c10 (k3.2 h.1)) h1
end
theorem LF : ∀ (l : List Ty) (n m : Nat), n ≤ mY l n m
 | [], n, m => by simp [mY]
 | t :: r, n, m => by
  simp only [mY]
  split
  ·exact Nat.le_trans (by omega) (LF r _ m)
  ·exact Nat.le_refl _
mutual
theorem Qd : ∀ (t : Ty) (m : Nat), um t m ≤ m → um t m = cq t
 | .mk _ args, m, h => by
  simp only [um, cq] at h ⊢
  have := LC args 1 m h
  omega
theorem LC : ∀ (l : List Ty) (n m : Nat), mY l n m ≤ m → mY l n m = n + cG l
 | [], n, m, h => by simp [mY, cG]
 | t :: r, n, m, h => by
  simp only [mY, cG] at h ⊢
  split at h
  ·rename_i hn
   rw [if_pos hn]
   have h1 := LF r (n + um t (m - n)) m
   have h2 := Qd t (m - n) (by omega)
   have h3 := LC r _ m h
   omega
  ·omega
end
mutual
theorem JH : ∀ (t : Ty) (m : Nat), cq t ≤ m → um t m = cq t
 | .mk _ args, m, h => by
  simp only [um, cq] at h ⊢
  have := LD args 1 m (by omega)
  omega
theorem LD : ∀ (l : List Ty) (n m : Nat), n + cG l ≤ m → mY l n m = n + cG l
 | [], n, m, h => by simp [mY, cG]
 | t :: r, n, m, h => by
  simp only [mY, cG] at h ⊢
  rw [if_pos (by omega), JH t (m - n) (by omega)]
  have := LD r (n + cq t) m (by omega)
  omega
end
def fR (t : Ty) : Bool := decide (cq t ≤ 2000) && decide (dp t ≤ 100) && qN t
section
variable {K : S → Prop}
theorem Bn (hK : ep K) {t : Ty} {nm rw : V} {s : S} (hR : ff K t nm rw) (hw : WF s) (hk : K s) : Cw aq 36 [.agg [nm, rw]] s fun v s' => v = .bool (fR t) ∧ Fw [] s s' := by
 have ho := hR.one
 refine ay (aI (C := AD) (e := ⟨[nm, rw], []⟩) (F := []) rfl Tryz.func36 rfl (by kernel_rfl) Mi rfl ⟨rfl, by simp [au, ho.1, ho.2], rfl⟩ rfl hw rfl (by simp) trivial am trivial (by simp) ?_)
 refine aN fun b1 hb1 hd1 => ?_
 refine aj (.int .i64 ((um t 2000 : Nat) : Int)) (fun a b c _ _ => PY hK (cq t) t 2000 nm rw a (Nat.le_refl _) hR (by omega) c (hK _ _ b hk)) rfl rfl ?_
 refine wZ rfl rfl rfl ?_
 refine aP rfl (fun c1 => ?_) (fun c1 => ?_)
 ·have hsz := Qd t 2000 (by omega)
  refine aj (.int .i64 ((dp t : Nat) : Int)) (fun a b c _ _ => Wy hK 2000 t nm rw a (by omega) (by omega) hR c (hK _ _ b hk)) rfl rfl ?_
  refine wZ rfl rfl rfl ?_
  refine aP rfl (fun c2 => ?_) (fun c2 => ?_)
  ·refine aj (.bool (qN t)) (fun a b c _ _ => RR hK (cq t) t nm rw a (Nat.le_refl _) hR c (hK _ _ b hk)) rfl rfl ?_
   exact ak fun s1 h1 h2 h3 h4 => ⟨_, _, rfl, by unfold fR; rw [decide_eq_true (show cq t ≤ 2000 by omega), decide_eq_true (show dp t ≤ 100 by omega)]; rfl, h1⟩
  ·exact ak fun s1 h1 h2 h3 h4 => ⟨_, _, rfl, by unfold fR; rw [decide_eq_false (show ¬ dp t ≤ 100 by omega), Bool.and_false, Bool.false_and]; rfl, h1⟩
 ·have hn : ¬ cq t ≤ 2000 := fun h => c1 (by rw [JH t 2000 h]; omega)
  exact ak fun s1 h1 h2 h3 h4 => ⟨_, _, rfl, by unfold fR; rw [decide_eq_false hn, Bool.false_and, Bool.false_and]; rfl, h1⟩
theorem Se (hK : ep K) {t : Ty} {nm rw : V} {s : S} (hR : ff K t nm rw) (hw : WF s) (hk : K s) : Cw aq 12 [.agg [nm, rw]] s fun v s' => v = .int .i64 (if fR t = true then 0 else 32) ∧ Fw [] s s' := by
 have ho := hR.one
 refine ay (aI (C := uB) (e := ⟨[nm, rw], []⟩) (F := []) rfl Tryz.func12 rfl (by kernel_rfl) Fe rfl ⟨rfl, by simp [au, ho.1, ho.2], rfl⟩ rfl hw rfl (by simp) trivial am trivial (by simp) ?_)
 refine aN fun b1 hb1 hd1 => ?_
 refine aj (.bool (fR t)) (fun _ a b _ _ => Bn hK hR b (hK _ _ a hk)) rfl rfl ?_
 refine dR rfl rfl ?_
 refine aB rfl (fun c1 => ?_) (fun c1 => ?_)
 ·exact ak fun s1 h1 h2 h3 h4 => ⟨_, _, rfl, by rw [show fR t = false by simpa using c1]; rfl, h1⟩
 ·exact ak fun s1 h1 h2 h3 h4 => ⟨_, _, rfl, by rw [show fR t = true by simpa using c1]; rfl, h1⟩
def CN (name : List Nat) : Bool := decide (0 < name.length ∧ aw name 0 = 39)
theorem CM {name : List Nat} {rw : V} {s : S} (hb : Bytes name) (hl : name.length < 4611686018427387904) (ho : rw.one = true) (hw : WF s) : Cw aq 67 [.agg [.str name, rw]] s fun v s' => v = .bool (CN name) ∧ Fw [] s s' := by
 refine ay (aI (C := xL) (e := ⟨[.str name, rw], []⟩) (F := []) rfl Tryz.func67 rfl (by kernel_rfl) Is rfl ⟨rfl, by simp [au, ho, iW], rfl⟩ rfl hw rfl (by simp) trivial am trivial (by simp) ?_)
 refine aN fun b1 hb1 hd1 => ?_
 refine dV rfl Tryz.underlying9 rfl rfl ?_
 refine gp rfl rfl rfl ?_
 refine aP rfl (fun c1 => ?_) (fun c1 => ?_)
 ·refine fL (n := 0) Tryz.underlying9 rfl rfl (cC hb (by omega)) rfl ?_
  refine cQ rfl rfl rfl ?_
  exact ak fun s1 h1 h2 h3 h4 => ⟨_, _, rfl, by unfold CN; show V.bool _ = V.bool _; congr 1; rw [decide_eq_decide]; omega, h1⟩
 ·exact ak fun s1 h1 h2 h3 h4 => ⟨_, _, rfl, by unfold CN; rw [decide_eq_false (show ¬ (0 < name.length ∧ aw name 0 = 39) by omega)]; rfl, h1⟩
theorem Pz {name : List Nat} {s : S} (hb : Bytes name) (hl : name.length < 4611686018427387904) (hw : WF s) (hG : cd s) : Cw aq 43 [.str name] s fun v s' => v = .bool (decide (bo name = 4)) ∧ Fw [] s s' := by
 refine ay (aI (C := AU) (e := ⟨[.str name], []⟩) (F := []) rfl Tryz.func43 rfl (by kernel_rfl) MA rfl ⟨rfl, rfl, rfl⟩ rfl hw rfl (by simp) trivial am trivial (by simp) ?_)
 refine gI (fun _ a b _ _ => Py hb hl b (hG.keep a.ro)) ?_
 intro v s1 s2 hkk _ _
 obtain ⟨k, rfl, -⟩ := id hkk
 have k4 := vz (c := 4) hkk (by omega) (by omega)
 refine LH rfl rfl ?_
 refine cQ rfl rfl rfl ?_
 exact ak fun s1 h1 h2 h3 h4 => ⟨_, _, rfl, by show V.bool _ = V.bool _; congr 1; rw [decide_eq_decide]; exact k4, h1⟩
theorem PB {name : List Nat} {s : S} (hb : Bytes name) (hl : name.length < 4611686018427387904) (hw : WF s) (hG : cd s) : Cw aq 68 [.str name] s fun v s' => v = .bool (decide (bo name = 3)) ∧ Fw [] s s' := by
 refine ay (aI (C := AV) (e := ⟨[.str name], []⟩) (F := []) rfl Tryz.func68 rfl (by kernel_rfl) MB rfl ⟨rfl, rfl, rfl⟩ rfl hw rfl (by simp) trivial am trivial (by simp) ?_)
 refine gI (fun _ a b _ _ => Py hb hl b (hG.keep a.ro)) ?_
 intro v s1 s2 hkk _ _
 obtain ⟨k, rfl, -⟩ := id hkk
 have k3 := vz (c := 3) hkk (by omega) (by omega)
 refine LH rfl rfl ?_
 refine cQ rfl rfl rfl ?_
 exact ak fun s1 h1 h2 h3 h4 => ⟨_, _, rfl, by show V.bool _ = V.bool _; congr 1; rw [decide_eq_decide]; exact k3, h1⟩
end
mutual
def ia : Ty → Nat → Nat → Bool × Nat
 | .mk name args, d, c => if dI name args.length = true ∧ c + 1 ≤ 2000 ∧ d ≤ 100 then jz args (d + 1) (c + 1) else (false, c + 1)
def jz : List Ty → Nat → Nat → Bool × Nat
 | [], _, c => (true, c)
 | t :: r, d, c => if (ia t d c).1 = true then jz r d (ia t d c).2 else (false, (ia t d c).2)
end
mutual
theorem Lm : ∀ (t : Ty) (d c : Nat), (ia t d c).1 = true → (ia t d c).2 ≤ 2000
 | .mk name args, d, c => by
  simp only [ia]
  split
  ·rename_i h
   exact FI args (d + 1) (c + 1) h.2.1
  ·intro h; cases h
theorem FI : ∀ (l : List Ty) (d c : Nat), c ≤ 2000 → (jz l d c).1 = true → (jz l d c).2 ≤ 2000
 | [], d, c, h => by simpa [jz] using h
 | t :: r, d, c, h => by
  simp only [jz]
  split
  ·rename_i h1
   exact FI r d _ (Lm t d c h1)
  ·intro h; cases h
end
abbrev tC (c : Nat) : bZ := .cells 3 false 1 [⟨0, 0, [.int .i64 ((c : Nat) : Int)]⟩]
def QI (t : Ty) (d c fc : Nat) (s : S) : dz → Prop := sq fun v s' => v = .bool (ia t d c).1 ∧ s'.get fc = some (tC (ia t d c).2) ∧ Fw [fc] s s'
def QJ (K : S → Prop) (fc N : Nat) : Prop := ∀ (t : Ty) (d c : Nat) (p : Ad) (nm rw : V) (s : S), cq t ≤ N → ff K t nm rw → (∀ s, K s → loadCells s p 2 = some [nm, rw]) → d ≤ 101 → c ≤ 2000 → WF s → cd s → K s → s.get fc = some (tC c) →
 Cw aq 38 [.ptr p, .int .i64 ((d : Nat) : Int), .ptr ⟨fc, 0, 0⟩] s fun v s' => v = .bool (ia t d c).1 ∧ s'.get fc = some (tC (ia t d c).2) ∧ Fw [fc] s s'
section
variable {K : S → Prop} {fc : Nat} {L : List bS}
theorem RG {name : List Nat} {args : List Ty} {d c : Nat} (h : ¬ (dI name args.length = true ∧ c + 1 ≤ 2000 ∧ d ≤ 100)) : ia (.mk name args) d c = (false, c + 1) := by simp only [ia]; rw [if_neg h]
theorem FJ {name : List Nat} {args : List Ty} {d c : Nat} (h : dI name args.length = true ∧ c + 1 ≤ 2000 ∧ d ≤ 100) : ia (.mk name args) d c = jz args (d + 1) (c + 1) := by simp only [ia]; rw [if_pos h]
theorem jY (hK : ∀ s s', Fw [fc] s s' → K s → K s') {N : Nat} (ih : QJ K fc N) {name : List Nat} {args : List Ty} {d c : Nat} {p : Ad} {rw : V} {cs : List (List V)} {s : S} (hN : cG args ≤ N) (hrow : jO K 2 rw cs) (hts : ea K args cs) (hp : ∀ s, K s → loadCells s p 2 = some [.str name, rw]) (hd : d ≤ 101) (hc : c ≤ 2000)
 (hw : WF s) (hG : cd s) (hk : K s) {q : Bool} (hq : q = false ↔ (dI name args.length = true ∧ c + 1 ≤ 2000 ∧ d ≤ 100)) :
 ai aq [fc] s (QI (.mk name args) d c fc s) kF ⟨[.ptr p, .int .i64 ((d : Nat) : Int), .bool q, .int .i64 ((c + 1 : Nat) : Int)], [fc]⟩ [] T0 L := by
 refine aB rfl (fun c1 => ?_) (fun c1 => ?_)
 ·refine ak fun s1 h1 h2 h3 h4 => ⟨_, _, rfl, ?_⟩
  rw [RG (fun h => by rw [hq.2 h] at c1; cases c1)]
  exact ⟨rfl, h4.1, h1⟩
 ·have hyes := hq.1 c1
  have hlen := hts.len
  have hlt := hrow.lt
  refine ao (.ptr p) rfl (fun _ _ _ _ _ => rfl) rfl ?_
  refine ao (.ptr (dZ p 1)) rfl (fun _ _ _ _ _ => IX p 1 (by omega)) rfl ?_
  refine ao rw hrow.one (fun a b _ _ _ => fo (hp a (hK _ _ b hk)) rfl TZ) rfl ?_
  refine bT rfl (fun s1 _ _ => hrow.len cX s1) rfl ?_
  refine ej (fun j vs bs => ∃ i c', i ≤ args.length ∧ j = args.length - i ∧ vs = [.ptr p, .int .i64 ((d : Nat) : Int), .int .i64 ((cs.length : Nat) : Int), .int .i64 ((i : Nat) : Int), .int .i64 ((c' : Nat) : Int)] ∧ bs = [fc] ∧ jz (args.drop i) (d + 1) c' = jz args (d + 1) (c + 1) ∧ c' ≤ 2000) args.length ⟨0, c + 1, by omega, rfl, rfl, rfl, rfl, hyes.2.1⟩ ?_
  rintro j _ _ ⟨i, c', hi, rfl, rfl, rfl, hcc, hcl⟩
  refine cP rfl rfl rfl ?_
  refine aP rfl (fun c2 => ?_) (fun c2 => ?_)
  ·have hi2 : i < args.length := by omega
   obtain ⟨t', ht', hdr⟩ := bM hi2
   rw [hdr] at hcc
   simp only [jz] at hcc
   obtain ⟨nm', rw', hx, hR'⟩ := hts.at ht'
   obtain ⟨p', hp', hld⟩ := hrow.at cX dj hx
   have hsz := fT ht'
   refine ao (.ptr p) rfl (fun _ _ _ _ _ => rfl) rfl ?_
   refine ao (.ptr (dZ p 1)) rfl (fun _ _ _ _ _ => IX p 1 (by omega)) rfl ?_
   refine ao rw hrow.one (fun a b _ _ _ => fo (hp a (hK _ _ b hk)) rfl TZ) rfl ?_
   refine ao (.ptr p') rfl (fun _ _ _ _ _ => hp') rfl ?_
   refine br (r := ((d + 1 : Nat) : Int)) rfl rfl (wI (by omega)) rfl ?_
   refine cU fun s1 k1 k2 k3 k4 => ?_
   obtain ⟨v, s2, hcall, rfl, hcnt, hf⟩ := ih t' (d + 1) c' p' nm' rw' s1 (by omega) hR' hld (by omega) hcl k2 (hG.keep k1.ro) (hK _ _ k1 hk) k4.1
   refine .inl ⟨[.int .i64 (((ia t' (d + 1) c').2 : Nat) : Int), .bool (ia t' (d + 1) c').1], _, s2, [], T0, inferInstance, rfl, rfl, hcall, hf.mono (by simp [eI]; rfl), ⟨hcnt, trivial⟩, am, trivial, by simp, ?_⟩
   refine dR rfl rfl ?_
   refine aB rfl (fun c3 => ?_) (fun c3 => ?_)
   ·have c4 : (ia t' (d + 1) c').1 = false := by simpa using c3
    rw [if_neg (by rw [c4]; simp)] at hcc
    refine ak fun s1 h1 h2 h3 h4 => ⟨_, _, rfl, ?_⟩
    rw [FJ hyes, ← hcc]
    exact ⟨rfl, h4.1, h1⟩
   ·have c4 : (ia t' (d + 1) c').1 = true := by simpa using c3
    rw [if_pos c4] at hcc
    refine br (r := ((i + 1 : Nat) : Int)) rfl rfl (wI (by omega)) rfl ?_
    exact eJ (args.length - (i + 1)) rfl (by omega) ⟨i + 1, _, by omega, rfl, rfl, rfl, hcc, Lm t' (d + 1) c' c4⟩
  ·have : i = args.length := by omega
   subst this
   rw [List.drop_length] at hcc
   simp only [jz] at hcc
   refine ak fun s1 h1 h2 h3 h4 => ⟨_, _, rfl, ?_⟩
   rw [FJ hyes, ← hcc]
   exact ⟨rfl, h4.1, h1⟩
theorem vW (hK : ∀ s s', Fw [fc] s s' → K s → K s') {N : Nat} (ih : QJ K fc N) {name : List Nat} {args : List Ty} {d c : Nat} {p : Ad} {rw : V} {cs : List (List V)} {s : S} (hN : cG args ≤ N) (hrow : jO K 2 rw cs) (hts : ea K args cs) (hp : ∀ s, K s → loadCells s p 2 = some [.str name, rw]) (hd : d ≤ 101) (hc : c ≤ 2000)
 (hw : WF s) (hG : cd s) (hk : K s) {q : Bool} (hq : q = dI name args.length) :
 ai aq [fc] s (QI (.mk name args) d c fc s) dG ⟨[.ptr p, .int .i64 ((d : Nat) : Int), .bool q, .int .i64 ((c + 1 : Nat) : Int)], [fc]⟩ [] T0 L := by
 refine dR rfl rfl ?_
 refine aB rfl (fun c1 => ?_) (fun c1 => ?_)
 ·exact aK (jY hK ih hN hrow hts hp hd hc hw hG hk (q := true) ⟨fun h => by (cases h), fun h => by rw [hq, h.1] at c1; cases c1⟩)
 ·have hr : dI name args.length = true := by rw [← hq]; simpa using c1
  refine gp rfl rfl rfl ?_
  refine aP rfl (fun c2 => ?_) (fun c2 => ?_)
  ·exact aK (jY hK ih hN hrow hts hp hd hc hw hG hk (q := true) ⟨fun h => by (cases h), fun h => by omega⟩)
  ·refine gp rfl rfl rfl ?_
   exact aK (jY hK ih hN hrow hts hp hd hc hw hG hk (q := decide (((d : Nat) : Int) > 100)) ⟨fun h => ⟨hr, by omega, by have := of_decide_eq_false h; omega⟩, fun h => decide_eq_false (by omega)⟩)
theorem RF (hK : ∀ s s', Fw [fc] s s' → K s → K s') : ∀ N, QJ K fc N := by
 intro N
 induction N with
 | zero => intro t d c p nm rw s h; cases t; simp only [cq] at h; omega
 | succ N ih =>
  intro t d c p nm rw s hN hR hp hd hc hw hG hk hg
  refine ay (aI (C := xM) (e := ⟨[.ptr p, .int .i64 ((d : Nat) : Int), .int .i64 ((c : Nat) : Int)], [fc]⟩) (F := [fc]) rfl Tryz.func38 rfl (by kernel_rfl) It rfl ⟨rfl, rfl, rfl⟩ rfl hw rfl (by simp) ⟨hg, trivial⟩ am trivial (by simp) ?_)
  obtain ⟨name, args⟩ := t
  simp only [ff] at hR
  obtain ⟨rfl, hb, hbl, cs, hrow, hts⟩ := hR
  have hlen := hts.len
  have hlt := hrow.lt
  simp only [cq] at hN
  have hN' : cG args ≤ N := by omega
  have hend : ∀ {L : List bS} {q : Bool}, q = dI name args.length → ai aq [fc] s (QI (.mk name args) d c fc s) dG ⟨[.ptr p, .int .i64 ((d : Nat) : Int), .bool q, .int .i64 ((c + 1 : Nat) : Int)], [fc]⟩ [] T0 L :=
   fun hq => vW hK ih hN' hrow hts hp hd hc hw hG hk hq
  have hld0 : ∀ s1, Fw [fc] s s1 → gh (eQ Tryz.prog s1 9 (some (.ptr (dZ p 0)))) = some (.str name) := fun s1 h1 => fo (hp s1 (hK _ _ h1 hk)) rfl CF
  have hld1 : ∀ s1, Fw [fc] s s1 → gh (eQ Tryz.prog s1 23 (some (.ptr (dZ p 1)))) = some rw := fun s1 h1 => fo (hp s1 (hK _ _ h1 hk)) rfl TZ
  show ai aq [fc] s (QI (.mk name args) d c fc s) _ _ _ _ _
  refine br (r := ((c + 1 : Nat) : Int)) rfl rfl (wI (by omega)) rfl ?_
  refine ao (.ptr p) rfl (fun _ _ _ _ _ => rfl) rfl ?_
  refine ao (.ptr (dZ p 1)) rfl (fun _ _ _ _ _ => IX p 1 (by omega)) rfl ?_
  refine ao rw hrow.one (fun a b _ _ _ => hld1 a b) rfl ?_
  refine bT rfl (fun s1 _ _ => hrow.len cX s1) rfl ?_
  refine ao (.ptr p) rfl (fun _ _ _ _ _ => rfl) rfl ?_
  refine ao (.ptr (dZ p 0)) rfl (fun _ _ _ _ _ => IX p 0 (by omega)) rfl ?_
  refine ao (.str name) rfl (fun a b _ _ _ => hld0 a b) rfl ?_
  refine gi rfl rfl hb (Ua (by omega) (by omega) (by omega)) rfl ?_
  refine aP rfl (fun n3 => ?_) (fun n3 => ?_)
  ·refine cQ rfl rfl rfl ?_
   exact aK (hend (by subst n3; unfold dI; rw [if_neg (by decide), if_neg (by decide), if_pos rfl, decide_eq_decide]; omega))
  ·refine gi rfl rfl hb (VR (by omega) (by omega)) rfl ?_
   refine aP rfl (fun n1 => ?_) (fun n1 => ?_)
   ·refine cQ rfl rfl rfl ?_
    exact aK (hend (by unfold dI; rw [if_pos n1, decide_eq_decide]; omega))
   ·refine gi rfl rfl hb (VS (by omega)) rfl ?_
    refine aP rfl (fun n2 => ?_) (fun n2 => ?_)
    ·refine xa rfl rfl rfl ?_
     refine aP rfl (fun c5 => ?_) (fun c5 => ?_)
     ·refine wZ rfl rfl rfl ?_
      exact aK (hend (by unfold dI; rw [if_neg n1, if_pos n2, decide_eq_decide]; omega))
     ·exact aK (hend (by unfold dI; rw [if_neg n1, if_pos n2, decide_eq_false (by omega)]))
    ·have hno : dI name args.length = decide (bo name = 4 ∧ args.length = 0 ∨ bo name = 3 ∧ args.length ≤ 16) := by unfold dI; rw [if_neg n1, if_neg n2, if_neg n3]
     refine ao (.ptr p) rfl (fun _ _ _ _ _ => rfl) rfl ?_
     refine ao (.ptr (dZ p 0)) rfl (fun _ _ _ _ _ => IX p 0 (by omega)) rfl ?_
     refine ao (.str name) rfl (fun a b _ _ _ => hld0 a b) rfl ?_
     refine aj (.bool (decide (bo name = 4))) (fun _ a b _ _ => Pz hb hbl b (hG.keep a.ro)) rfl rfl ?_
     refine aP rfl (fun c7 => ?_) (fun c7 => ?_)
     ·refine cQ rfl rfl rfl ?_
      refine aP rfl (fun c8 => ?_) (fun c8 => ?_)
      ·exact aK (hend (by rw [hno, decide_eq_true (.inl ⟨c7, by omega⟩)]))
      ·refine ao (.ptr p) rfl (fun _ _ _ _ _ => rfl) rfl ?_
       refine ao (.ptr (dZ p 0)) rfl (fun _ _ _ _ _ => IX p 0 (by omega)) rfl ?_
       refine ao (.str name) rfl (fun a b _ _ _ => hld0 a b) rfl ?_
       refine aj (.bool (decide (bo name = 3))) (fun _ a b _ _ => PB hb hbl b (hG.keep a.ro)) rfl rfl ?_
       refine aP rfl (fun c9 => ?_) (fun c9 => ?_)
       ·omega
       ·exact aK (hend (by rw [hno, decide_eq_false (by omega)]))
     ·refine ao (.ptr p) rfl (fun _ _ _ _ _ => rfl) rfl ?_
      refine ao (.ptr (dZ p 0)) rfl (fun _ _ _ _ _ => IX p 0 (by omega)) rfl ?_
      refine ao (.str name) rfl (fun a b _ _ _ => hld0 a b) rfl ?_
      refine aj (.bool (decide (bo name = 3))) (fun _ a b _ _ => PB hb hbl b (hG.keep a.ro)) rfl rfl ?_
      refine aP rfl (fun c9 => ?_) (fun c9 => ?_)
      ·refine wZ rfl rfl rfl ?_
       exact aK (hend (by rw [hno, decide_eq_decide]; omega))
      ·exact aK (hend (by rw [hno, decide_eq_false (by omega)]))
end
theorem vD : ∀ (l : List Ty) (n : Nat), Dd l n = max n (Dd l 0)
 | [], n => by simp [Dd]
 | t :: r, n => by
  have h1 := vD r (max n (dp t))
  have h2 := vD r (max 0 (dp t))
  simp only [Dd]; omega
mutual
theorem FK : ∀ (t : Ty) (d c : Nat), ((ia t d c).1 = true ↔ c + cq t ≤ 2000 ∧ d + dp t ≤ 101 ∧ qN t = true) ∧ ((ia t d c).1 = true → (ia t d c).2 = c + cq t)
 | .mk name args, d, c => by
  simp only [ia, cq, dp, qN, Bool.and_eq_true]
  by_cases h : dI name args.length = true ∧ c + 1 ≤ 2000 ∧ d ≤ 100
  ·rw [if_pos h]
   obtain ⟨h1, h2⟩ := zX args (d + 1) (c + 1) h.2.1 (by omega)
   refine ⟨?_, fun hh => by rw [h2 hh]; omega⟩
   rw [h1]
   constructor
   ·rintro ⟨a, b, e⟩; exact ⟨by omega, by omega, e, h.1⟩
   ·rintro ⟨a, b, e, _⟩; exact ⟨by omega, by omega, e⟩
  ·rw [if_neg h]
   refine ⟨⟨fun hh => (by cases hh), fun ⟨a, b, e, f⟩ => absurd ⟨f, by omega, by omega⟩ h⟩, fun hh => by cases hh⟩
theorem zX : ∀ (l : List Ty) (d c : Nat), c ≤ 2000 → d ≤ 101 → ((jz l d c).1 = true ↔ c + cG l ≤ 2000 ∧ d + Dd l 0 ≤ 101 ∧ iM l = true) ∧ ((jz l d c).1 = true → (jz l d c).2 = c + cG l)
 | [], d, c, hc, hd => by simp only [jz, cG, Dd, iM]; exact ⟨⟨fun _ => ⟨by omega, by omega, trivial⟩, fun _ => trivial⟩, fun _ => by omega⟩
 | t :: r, d, c, hc, hd => by
  obtain ⟨h1, h2⟩ := FK t d c
  have hm := vD r (max 0 (dp t))
  simp only [jz, cG, Dd, iM, Bool.and_eq_true]
  by_cases h : (ia t d c).1 = true
  ·rw [if_pos h]
   have h3 := h1.1 h
   have h4 := h2 h
   obtain ⟨h5, h6⟩ := zX r d (ia t d c).2 (by omega) hd
   refine ⟨?_, fun hh => by rw [h6 hh]; omega⟩
   rw [h5]
   constructor
   ·rintro ⟨a, b, e⟩; exact ⟨by omega, by omega, h3.2.2, e⟩
   ·rintro ⟨a, b, e, f⟩; exact ⟨by omega, by omega, f⟩
  ·rw [if_neg h]
   refine ⟨⟨fun hh => (by cases hh), fun ⟨a, b, e, f⟩ => absurd (h1.2 ⟨by omega, by omega, e⟩) h⟩, fun hh => by cases hh⟩
end
theorem PA (t : Ty) : (ia t 1 0).1 = fR t ∧ (fR t = true → (ia t 1 0).2 = cq t) := by
 obtain ⟨h1, h2⟩ := FK t 1 0
 have hv : fR t = true ↔ (ia t 1 0).1 = true := by
  rw [h1]; unfold fR
  simp only [Bool.and_eq_true, decide_eq_true_eq]
  constructor
  ·rintro ⟨⟨a, b⟩, c⟩; exact ⟨by omega, by omega, c⟩
  ·rintro ⟨a, b, c⟩; exact ⟨⟨by omega, by omega⟩, c⟩
 refine ⟨?_, fun h => by rw [h2 (hv.1 h)]; omega⟩
 cases hq : fR t with
 | true => exact hv.1 hq
 | false =>
  cases hi : (ia t 1 0).1 with
  | true => have := hv.2 hi; rw [hq] at this; cases this
  | false => rfl
def Kn (K : S → Prop) (n : Nat) : Prop := ∀ F s s', (∀ b ∈ F, n ≤ b) → Fw F s s' → K s → K s'
theorem Kn.still {K : S → Prop} {n : Nat} (h : Kn K n) : ep K := fun s s' hf => h [] s s' (by simp) hf
section
variable {K : S → Prop} {n : Nat}
theorem Ib (hK : Kn K n) {t : Ty} {nm rw : V} {s : S} (hn : n ≤ s.next) (hR : ff K t nm rw) (hw : WF s) (hG : cd s) (hk : K s) : Cw aq 13 [.agg [nm, rw]] s fun v s' => v = .int .i64 (if fR t = true then ((cq t : Nat) : Int) else 0) ∧ Fw [] s s' := by
 have ho := hR.one
 refine ay (aI (C := AG) (e := ⟨[nm, rw], []⟩) (F := []) rfl Tryz.func13 rfl (by kernel_rfl) Mm rfl ⟨rfl, by simp [au, ho.1, ho.2], rfl⟩ rfl hw rfl (by simp) trivial am trivial (by simp) ?_)
 refine aN fun b1 hb1 hd1 => ?_
 refine aN fun b2 hb2 hd2 => ?_
 refine cU fun s1 k1 k2 k3 k4 => ?_
 have g1 : s1.get b1 = some (.cells 25 false 1 [⟨0, 0, [nm, rw]⟩]) := k4.1
 have g2 : s1.get b2 = some (tC 0) := k4.2.1
 have hne : b1 ≠ b2 := fun h => by subst h; rw [g1] at g2; cases g2
 obtain ⟨v, s2, hcall, rfl, hcnt, hf⟩ := RF (K := fun s => K s ∧ s.get b1 = some (.cells 25 false 1 [⟨0, 0, [nm, rw]⟩])) (fc := b2)
  (fun s s' hf ⟨h1, h2⟩ => ⟨hK [b2] s s' (by simp; omega) hf h1, hf.keep _ _ (by simp [hne]) h2⟩) (cq t) t 1 0 ⟨b1, 0, 0⟩ nm rw s1 (Nat.le_refl _) (hR.mono fun s h => h.1) (fun s h => by rw [QP h.2]; rfl) (by omega) (by omega) k2 (hG.keep k1.ro) ⟨hK.still _ _ k1 hk, g1⟩ g2
 refine .inl ⟨[.int .i64 (((ia t 1 0).2 : Nat) : Int), .bool (ia t 1 0).1], _, s2, [], T0, inferInstance, rfl, rfl, hcall, hf.mono (by simp [eI]; rfl), ⟨hcnt, trivial⟩, am, trivial, by simp, ?_⟩
 obtain ⟨hl1, hl2⟩ := PA t
 refine dR rfl rfl ?_
 refine aB rfl (fun c1 => ?_) (fun c1 => ?_)
 ·have hv : fR t = false := by rw [← hl1]; simpa using c1
  exact ak fun s1 h1 h2 h3 h4 => ⟨_, _, rfl, by rw [hv]; rfl, h1⟩
 ·have hv : fR t = true := by rw [← hl1]; simpa using c1
  exact ak fun s1 h1 h2 h3 h4 => ⟨_, _, rfl, by rw [if_pos hv, ← hl2 hv]; rfl, h1⟩
end
end Go.AI.Lx
namespace Go.AI.Lx
open Go.Proofs Go.Proofs.YtkeaedhoaamfnaaGreatDoor
def JP : List aA := [⟨4, [(1, true), (23, false), (24, false), (25, true)], []⟩]
def Jk : Code := match Tryz.f35.body with | some c => c | none => .skip
def AC : eK := ⟨aq, Tryz.f35, JP, [(35, ⟨[], false⟩), (43, ⟨[], false⟩), (64, ⟨[], false⟩), (101, ⟨[], false⟩)], [⟨3, [(1, true), (2, false)], []⟩, ⟨100002, [(1, false), (2, false), (16, true)], []⟩], 0⟩
def HS : ax := aT (.bin .lss 3 false 3 2) 4 (.cond 4 (aT (.indexAddr 23 1 3) 5 (.ask (.load 25 5) true [] 2 (.agg [6, 7]) (.new (cT 35 [.agg [6, 7], 0] 8 (aT (.bin .add 3 true 3 (iV 1)) 9 (.back 0 [8, 1, 2, 9] [])))))) (rT 0))
def qe : ax := aT (.bif .len #[23] [2]) 3 (.loop 0 4 [0, 2, 3, iV 0] [] [] HS)
def qd : ax := .cond 1 (.new (.act (.bif .append #[22, 22] [0, .slice ⟨1, 0, 0⟩ 0 1 (some 1) 1]) [(1, cB 9 [2])] 1 4 (.cut 3 [4, 2, 3] [0] [cB 25 [1, 2]] qe))) (.cut 3 [0, 2, 3] [0] [cB 25 [1, 2]] qe)
def Hr : ax := .new (cT 43 [0] 3 (.cond 3 (cT 64 [2, 0] 4 (aT (.un .not 4) 5 (.cut 4 [2, 5, 0, 1] [0] [cB 25 [2, 3]] qd))) (.cut 4 [2, .bool false, 0, 1] [0] [cB 25 [2, 3]] qd)))
theorem Mh : bu AC 400 [] [.code Jk] (aO [.agg [.atom 0, .atom 1], .atom 2] 0 .leaf id) (aR ⟨.leaf, 0⟩ []) 3 = some Hr := by kernel_rfl
def DQ : List aA := [⟨5, [(2, false), (5, true), (6, true)], []⟩]
def Dw : Code := match Tryz.f37.body with | some c => c | none => .skip
def uz : eK := ⟨aq, Tryz.f37, DQ, [(37, ⟨[], false⟩), (67, ⟨[], false⟩), (41, ⟨[], false⟩)], [⟨100002, [(1, false), (2, false), (15, true)], []⟩], 0⟩
def BO : ax := aT (.bif .len #[23] [3]) 4 (aT (.bin .lss 3 false 1 4) 5 (.cond 5 (aT (.indexAddr 23 3 1) 6 (.ask (.load 25 6) true [] 2 (.agg [7, 8]) (cT 37 [.agg [7, 8], 0] 9 (aT (.bin .add 3 true 1 (iV 1)) 10 (.back 0 [9, 10, 2, 3] [0]))))) (rT 0)))
def mu : ax := .cond 1 (.new (.act (.bif .append #[22, 22] [0, .slice ⟨1, 0, 0⟩ 0 1 (some 1) 1]) [(1, cB 9 [2])] 1 4 (rT 4))) (.loop 0 4 [0, iV 0, 2, 3] [0] [cB 25 [2, 3]] BO)
def By : ax := .new (cT 67 [.agg [0, 1]] 3 (.cond 3 (cT 41 [2, 0] 4 (aT (.un .not 4) 5 (.cut 4 [2, 5, 0, 1] [0] [cB 25 [2, 3]] mu))) (.cut 4 [2, .bool false, 0, 1] [0] [cB 25 [2, 3]] mu)))
theorem Fc : bu uz 400 [] [.code Dw] (aO [.agg [.atom 0, .atom 1], .atom 2] 0 .leaf id) (aR ⟨.leaf, 0⟩ []) 3 = some By := by kernel_rfl
def GR : List aA := []
def Gs : Code := match Tryz.f10.body with | some c => c | none => .skip
def xE : eK := ⟨aq, Tryz.f10, GR, [(36, ⟨[], false⟩), (37, ⟨[], false⟩)], [], 0⟩
def Er : ax := .new (cT 36 [.agg [0, 1]] 2 (aT (.un .not 2) 3 (.cond 3 (rT nS) (cT 37 [.agg [0, 1], nS] 4 (rT 4)))))
theorem Il : bu xE 400 [] [.code Gs] (aO [.agg [.atom 0, .atom 1]] 0 .leaf id) (aR ⟨.leaf, 0⟩ []) 2 = some Er := by kernel_rfl
def zo : List aA := [⟨6, [(3, false), (4, false), (22, false), (23, false), (24, true)], []⟩]
def zf : Code := match Tryz.f40.body with | some c => c | none => .skip
def rY : eK := ⟨aq, Tryz.f40, zo, [(13, ⟨[], false⟩), (35, ⟨[], false⟩), (64, ⟨[], false⟩), (101, ⟨[], false⟩)], [⟨100002, [(1, false), (16, true)], []⟩], 0⟩
def yC : ax := aT (.bin .lss 3 false 4 3) 5 (.cond 5 (aT (.indexAddr 22 2 4) 6 (aT (.load 9 6) 7 (aT (.lookup 86 1 7 false) 8 (aT (.bin .add 3 true 8 (iV 1)) 9 (.act (.mapUpd 86 1 7 9) [] 0 (.tuple []) (aT (.lookup 86 1 7 false) 10 (aT (.bin .gtr 3 true 10 (iV 1)) 11 (.cond 11 (rT (.bool false)) (cT 64 [0, 7] 12 (aT (.un .not 12) 13 (.cond 13 (rT (.bool false)) (aT (.bin .add 3 true 4 (iV 1)) 14 (.back 0 [0, 1, 2, 3, 14] []))))))))))))) (rT (.bool true)))
def lp : ax := .cond 0 (rT (.bool false)) (cT 35 [.agg [2, 3], nS] 4 (.act .makeMap [] 1 5 (aT (.bif .len #[22] [1]) 6 (.loop 0 5 [4, 5, 1, 6, iV 0] [] [] yC))))
def yw : ax := .new (cT 13 [.agg [1, 2]] 3 (aT (.bin .eql 3 true 3 (iV 0)) 4 (.cond 4 (.cut 4 [.bool true, 0, 1, 2] [0] [cB 27 [1, 2, 3]] lp) (aT (.bif .len #[22] [0]) 5 (aT (.bin .gtr 3 true 5 (iV 2000)) 6 (.cut 4 [6, 0, 1, 2] [0] [cB 27 [1, 2, 3]] lp))))))
theorem Ce : bu rY 400 [] [.code zf] (aO [.agg [.atom 0, .atom 1, .atom 2]] 0 .leaf id) (aR ⟨.leaf, 0⟩ []) 3 = some yw := by kernel_rfl
def DT : List aA := [⟨5, [(1, false), (3, false), (4, true)], []⟩]
def Dz : Code := match Tryz.f16.body with | some c => c | none => .skip
def uC : eK := ⟨aq, Tryz.f16, DT, [(36, ⟨[], false⟩), (37, ⟨[], false⟩), (41, ⟨[], false⟩), (42, ⟨[], false⟩)], [⟨100002, [(1, false), (14, true)], []⟩, ⟨100008, [(1, false), (3, false), (4, false), (44, true)], []⟩], 0⟩
def mA : ax := .cond 2 (rT (iV 32)) (aT (.bin .add 3 true 1 (iV 1)) 6 (.back 0 [0, 6, 3, 4, 5] [0]))
def BI : ax := aT (.bif .len #[22] [2]) 5 (aT (.bin .lss 3 false 1 5) 6 (.cond 6 (aF (.indexAddr 22 2 1) 7 (aF (.load 9 7) 8 (cT 41 [0, 8] 9 (aF (.un .not 9) 10 (.cond 10 (.cut 6 [0, 1, .bool true, 2, 3, 4] [0] [cB 27 [3, 4, 5]] mA) (aF (.indexAddr 22 2 1) 11 (aF (.load 9 11) 12 (cT 42 [2, 12] 13 (aF (.bin .neq 3 false 13 1) 14 (.cut 6 [0, 1, 14, 2, 3, 4] [0] [cB 27 [3, 4, 5]] mA)))))))))) (rT (iV 0))))
def mq : ax := .cond 0 (rT (iV 32)) (cT 37 [.agg [2, 3], nS] 4 (.loop 0 5 [4, iV 0, 1, 2, 3] [0] [cB 27 [2, 3, 4]] BI))
def BB : ax := .new (cT 36 [.agg [1, 2]] 3 (aT (.un .not 3) 4 (.cond 4 (.cut 4 [.bool true, 0, 1, 2] [0] [cB 27 [1, 2, 3]] mq) (aT (.bif .len #[22] [0]) 5 (aT (.bin .gtr 3 true 5 (iV 2000)) 6 (.cut 4 [6, 0, 1, 2] [0] [cB 27 [1, 2, 3]] mq))))))
theorem Ff : bu uC 400 [] [.code Dz] (aO [.agg [.atom 0, .atom 1, .atom 2]] 0 .leaf id) (aR ⟨.leaf, 0⟩ []) 3 = some BB := by kernel_rfl
def Kl : List aA := []
def JG : Code := match Tryz.f64.body with | some c => c | none => .skip
def AY : eK := ⟨aq, Tryz.f64, Kl, [(64, ⟨[], false⟩), (101, ⟨[], false⟩)], [], 0⟩
def HN : ax := cT 101 [0, 1] 2 (aT (.bin .geq 3 true 2 (iV 0)) 3 (rT 3))
theorem ME : bu AY 400 [] [.code JG] (aO [.atom 0, .atom 1] 0 .leaf id) (aR ⟨.leaf, 0⟩ []) 2 = some HN := by kernel_rfl
def Kk : List aA := [⟨2, [(0, false), (1, false), (7, false), (8, true)], []⟩]
def JF : Code := match Tryz.f101.body with | some c => c | none => .skip
def AX : eK := ⟨aq, Tryz.f101, Kk, [(64, ⟨[], false⟩), (101, ⟨[], false⟩)], [], 0⟩
def HM : ax := aT (.bif .len #[22] [0]) 2 (.loop 0 4 [0, 1, 2, iV 0] [] [] (aT (.bin .lss 3 false 3 2) 4 (.cond 4 (aT (.indexAddr 22 0 3) 5 (aT (.load 9 5) 6 (aT (.bin .eql 9 false 1 6) 7 (.cond 7 (rT 3) (aT (.bin .add 3 true 3 (iV 1)) 8 (.back 0 [0, 1, 2, 8] [])))))) (rT (iV (-1))))))
theorem MD : bu AX 400 [] [.code JF] (aO [.atom 0, .atom 1] 0 .leaf id) (aR ⟨.leaf, 0⟩ []) 2 = some HM := by kernel_rfl
end Go.AI.Lx
namespace Go.AI.Lx
open Go.Proofs Go.Proofs.YtkeaedhoaamfnaaGreatDoor
set_option maxRecDepth 10000
structure DV (K : S → Prop) (v : V) (l : List (List Nat)) : Prop where
 row : jO K 1 v (l.map fun x => [.str x])
 bytes : ∀ x ∈ l, Bytes x
theorem DV.mono {K K' : S → Prop} (h : ∀ s, K' s → K s) {v : V} {l : List (List Nat)} (r : DV K v l) : DV K' v l := ⟨r.row.mono h, r.bytes⟩
theorem WG {s : S} {p : Ad} {x : V} (h : loadCells s p 1 = some [x]) {ty : TypeId} (hl : ∀ s a, loadVar Tryz.prog s ty a = cO s a) : gh (eQ Tryz.prog s ty (some (.ptr p))) = some x := by
 have := fo h (i := 0) rfl hl
 rwa [show dZ p 0 = p from rfl] at this
theorem DV.len {K : S → Prop} {v : V} {l : List (List Nat)} (r : DV K v l) (s : S) : lM Tryz.prog 22 s v = some (.int .i64 ((l.length : Nat) : Int)) := by
 have := r.row.len Ob s
 rwa [List.length_map] at this
theorem DV.lt {K : S → Prop} {v : V} {l : List (List Nat)} (r : DV K v l) : l.length < 4611686018427387904 := by
 have := r.row.lt; rwa [List.length_map] at this
theorem DV.at {K : S → Prop} {v : V} {l : List (List Nat)} (r : DV K v l) {i : Nat} {x : List Nat} (h : l[i]? = some x) :
 ∃ p, bJ Tryz.prog 22 (some v) (some i) = some (.ptr p) ∧ ∀ s, K s → gh (eQ Tryz.prog s 9 (some (.ptr p))) = some (.str x) := by
 obtain ⟨p, h1, h2⟩ := r.row.at Ob Ep (i := i) (x := [.str x]) (by rw [List.getElem?_map, h]; rfl)
 exact ⟨p, h1, fun s hs => WG (h2 s hs) CF⟩
def yt (x : List Nat) : List (List Nat) → Nat → Option Nat
 | [], _ => none
 | y :: r, i => if y = x then some i else yt x r (i + 1)
def uN (o : Option Nat) : Int := match o with
 | some i => ((i : Nat) : Int)
 | none => -1
theorem CS {x : List Nat} : ∀ {l : List (List Nat)} {i : Nat}, (uN (yt x l i) ≥ 0) ↔ x ∈ l
 | [], i => by simp [yt, uN]
 | y :: r, i => by
  simp only [yt]
  split
  ·rename_i h; subst h; simp [uN]
  ·rename_i h
   rw [CS (l := r) (i := i + 1)]
   simp [Ne.symm h]
section
variable {K : S → Prop}
theorem SU (hK : ep K) {v : V} {l : List (List Nat)} {x : List Nat} {s : S} (hr : DV K v l) (hx : Bytes x) (hw : WF s) (hk : K s) : Cw aq 42 [v, .str x] s fun w s' => w = .int .i64 (uN (yt x l 0)) ∧ Fw [] s s' := by
 have hlt := hr.lt
 refine ay (aI (C := GH) (e := ⟨[v, .str x], []⟩) (F := []) (bE rfl rfl rfl) Tryz.func42 rfl (by kernel_rfl) OK rfl ⟨rfl, by simp [au, hr.row.one, iW], rfl⟩ rfl hw rfl (by simp) trivial am trivial (by simp) ?_)
 refine ej (fun j vs bs => ∃ i, i ≤ l.length ∧ j = l.length - i ∧ vs = [v, .str x, .int .i64 ((i : Nat) : Int)] ∧ bs = [] ∧ yt x (l.drop i) i = yt x l 0) l.length ⟨0, by omega, rfl, rfl, rfl, rfl⟩ ?_
 rintro j _ _ ⟨i, hi, rfl, rfl, rfl, hf⟩
 refine bT rfl (fun s1 _ _ => hr.len s1) rfl ?_
 refine cP rfl rfl rfl ?_
 refine aP rfl (fun c1 => ?_) (fun c1 => ?_)
 ·obtain ⟨y, hy, hd⟩ := bM (show i < l.length by omega)
  rw [hd] at hf
  simp only [yt] at hf
  obtain ⟨p, hp, hld⟩ := hr.at hy
  refine ao (.ptr p) rfl (fun _ _ _ _ _ => hp) rfl ?_
  refine ao (.str y) rfl (fun a b _ _ _ => hld a (hK _ _ b hk)) rfl ?_
  refine gi rfl rfl (hr.bytes y (List.mem_of_getElem? hy)) hx rfl ?_
  refine aP rfl (fun c2 => ?_) (fun c2 => ?_)
  ·rw [if_pos c2] at hf
   exact ak fun s1 h1 h2 h3 h4 => ⟨_, _, rfl, by rw [← hf]; rfl, h1⟩
  ·rw [if_neg c2] at hf
   refine br (r := ((i + 1 : Nat) : Int)) rfl rfl (wI (by omega)) rfl ?_
   exact eJ (l.length - (i + 1)) rfl (by omega) ⟨i + 1, by omega, rfl, rfl, rfl, hf⟩
 ·have : i = l.length := by omega
  subst this
  rw [List.drop_length] at hf
  exact ak fun s1 h1 h2 h3 h4 => ⟨_, _, rfl, by rw [← hf]; rfl, h1⟩
theorem Ui (hK : ep K) {v : V} {l : List (List Nat)} {x : List Nat} {s : S} (hr : DV K v l) (hx : Bytes x) (hw : WF s) (hk : K s) : Cw aq 101 [v, .str x] s fun w s' => w = .int .i64 (uN (yt x l 0)) ∧ Fw [] s s' := by
 have hlt := hr.lt
 refine ay (aI (C := AX) (e := ⟨[v, .str x], []⟩) (F := []) (bE rfl rfl rfl) Tryz.func101 rfl (by kernel_rfl) MD rfl ⟨rfl, by simp [au, hr.row.one, iW], rfl⟩ rfl hw rfl (by simp) trivial am trivial (by simp) ?_)
 refine bT rfl (fun s1 _ _ => hr.len s1) rfl ?_
 refine ej (fun j vs bs => ∃ i, i ≤ l.length ∧ j = l.length - i ∧ vs = [v, .str x, .int .i64 ((l.length : Nat) : Int), .int .i64 ((i : Nat) : Int)] ∧ bs = [] ∧ yt x (l.drop i) i = yt x l 0) l.length ⟨0, by omega, rfl, rfl, rfl, rfl⟩ ?_
 rintro j _ _ ⟨i, hi, rfl, rfl, rfl, hf⟩
 refine cP rfl rfl rfl ?_
 refine aP rfl (fun c1 => ?_) (fun c1 => ?_)
 ·obtain ⟨y, hy, hd⟩ := bM (show i < l.length by omega)
  rw [hd] at hf
  simp only [yt] at hf
  obtain ⟨p, hp, hld⟩ := hr.at hy
  refine ao (.ptr p) rfl (fun _ _ _ _ _ => hp) rfl ?_
  refine ao (.str y) rfl (fun a b _ _ _ => hld a (hK _ _ b hk)) rfl ?_
  refine gi rfl rfl hx (hr.bytes y (List.mem_of_getElem? hy)) rfl ?_
  refine aP rfl (fun c2 => ?_) (fun c2 => ?_)
  ·rw [if_pos c2.symm] at hf
   exact ak fun s1 h1 h2 h3 h4 => ⟨_, _, rfl, by rw [← hf]; rfl, h1⟩
  ·rw [if_neg (fun h => c2 h.symm)] at hf
   refine br (r := ((i + 1 : Nat) : Int)) rfl rfl (wI (by omega)) rfl ?_
   exact eJ (l.length - (i + 1)) rfl (by omega) ⟨i + 1, by omega, rfl, rfl, rfl, hf⟩
 ·have : i = l.length := by omega
  subst this
  rw [List.drop_length] at hf
  exact ak fun s1 h1 h2 h3 h4 => ⟨_, _, rfl, by rw [← hf]; rfl, h1⟩
theorem Uj (hK : ep K) {v : V} {l : List (List Nat)} {x : List Nat} {s : S} (hr : DV K v l) (hx : Bytes x) (hw : WF s) (hk : K s) : Cw aq 41 [v, .str x] s fun w s' => w = .bool (decide (x ∈ l)) ∧ Fw [] s s' := by
 refine ay (aI (C := LG) (e := ⟨[v, .str x], []⟩) (F := []) (bE rfl rfl rfl) Tryz.func41 rfl (by kernel_rfl) Ru rfl ⟨rfl, by simp [au, hr.row.one, iW], rfl⟩ rfl hw rfl (by simp) trivial am trivial (by simp) ?_)
 refine aj (.int .i64 (uN (yt x l 0))) (fun _ a b _ _ => SU hK hr hx b (hK _ _ a hk)) rfl rfl ?_
 refine xa rfl rfl rfl ?_
 exact ak fun s1 h1 h2 h3 h4 => ⟨_, _, rfl, by show V.bool _ = V.bool _; congr 1; rw [decide_eq_decide]; exact CS, h1⟩
theorem Az (hK : ep K) {v : V} {l : List (List Nat)} {x : List Nat} {s : S} (hr : DV K v l) (hx : Bytes x) (hw : WF s) (hk : K s) : Cw aq 64 [v, .str x] s fun w s' => w = .bool (decide (x ∈ l)) ∧ Fw [] s s' := by
 refine ay (aI (C := AY) (e := ⟨[v, .str x], []⟩) (F := []) (bE rfl rfl rfl) Tryz.func64 rfl (by kernel_rfl) ME rfl ⟨rfl, by simp [au, hr.row.one, iW], rfl⟩ rfl hw rfl (by simp) trivial am trivial (by simp) ?_)
 refine aj (.int .i64 (uN (yt x l 0))) (fun _ a b _ _ => Ui hK hr hx b (hK _ _ a hk)) rfl rfl ?_
 refine xa rfl rfl rfl ?_
 exact ak fun s1 h1 h2 h3 h4 => ⟨_, _, rfl, by show V.bool _ = V.bool _; congr 1; rw [decide_eq_decide]; exact CS, h1⟩
theorem Ie (hK : ep K) {v w : V} {a b : List (List Nat)} {s : S} (ha : DV K v a) (hb : DV K w b) (hw : WF s) (hk : K s) : Cw aq 8 [v, w] s fun u s' => u = .bool (decide (a = b)) ∧ Fw [] s s' := by
 have hla := ha.lt
 have hlb := hb.lt
 refine ay (aI (C := pP) (e := ⟨[v, w], []⟩) (F := []) (bE rfl rfl rfl) Tryz.func8 rfl (by kernel_rfl) yF rfl ⟨rfl, by simp [au, ha.row.one, hb.row.one], rfl⟩ rfl hw rfl (by simp) trivial am trivial (by simp) ?_)
 refine bT rfl (fun s1 _ _ => ha.len s1) rfl ?_
 refine bT rfl (fun s1 _ _ => hb.len s1) rfl ?_
 refine iv rfl rfl rfl ?_
 refine aP rfl (fun c1 => ?_) (fun c1 => ?_)
 ·exact ak fun s1 h1 h2 h3 h4 => ⟨_, _, rfl, by rw [decide_eq_false (show ¬ a = b from fun h => c1 (by rw [h]))]; rfl, h1⟩
 ·have hlen : a.length = b.length := by omega
  refine ej (fun j vs bs => ∃ i, i ≤ a.length ∧ j = a.length - i ∧ vs = [v, w, .int .i64 ((i : Nat) : Int)] ∧ bs = [] ∧ (a = b ↔ a.drop i = b.drop i)) a.length ⟨0, by omega, rfl, rfl, rfl, by simp⟩ ?_
  rintro j _ _ ⟨i, hi, rfl, rfl, rfl, hf⟩
  refine bT rfl (fun s1 _ _ => ha.len s1) rfl ?_
  refine cP rfl rfl rfl ?_
  refine aP rfl (fun c2 => ?_) (fun c2 => ?_)
  ·obtain ⟨x, hx, hd⟩ := bM (show i < a.length by omega)
   obtain ⟨y, hy, hd'⟩ := bM (show i < b.length by omega)
   rw [hd, hd'] at hf
   obtain ⟨p, hp, hld⟩ := ha.at hx
   obtain ⟨p', hp', hld'⟩ := hb.at hy
   refine ao (.ptr p) rfl (fun _ _ _ _ _ => hp) rfl ?_
   refine ao (.str x) rfl (fun a b _ _ _ => hld a (hK _ _ b hk)) rfl ?_
   refine ao (.ptr p') rfl (fun _ _ _ _ _ => hp') rfl ?_
   refine ao (.str y) rfl (fun a b _ _ _ => hld' a (hK _ _ b hk)) rfl ?_
   refine wY rfl rfl (ha.bytes x (List.mem_of_getElem? hx)) (hb.bytes y (List.mem_of_getElem? hy)) rfl ?_
   refine aB rfl (fun c3 => ?_) (fun c3 => ?_)
   ·have hne : x ≠ y := by simpa using c3
    exact ak fun s1 h1 h2 h3 h4 => ⟨_, _, rfl, by rw [decide_eq_false (show ¬ a = b from fun h => hne (by have := hf.1 h; simp at this; exact this.1))]; rfl, h1⟩
   ·have heq : x = y := by simpa using c3
    subst heq
    refine br (r := ((i + 1 : Nat) : Int)) rfl rfl (wI (by omega)) rfl ?_
    exact eJ (a.length - (i + 1)) rfl (by omega) ⟨i + 1, by omega, rfl, rfl, rfl, by rw [hf]; simp⟩
  ·have : i = a.length := by omega
   subst this
   rw [List.drop_length, hlen, List.drop_length] at hf
   exact ak fun s1 h1 h2 h3 h4 => ⟨_, _, rfl, by rw [decide_eq_true (hf.2 rfl)]; rfl, h1⟩
end
theorem VH : Bd Tryz.prog 22 9 1 := ⟨by kernel_rfl, by kernel_rfl, by kernel_rfl, by kernel_rfl, by kernel_rfl⟩
def UV (l : List (List Nat)) (o : Option Nat) (v : V) (s : S) : Prop := gQ 9 1 s v l.length (l.map V.str) o
theorem UV.stb {l : List (List Nat)} {o : Option Nat} {v : V} : kz o.toList (UV l o v) := fun s s' h hk _ => gQ.keep h (fun X B hX hB => hk X (by simp [hX]) B hB)
theorem UV.still {l : List (List Nat)} {o : Option Nat} {v : V} : ep (UV l o v) := fun s s' hf h => gQ.fw h hf (by simp)
theorem UV.one {l : List (List Nat)} {o : Option Nat} {v : V} {s : S} (h : UV l o v s) : v.one = true := gQ.one h
theorem UV.nil (s : S) : UV [] none .nilslice s := gQ.nil
theorem UV.txs {l : List (List Nat)} {o : Option Nat} {v : V} {s : S} (h : UV l o v s) (hl : l.length < 4611686018427387904) (hb : ∀ x ∈ l, Bytes x) : DV (UV l o v) v l := by
 refine ⟨?_, hb⟩
 have h' : gQ 9 1 s v l.length (l.map V.str) o := h
 generalize hn : l.length = n at h'
 generalize hc : l.map V.str = cs at h'
 have hcl : cs.length = l.length := by rw [← hc, List.length_map]
 cases h' with
 | nil =>
  have : l = [] := List.eq_nil_of_length_eq_zero hn
  subst this; exact .nil
 | row X nv rest n cs h1 h2 h3 =>
  refine .row _ _ _ _ (by simp [hn]) (by omega) fun i x hx s' hs => ?_
  rw [List.getElem?_map] at hx
  cases hy : l[i]? with
  | none => rw [hy] at hx; cases hx
  | some y =>
   rw [hy] at hx; cases hx
   have hs' : gQ 9 1 s' (.slice ⟨X, nv, 0⟩ 0 n none 1) l.length (l.map V.str) (some X) := hs
   rw [hn, hc] at hs'
   cases hs' with
   | row _ _ rest' _ _ g1 g2 g3 =>
    have hv : bw (⟨nv, 0, cs⟩ :: rest') nv = some ⟨nv, 0, cs⟩ := by simp only [bw, Nat.beq_refl, cond_true]
    have hi : cs[i]? = some (.str y) := by rw [← hc, List.getElem?_map, hy]; rfl
    have hlt : i < cs.length := by
     rcases Nat.lt_or_ge i cs.length with h | h
     ·exact h
     ·rw [List.getElem?_eq_none h] at hi; cases hi
    simp only [loadCells, dZ, g1, hv, GO, cond_true, Nat.sub_zero, Nat.zero_add, Nat.mul_one]
    rw [List.drop_eq_getElem_cons hlt]
    rw [List.getElem?_eq_getElem hlt] at hi
    rw [Option.some.inj hi]
    rfl
theorem UV.app {l : List (List Nat)} {o : Option Nat} {v : V} {s : S} (h : UV l o v s) (hw : WF s) {b : Nat} {x : List Nat} (hb : s.get b = some (.cells 9 false 1 [⟨0, 0, [.str x]⟩])) (hl : l.length ≤ 999999) :
 ∃ v' s' X, yp.run Tryz.prog s (.bif .append #[22, 22] [v, .slice ⟨b, 0, 0⟩ 0 1 (some 1) 1]) = some (v', s') ∧ UV (l ++ [x]) (some X) v' s' ∧ Fw o.toList s s' ∧ X < s'.next ∧ (o = some X ∨ s.next ≤ X) := by
 obtain ⟨v', s', X, happ, hG, hble, hor⟩ := gQ.app VH h hw (c := some 1) hb rfl rfl hl
 have hU : UV (l ++ [x]) (some X) v' s' := by
  unfold UV
  rw [List.length_append, List.map_append]
  exact hG
 have hf : Fw o.toList s s' := by
  rcases hor with ⟨rfl, _, hf⟩ | ⟨rfl, hf⟩
  ·exact hf
  ·exact hf
 refine ⟨v', s', X, ?_, hU, hf, hG.lt (hf.wf hw), ?_⟩
 ·show io (fF (iZ Tryz.prog 22 22 s v (.slice ⟨b, 0, 0⟩ 0 1 (some 1) 1))) = _
  rw [happ]; rfl
 ·rcases hor with ⟨_, h, _⟩ | ⟨h, _⟩
  ·exact .inr (by omega)
  ·exact .inl h
mutual
def hQ : Ty → List (List Nat) → List (List Nat)
 | .mk name args, acc => jW args (if bo name = 4 ∧ name ∉ acc then acc ++ [name] else acc)
def jW : List Ty → List (List Nat) → List (List Nat)
 | [], acc => acc
 | t :: r, acc => jW r (hQ t acc)
end
mutual
def yv : Ty → List (List Nat) → List (List Nat)
 | .mk name args, acc => if CN name = true ∧ name ∉ acc then acc ++ [name] else su args acc
def su : List Ty → List (List Nat) → List (List Nat)
 | [], acc => acc
 | t :: r, acc => su r (yv t acc)
end
mutual
theorem iS : ∀ (t : Ty) (acc : List (List Nat)), (hQ t acc).length ≤ acc.length + cq t
 | .mk name args, acc => by
  simp only [hQ, cq]
  have := El args (if bo name = 4 ∧ name ∉ acc then acc ++ [name] else acc)
  split at this
  ·rename_i h; rw [if_pos h]; simp only [List.length_append, List.length_cons, List.length_nil] at this; omega
  ·rename_i h; rw [if_neg h]; omega
theorem El : ∀ (l : List Ty) (acc : List (List Nat)), (jW l acc).length ≤ acc.length + cG l
 | [], acc => by simp [jW, cG]
 | t :: r, acc => by
  simp only [jW, cG]
  have h1 := iS t acc
  have h2 := El r (hQ t acc)
  omega
end
mutual
theorem Bk : ∀ (t : Ty) (acc : List (List Nat)), (yv t acc).length ≤ acc.length + cq t
 | .mk name args, acc => by
  simp only [yv, cq]
  have := Ek args acc
  split
  ·simp only [List.length_append, List.length_cons, List.length_nil]; omega
  ·omega
theorem Ek : ∀ (l : List Ty) (acc : List (List Nat)), (su l acc).length ≤ acc.length + cG l
 | [], acc => by simp [su, cG]
 | t :: r, acc => by
  simp only [su, cG]
  have h1 := Bk t acc
  have h2 := Ek r (yv t acc)
  omega
end
end Go.AI.Lx
