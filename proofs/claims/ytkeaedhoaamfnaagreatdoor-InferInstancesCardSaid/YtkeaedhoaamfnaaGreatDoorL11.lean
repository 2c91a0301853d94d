/- What the functions answer in the evaluator: part 11. No conditions beyond those of the row. -/
import Derived.Test.YtkeaedhoaamfnaaGreatDoorL10
set_option linter.unusedVariables false
set_option linter.unusedSimpArgs false
noncomputable section
namespace Go.AI.Lx
open Go.Proofs Go.Proofs.YtkeaedhoaamfnaaGreatDoor
set_option maxRecDepth 10000
def rX (K : S → Prop) : List (List Nat × V) → List (List Nat × Ty) → Prop
 | [], [] => True
 | (k, v) :: r, (k', t) :: r' => k = k' ∧ (∃ nm rw, v = .agg [nm, rw] ∧ gY K t nm rw) ∧ rX K r r'
 | _, _ => False
theorem rX.mono {K K' : S → Prop} (h : ∀ s, K' s → K s) : ∀ {M : List (List Nat × V)} {m : List (List Nat × Ty)}, rX K M m → rX K' M m
 | [], [], r => r
 | (k, v) :: r, (k', t) :: r', ⟨h1, ⟨nm, rw, h2, h3⟩, h4⟩ => ⟨h1, ⟨nm, rw, h2, h3.mono h⟩, rX.mono h h4⟩
 | [], _ :: _, r => r.elim
 | _ :: _, [], r => r.elim
theorem rX.get {K : S → Prop} (x : List Nat) : ∀ {M : List (List Nat × V)} {m : List (List Nat × Ty)}, rX K M m → (∃ t nm rw, fg x M = some (.agg [nm, rw]) ∧ bX x m = some t ∧ gY K t nm rw) ∨ (fg x M = none ∧ bX x m = none)
 | [], [], _ => .inr ⟨rfl, rfl⟩
 | (k, v) :: r, (k', t) :: r', ⟨h1, ⟨nm, rw, h2, h3⟩, h4⟩ => by
  subst h1 h2
  by_cases hx : x = k
  ·subst hx; exact .inl ⟨t, nm, rw, by simp [fg], by simp [bX], h3⟩
  ·have := rX.get x h4
   simp only [fg, bX, if_neg hx]; exact this
 | [], _ :: _, r => r.elim
 | _ :: _, [], r => r.elim
theorem rX.snoc {K : S → Prop} {x : List Nat} {t : Ty} {nm rw : V} (hR : gY K t nm rw) : ∀ {M : List (List Nat × V)} {m : List (List Nat × Ty)}, rX K M m → rX K (M ++ [(x, .agg [nm, rw])]) (m ++ [(x, t)])
 | [], [], _ => ⟨rfl, ⟨nm, rw, rfl, hR⟩, trivial⟩
 | (k, v) :: r, (k', t') :: r', ⟨h1, h2, h4⟩ => ⟨h1, h2, rX.snoc hR h4⟩
 | [], _ :: _, r => r.elim
 | _ :: _, [], r => r.elim
theorem DX : qz Tryz.prog 25 true (some none) = some (.tuple [.agg [.str [], .nilslice], .bool false]) := by kernel_rfl
theorem rX.lk {K K' : S → Prop} {mm : Nat} {M : List (List Nat × V)} {m : List (List Nat × Ty)} (h : rX K M m) (hk : kZ M) (hK : ∀ s, K' s → K s ∧ MP s mm M) : Lk (.map mm) m K' := by
 intro x hx
 have look : ∀ s, K' s → bZ Tryz.prog s 78 (some (.map mm)) (some (.str x)) true = qz Tryz.prog 25 true (some (fg x M)) := fun s hs => by
  have h' : s.get mm = some (.map (ru M 0) M.length) := (hK s hs).2
  simp only [bZ, Tryz.underlying78, nE, h', jg, cond_true, qB (fun a b ha hb => io s a b ha hb) hx M 0 hk]
 rcases h.get x with ⟨t, nm, rw, h1, h2, h3⟩ | ⟨h1, h2⟩
 ·refine ⟨nm, rw, h3.one.1, h3.one.2, fun t' ht' => ?_, fun s hs => ?_⟩
  ·rw [h2] at ht'; cases ht'; exact h3.mono fun s hs => (hK s hs).1
  ·rw [look s hs, h1, h2]; rfl
 ·refine ⟨.str [], .nilslice, rfl, rfl, fun t' ht' => (by rw [h2] at ht'; cases ht'), fun s hs => ?_⟩
  rw [look s hs, h1, h2]; exact DX
theorem Fj {K : S → Prop} : Lk .nilmap [] K := by
 intro x hx
 refine ⟨.str [], .nilslice, rfl, rfl, fun t' ht' => (by cases ht'), fun s hs => ?_⟩
 have := DX
 simp only [bZ, Tryz.underlying78, nE, jg, cond_true, bN]
 exact this
theorem vd {x : List Nat} : ∀ {m : List (List Nat × Ty)}, (bX x m).isSome = true ↔ x ∈ m.map (·.1)
 | [] => by simp [bX]
 | (k, t) :: r => by
  have := vd (x := x) (m := r)
  by_cases hx : x = k
  ·subst hx; simp [bX]
  ·simp only [bX, if_neg hx, List.map_cons, List.mem_cons]
   rw [this]
   exact ⟨.inr, fun h => h.resolve_left hx⟩
def MA : List (List Nat × Ty) → List (List Nat) → Bool
 | [], _ => true
 | (k, t) :: r, seen => decide (aK k = 4) && gt t && decide (k ∉ seen) && MA r (seen ++ [k])
theorem Mz : ∀ {m : List (List Nat × Ty)} {seen : List (List Nat)}, MA m seen = true → SW m
 | [], _, _ => fun k x h => by cases h
 | (k, t) :: r, seen, h => by
  simp only [MA, Bool.and_eq_true, decide_eq_true_eq] at h
  intro k' x hx
  simp only [bX] at hx
  split at hx
  ·rename_i he; subst he; cases hx; exact ⟨h.1.1.1, h.1.1.2⟩
  ·exact Mz h.2 k' x hx
def HX (l : List (List Nat × Ty)) (t : Ty) : Ty × Int :=
 if gt t = true then (if 2000 < l.length then (.mk [] [], 1) else if MA l [] = true then (if gt (iS l t 0).1 = true then ((iS l t 0).1, 0) else (.mk [] [], 39)) else (.mk [] [], 1)) else (.mk [] [], 32)
theorem MT.kn {K : S → Prop} {G : List Nat} {t : Ty} {nm rw : V} {s : S} (h : MT K G t nm rw s) {n : Nat} (hK : Kn K n) (hn : n ≤ s.next) : Kn (fun s' => K s' ∧ KB G s s') s.next := vp (CO hK hn) (LG h.2)
theorem Pc : Kn T0 0 := fun _ _ _ _ _ _ => trivial
theorem GS {t : Ty} (h : gt t = true) : cY t ≤ 99999 := by have := (bu h).1; omega
def TE (r : Ty × Int) (Ko : S → Prop) (s : S) : cX → Prop := tW fun v s' => ∃ nm' rw' G, v = .tuple [.agg [nm', rw'], .int .i64 r.2] ∧ MT Ko G r.1 nm' rw' s' ∧ (∀ g ∈ G, s.next ≤ g) ∧ Fw [] s s'
section
variable {K : S → Prop} {n : Nat} {l : List (List Nat × Ty)} {bv nm rw : V}
def PA (K : S → Prop) (l : List (List Nat × Ty)) (bv nm rw : V) (mm b1 b2 : Nat) (j : Nat) : ck := fun vs bs D U => ∃ (i : Nat) (M : List (List Nat × V)), i ≤ l.length ∧ j = l.length - i ∧ vs = [.map mm, bv, .int .i64 ((l.length : Nat) : Int), .int .i64 ((i : Nat) : Int), nm, rw, .str [], .nilslice] ∧ bs = [b1, b2] ∧ D = [mm] ∧ U = (fun s => MP s mm M) ∧
 rX K M (l.take i) ∧ kZ M ∧ M.length = i ∧ MA (l.drop i) ((l.take i).map (·.1)) = MA l []
theorem dP {mm : Nat} {M : List (List Nat × V)} : iA [mm] fun s => MP s mm M := fun _ _ h hk _ => hk mm (by simp) _ h
theorem OH (hK : Kn K n) {t : Ty} {s : S} (hn : n ≤ s.next) (hB : GF K l bv) (hR : gY K t nm rw) (hw : WF s) (hG : cF s) (hk : K s) : Cw au 17 [bv, .agg [nm, rw]] s fun v s' => ∃ nm' rw' G, v = .tuple [.agg [nm', rw'], .int .i64 (HX l t).2] ∧ MT T0 G (HX l t).1 nm' rw' s' ∧ (∀ g ∈ G, s.next ≤ g) ∧ Fw [] s s' := by
 have ho := hR.one
 have hob := hB.one
 have hlt := hB.lt
 have hpos := nW t
 refine aL (bb (C := wd) (e := ⟨[bv, nm, rw], []⟩) (F := []) (dn rfl rfl rfl) Tryz.func17 rfl (by kernel_rfl) EU rfl ⟨rfl, by simp [aA, ho.1, ho.2, hob], rfl⟩ rfl hw rfl (by simp) trivial ay trivial (by simp) ?_)
 show ah au [] s (TE (HX l t) T0 s) _ _ _ _ _
 have no : ∀ {s1 : S} {e : Int}, Fw [] s s1 → HX l t = (.mk [] [], e) → TE (HX l t) T0 s ⟨.returned (.tuple [.agg [.str [], .nilslice], .int .i64 e]), none, s1⟩ := fun h1 he => ⟨_, _, rfl, .str [], .nilslice, [], by rw [he], by rw [he]; exact MT.none, by simp, h1⟩
 refine bd fun b1 hb1 hd1 => ?_
 refine bd fun b2 hb2 hd2 => ?_
 refine ax (.int .i64 (if gt t = true then ((cY t : Nat) : Int) else 0)) (fun _ a b _ _ => uv hK (Nat.le_trans hn a.next) hR b (hG.keep a.ro) (hK.still _ _ a hk)) rfl rfl ?_
 refine gP rfl rfl rfl ?_
 refine dA rfl (fun c2 => ?_) (fun c2 => ?_)
 ·have hv : ¬ gt t = true := fun h => by rw [if_pos h] at c2; omega
  exact aE fun s1 h1 h2 h3 h4 => no h1 (by unfold HX; rw [if_neg hv])
 have hv : gt t = true := by
  cases hv : gt t with
  | true => rfl
  | false => rw [hv] at c2; exact absurd rfl c2
 refine eL rfl (fun s1 _ _ => hB.len s1) rfl ?_
 refine qw rfl rfl rfl ?_
 refine dA rfl (fun c3 => ?_) (fun c3 => ?_)
 ·exact aE fun s1 h1 h2 h3 h4 => no h1 (by unfold HX; rw [if_pos hv, if_pos (by omega)])
 have hap : HX l t = if MA l [] = true then (if gt (iS l t 0).1 = true then ((iS l t 0).1, 0) else (.mk [] [], 39)) else (.mk [] [], 1) := by unfold HX; rw [if_pos hv, if_neg (by omega)]
 refine jb fun s3 j1 j2 j3 j4 => ?_
 have hal := Fw.alloc [] j2 (.map [] 0)
 refine ⟨[.map s3.next], _, s3.alloc (.map [] 0), [s3.next], fun s => MP s s3.next [], inferInstance, rfl, rfl, rfl, hal.mono (by simp), dP, bT _ _, fun g hg => ?_, ?_⟩
 ·simp at hg; subst hg; rw [S.next_alloc]; exact ⟨by omega, .inr (Nat.le_refl _)⟩
 have hmn : s.next ≤ s3.next := j1.next
 generalize s3.next = mm at hmn
 refine eL rfl (fun s1 _ _ => hB.len s1) rfl ?_
 refine jP (PA K l bv nm rw mm b1 b2) l.length ⟨0, [], by omega, rfl, rfl, rfl, rfl, rfl, trivial, (fun p hp => by cases hp), rfl, rfl⟩ dP ?_
 rintro j _ _ _ _ ⟨i, M, hi, rfl, rfl, rfl, rfl, rfl, hM, hkm, hml, hbo⟩ - - -
 refine jO rfl rfl rfl ?_
 refine dA rfl (fun c4 => ?_) (fun c4 => ?_)
 ·obtain ⟨⟨x, tx⟩, hx, hd⟩ := et (show i < l.length by omega)
  rw [hd] at hbo
  simp only [MA] at hbo
  obtain ⟨p, nm1, rw1, hp, hld, hxb, hxl, hR1⟩ := hB.at hx
  have ho1 := hR1.one
  have hp1 := nW tx
  have hlk := hM.lk (mm := mm) (K' := fun s => K s ∧ MP s mm M) hkm (fun _ h => h)
  obtain ⟨nm', rw', hn1, hr1, hRl, hdo⟩ := hlk x hxb
  have hkk : ∀ s1, Fw [] s s1 → K s1 := fun s1 h1 => hK.still _ _ h1 hk
  have htk : l.take (i + 1) = l.take i ++ [(x, tx)] := by rw [List.take_add_one, hx]; rfl
  have key : ∀ (q : Bool) (b3 b4 : Nat), (q = false ↔ (aK x = 4 ∧ gt tx = true ∧ x ∉ (l.take i).map (·.1))) →
   ah au [] s (TE (HX l t) T0 s) km ⟨[.map mm, bv, .int .i64 ((l.length : Nat) : Int), .int .i64 ((i : Nat) : Int), .bool q, nm, rw, .str [], .nilslice, .str x, nm1, rw1], [b1, b2, b3]⟩ [mm] (fun s => MP s mm M) [fun vs bs D U => ∃ j', j' < l.length - i ∧ PA K l bv nm rw mm b1 b2 j' vs bs D U] := by
   intro q b3 b4 hq
   refine aI rfl (fun c1 => ?_) (fun c1 => ?_)
   ·refine aE fun s1 h1 h2 h3 h4 => no h1 ?_
    rw [hap, if_neg]
    intro hb
    rw [hb] at hbo
    simp only [Bool.and_eq_true, decide_eq_true_eq] at hbo
    have := hq.2 ⟨hbo.1.1.1, hbo.1.1.2, hbo.1.2⟩
    rw [this] at c1; cases c1
   ·obtain ⟨q1, q2, q3⟩ := hq.1 c1
    refine jb fun s4 k1 k2 k3 k4 => ?_
    obtain ⟨s5, hrun, hmp, hf, hml2⟩ := MP.upd k3 k2 hkm hxb (.agg [nm1, rw1]) Tryz.underlying78
    have hnew : gd x (.agg [nm1, rw1]) M = M ++ [(x, .agg [nm1, rw1])] := by
     refine np _ ?_
     rcases hM.get x with ⟨t', nm', rw', h1, h2, h3⟩ | ⟨h1, h2⟩
     ·exact absurd (vd.1 (by rw [h2]; rfl)) q3
     ·exact h1
    refine ⟨[], _, s5, [mm], fun s => MP s mm (gd x (.agg [nm1, rw1]) M), inferInstance, rfl, rfl, hrun, hf, dP, hmp, fun g hg => ?_, ?_⟩
    ·simp at hg; subst hg; exact ⟨hml2, .inl (by simp)⟩
    refine ed (r := ((i + 1 : Nat) : Int)) rfl rfl (wI (by omega)) rfl ?_
    refine kT rfl dP ⟨l.length - (i + 1), by omega, i + 1, _, by omega, rfl, rfl, rfl, rfl, rfl, ?_, hkm.set hxb _, ?_, ?_⟩
    ·rw [hnew, htk]; exact rX.snoc hR1 hM
    ·rw [hnew, List.length_append, hml]; rfl
    ·rw [htk, List.map_append, ← hbo, decide_eq_true q1, q2, decide_eq_true q3]; rfl
  refine aD (.ptr p) rfl (fun _ _ _ _ _ => hp) rfl ?_
  refine h_askN [.str x, nm1, rw1] (.agg [.str x, nm1, rw1]) rfl (by simp [aA, ho1.1, ho1.2, nZ]) (fun a b _ _ _ => by
   show gc (eI Tryz.prog a 56 (some (.ptr p))) = _
   rw [aX, Tr, hld a (hkk a b)]; rfl) rfl ?_
  refine bd fun b3 hb3 hd3 => ?_
  refine h_askN [nm', rw', .bool (bX x (l.take i)).isSome] (.tuple [.agg [nm', rw'], .bool (bX x (l.take i)).isSome]) rfl (by simp [aA, hn1, hr1]; rfl) (fun a b _ c _ => hdo a ⟨hkk a b, c rfl⟩) rfl ?_
  refine bd fun b4 hb4 hd4 => ?_
  have stb0 := @dP mm M
  refine aI rfl (fun c5 => ?_) (fun c5 => ?_)
  ·refine ib (fun vs bs D U => vs = [.map mm, bv, .int .i64 ((l.length : Nat) : Int), .int .i64 ((i : Nat) : Int), .bool true, nm, rw, .str [], .nilslice, .str x, nm1, rw1] ∧ bs = [b1, b2, b3] ∧ D = [mm] ∧ U = (fun s => MP s mm M)) ⟨rfl, rfl, rfl, rfl⟩ dP ?_
   rintro _ _ _ _ ⟨rfl, rfl, rfl, rfl⟩ - - -
   exact key true b3 b4 ⟨fun h => (by cases h), fun h => absurd (vd.1 c5) h.2.2⟩
  ·have hnot : x ∉ (l.take i).map (·.1) := fun h => by rw [vd.2 h] at c5; cases c5
   refine ax (.bool (decide (aK x = 4))) (fun _ a b _ _ => Fm hxb hxl b (hG.keep a.ro)) rfl rfl ?_
   refine fl rfl rfl ?_
   refine aI rfl (fun c6 => ?_) (fun c6 => ?_)
   ·refine ib (fun vs bs D U => vs = [.map mm, bv, .int .i64 ((l.length : Nat) : Int), .int .i64 ((i : Nat) : Int), .bool true, nm, rw, .str [], .nilslice, .str x, nm1, rw1] ∧ bs = [b1, b2, b3] ∧ D = [mm] ∧ U = (fun s => MP s mm M)) ⟨rfl, rfl, rfl, rfl⟩ dP ?_
    rintro _ _ _ _ ⟨rfl, rfl, rfl, rfl⟩ - - -
    exact key true b3 b4 ⟨fun h => (by cases h), fun h => by rw [decide_eq_true h.1] at c6; cases c6⟩
   ·have h4k : aK x = 4 := by simpa using c6
    refine ax (.int .i64 (if gt tx = true then ((cY tx : Nat) : Int) else 0)) (fun a b c _ _ => uv hK (Nat.le_trans hn b.next) hR1 c (hG.keep b.ro) (hkk a b)) rfl rfl ?_
    refine gP rfl rfl rfl ?_
    refine ib (fun vs bs D U => vs = [.map mm, bv, .int .i64 ((l.length : Nat) : Int), .int .i64 ((i : Nat) : Int), .bool (decide ((if gt tx = true then ((cY tx : Nat) : Int) else 0) = 0)), nm, rw, .str [], .nilslice, .str x, nm1, rw1] ∧ bs = [b1, b2, b3] ∧ D = [mm] ∧ U = (fun s => MP s mm M)) ⟨rfl, rfl, rfl, rfl⟩ dP ?_
    rintro _ _ _ _ ⟨rfl, rfl, rfl, rfl⟩ - - -
    refine key _ b3 b4 ⟨fun h => ⟨h4k, ?_, hnot⟩, fun h => decide_eq_false (by rw [if_pos h.2.1]; omega)⟩
    cases hvx : gt tx with
    | true => rfl
    | false => rw [hvx] at h; simp at h
 ·have hil : i = l.length := by omega
  subst hil
  rw [List.drop_length] at hbo
  simp only [MA] at hbo
  rw [List.take_length] at hM
  have hap2 : HX l t = if gt (iS l t 0).1 = true then ((iS l t 0).1, 0) else (.mk [] [], 39) := by rw [hap, if_pos hbo.symm]
  have hbok := Mz hbo.symm
  refine bd fun b5 hb5 hd5 => ?_
  refine ec fun s1 k1 k2 k3 k4 => ?_
  have g5 : s1.get b5 = some (xF 0) := k4.1
  have hmp : s1.get mm = some (.map (ru M 0) M.length) := k3
  have hne : mm ≠ b5 := fun h => by subst h; rw [hmp] at g5; cases g5
  have hml : mm < s1.next := k2 mm _ hmp
  have hKf : Kf (fun s => K s ∧ MP s mm M) b5 s1.next := by
   intro F a b hF hf hk
   refine ⟨hK F a b (fun g hg => ?_) hf hk.1, hf.keep mm _ (fun h => ?_) hk.2⟩
   ·have := k1.next
    rcases hF g hg with h | h <;> omega
   ·rcases hF mm h with h | h
    ·exact hne h
    ·omega
  have hnil : ∀ x t', bX x l = some t' → ∀ N, MM 44 tp .nilmap (fun s => K s ∧ MP s mm M) T0 b5 s1.next N := fun x t' hx N => by
   have := Ct (Ko := T0) hKf Fj rfl (m := []) (fun x t h => by cases h) (fun x t h => by cases h) N
   rw [show (tp : Ty → Nat → Ty × Nat) = iS [] from funext fun t => funext fun c => (AR t c).symm]
   exact this
  have hsz : ∀ x t', bX x l = some t' → cY t' ≤ 99999 := fun x t' hx => GS (hbok x t' hx).2
  have hle := OU (m := l) t 0
  have hsb : cY (fO l t) ≤ 4611686018427387903 := by
   have h1 := Kz (m := l) (B := 2000) (by omega) (fun x t' hx => (bu (hbok x t' hx).2).1) t
   have h2 := (bu hv).1
   have h3 : cY t * 2000 ≤ 2000 * 2000 := Nat.mul_le_mul_right _ h2
   omega
  obtain ⟨v, s2, hcall, nm2, rw2, G, rfl, hMT, hGn, hc2, hf⟩ := Ct (Ko := T0) hKf (hM.lk hkm fun _ h => h) rfl hsz hnil (cY t) t 0 nm rw s1 (Nat.le_refl _) (GS hv) (hR.mono fun _ h => h.1) k2 ⟨hK.still _ _ k1 hk, k3⟩ (Nat.le_refl _) g5 (by omega)
  have hoM := hMT.one
  refine .inl ⟨[.int .i64 (((iS l t 0).2 : Nat) : Int), nm2, rw2], _, s2, G, MT T0 G (iS l t 0).1 nm2 rw2, inferInstance, rfl, by simp [aA, hoM.1, hoM.2, fD], hcall, hf.mono (by simp [fk]; exact .inl rfl), ⟨hc2, trivial⟩, MT.stb, hMT, fun g hg => ⟨hMT.2 g hg, .inr (hGn g hg)⟩, ?_⟩
  refine bd fun b6 hb6 hd6 => ?_
  refine ax (.int .i64 (if gt (iS l t 0).1 = true then ((cY (iS l t 0).1 : Nat) : Int) else 0)) (fun _ a b c _ => uv (c.kn Pc (Nat.zero_le _)) (Nat.le_refl _) c.1 b (hG.keep a.ro) ⟨trivial, KB.refl _ _⟩) rfl rfl ?_
  refine gP rfl rfl rfl ?_
  have hpo := nW (iS l t 0).1
  refine dA rfl (fun c7 => ?_) (fun c7 => ?_)
  ·have hvo : ¬ gt (iS l t 0).1 = true := fun h => by rw [if_pos h] at c7; omega
   exact aE fun s1 h1 h2 h3 h4 => no h1 (by rw [hap2, if_neg hvo])
  ·have hvo : gt (iS l t 0).1 = true := by
    cases hv : gt (iS l t 0).1 with
    | true => rfl
    | false => rw [hv] at c7; exact absurd rfl c7
   have hap3 : HX l t = ((iS l t 0).1, 0) := by rw [hap2, if_pos hvo]
   exact aE fun s4 h1 h2 h3 h4 => ⟨_, _, rfl, nm2, rw2, G, by rw [hap3]; rfl, by rw [hap3]; exact h3, fun g hg => Nat.le_trans k1.next (hGn g hg), h1⟩
end
mutual
def ep : Ty → Ty → Bool
 | .mk a l, .mk b q => decide (a = b) && decide (l.length = q.length) && eZ l q
def eZ : List Ty → List Ty → Bool
 | t :: r, u :: q => ep t u && eZ r q
 | _, _ => true
end
mutual
theorem nY : ∀ (t u : Ty), ep t u = true ↔ t = u
 | .mk a l, .mk b q => by
  simp only [ep, Bool.and_eq_true, decide_eq_true_eq, Ty.mk.injEq]
  constructor
  ·rintro ⟨⟨h1, h2⟩, h3⟩; exact ⟨h1, (pf l q h2).1 h3⟩
  ·rintro ⟨h1, h2⟩; subst h2; exact ⟨⟨h1, rfl⟩, (pf l l rfl).2 rfl⟩
theorem pf : ∀ (l q : List Ty), l.length = q.length → (eZ l q = true ↔ l = q)
 | [], [], _ => by simp only [eZ]
 | [], _ :: _, h => by simp at h
 | _ :: _, [], h => by simp at h
 | t :: r, u :: q, h => by
  simp only [eZ, Bool.and_eq_true, List.cons.injEq]
  rw [nY t u, pf r q (by simpa using h)]
end
theorem pg (t : Ty) : ep t t = true := (nY t t).2 rfl
mutual
def uT (vs : List (List Nat)) : Ty → Ty → List (List Nat × Ty) → Option (List (List Nat × Ty))
 | .mk a l, u, m =>
  if a ∈ vs then (match bX a m with
   | some x => if ep x u = true then some m else none
   | none => some (m ++ [(a, u)]))
  else match u with
   | .mk b q => if a = b ∧ l.length = q.length then lj vs l q m else none
def lj (vs : List (List Nat)) : List Ty → List Ty → List (List Nat × Ty) → Option (List (List Nat × Ty))
 | t :: r, u :: q, m => match uT vs t u m with
  | some m' => lj vs r q m'
  | none => none
 | _, _, m => some m
end
theorem tQ {α : Type} {l : List α} {i : Nat} {x : α} (h : l[i]? = some x) : l.drop i = x :: l.drop (i + 1) := by
 obtain ⟨y, h1, h2⟩ := et (List.getElem?_eq_some_iff.1 h).1
 rw [h] at h1; cases h1; exact h2
section
variable {K : S → Prop}
theorem SA {Kq : S → Prop} {D : List Nat} (hK : ∀ s s', Fw D s s' → Kq s → Kq s') (hKq : ∀ s, Kq s → K s) {l q : List Ty} {v w : V} {cs cs' : List (List V)} (hrow : jq K 2 v cs) (hts : dS K l cs) (hrow' : jq K 2 w cs') (hts' : dS K q cs') {f : V} (hf1 : f.one = true) (P : Nat → S → Prop) (hP : ∀ i, iA D (P i)) (N : Prop)
 (hN : l.length ≠ q.length → N) {s : S}
 (step : ∀ i t u nm rw nm' rw' s1, l[i]? = some t → q[i]? = some u → gY K t nm rw → gY K u nm' rw' → WF s1 → Kq s1 → P i s1 → Fw D s s1 → ∃ b s2, DT au f [.agg [nm, rw], .agg [nm', rw']] s1 (.bool b) s2 ∧ Fw D s1 s2 ∧ (∃ P', iA D P' ∧ P' s2 ∧ ((b = true ∧ ∀ s, P' s → P (i + 1) s) ∨ (b = false ∧ N))))
 (hw : WF s) (hk : Kq s) (hp : P 0 s) (hD : ∀ g ∈ D, g < s.next) : Cw au 75 [v, w, f] s fun r s' => ∃ b, r = .bool b ∧ Fw D s s' ∧ (b = true → P l.length s' ∧ l.length = q.length) ∧ (b = false → N) := by
 have hlt := hrow.lt
 have hlen := hts.len
 have hlt' := hrow'.lt
 have hlen' := hts'.len
 refine aL (bb (C := Dz) (e := ⟨[v, w, f], []⟩) (F := D) (D := D) (U := P 0) (dn rfl rfl rfl) Tryz.func75 rfl (by kernel_rfl) KK rfl ⟨rfl, by simp [aA, hrow.one, hrow'.one, hf1], rfl⟩ rfl hw rfl (by simp) trivial (hP 0) hp (fun g hg => ⟨hD g hg, hg, by simp⟩) ?_)
 refine eL rfl (fun s1 _ _ => hrow.len gz s1) rfl ?_
 refine eL rfl (fun s1 _ _ => hrow'.len gz s1) rfl ?_
 refine sG rfl rfl rfl ?_
 refine dA rfl (fun c1 => ?_) (fun c1 => ?_)
 ·exact aE fun s1 h1 h2 h3 h4 => ⟨_, _, rfl, false, rfl, h1, fun h => (by cases h), fun _ => hN (fun h => c1 (by rw [hlen, hlen', h]))⟩
 ·have hll : l.length = q.length := by omega
  refine eL rfl (fun s1 _ _ => hrow.len gz s1) rfl ?_
  refine jP (fun j vs bs D' U' => ∃ i, i ≤ l.length ∧ j = l.length - i ∧ vs = [w, f, v, .int .i64 ((cs.length : Nat) : Int), .int .i64 ((i : Nat) : Int)] ∧ bs = [] ∧ D = D' ∧ U' = P i) l.length ⟨0, by omega, rfl, rfl, rfl, rfl, rfl⟩ (hP 0) ?_
  rintro j _ _ _ _ ⟨i, hi, rfl, rfl, rfl, rfl, rfl⟩ - - -
  refine jO rfl rfl rfl ?_
  refine dA rfl (fun c2 => ?_) (fun c2 => ?_)
  ·obtain ⟨x, hx, hd⟩ := et (show i < l.length by omega)
   obtain ⟨y, hy, hd'⟩ := et (show i < q.length by omega)
   obtain ⟨nm1, rw1, hx1, hR1⟩ := hts.at hx
   obtain ⟨p, hp, hld⟩ := hrow.at gz fx hx1
   obtain ⟨nm2, rw2, hx2, hR2⟩ := hts'.at hy
   obtain ⟨p', hp', hld'⟩ := hrow'.at gz fx hx2
   have ho1 := hR1.one
   have ho2 := hR2.one
   refine aD (.ptr p) rfl (fun _ _ _ _ _ => hp) rfl ?_
   refine h_askN [nm1, rw1] (.agg [nm1, rw1]) rfl (by simp [aA, ho1.1, ho1.2]) (fun a b _ _ _ => lm (hld a (hKq _ (hK _ _ b hk)))) rfl ?_
   refine bd fun b1 hb1 hd1 => ?_
   refine aD (.ptr p') rfl (fun _ _ _ _ _ => hp') rfl ?_
   refine h_askN [nm2, rw2] (.agg [nm2, rw2]) rfl (by simp [aA, ho2.1, ho2.2]) (fun a b _ _ _ => lm (hld' a (hKq _ (hK _ _ b hk)))) rfl ?_
   refine bd fun b2 hb2 hd2 => ?_
   refine HG fun s1 k1 k2 k3 k4 => ?_
   obtain ⟨b, s2, hcall, hf, P', hst, hp2, hor⟩ := step i x y nm1 rw1 nm2 rw2 s1 hx hy hR1 hR2 k2 (hK _ _ k1 hk) k3 k1
   refine ⟨[.bool b], _, s2, D, P', inferInstance, rfl, rfl, hcall, hf, hst, hp2, fun g hg => ⟨Nat.lt_of_lt_of_le (hD g hg) (Nat.le_trans k1.next hf.next), .inl hg⟩, ?_⟩
   refine fl rfl rfl ?_
   refine aI rfl (fun c3 => ?_) (fun c3 => ?_)
   ·have hb0 : b = false := by simpa using c3
    subst hb0
    rcases hor with ⟨h, _⟩ | ⟨_, h⟩
    ·cases h
    ·exact aE fun s1 h1 h2 h3 h4 => ⟨_, _, rfl, false, rfl, h1, fun h => (by cases h), fun _ => h⟩
   ·have hb0 : b = true := by simpa using c3
    subst hb0
    rcases hor with ⟨_, h⟩ | ⟨h, _⟩
    ·refine ed (r := ((i + 1 : Nat) : Int)) rfl rfl (wI (by omega)) rfl ?_
     exact ⟨_, P (i + 1), rfl, hP (i + 1), fun _ _ _ hs => h _ hs, ⟨l.length - (i + 1), by omega, i + 1, by omega, rfl, rfl, rfl, rfl, rfl⟩⟩
    ·cases h
  ·have hil : i = l.length := by omega
   subst hil
   exact aE fun s1 h1 h2 h3 h4 => ⟨_, _, rfl, true, rfl, h1, fun _ => ⟨h3, hll⟩, fun h => by cases h⟩
theorem Tz (args : List V) (s : S) : fU au 74 args s = some (.enter 74 args s) := by kernel_rfl
theorem SC (args : List V) (s : S) : fU au 76 args s = some (.enter 76 args s) := by kernel_rfl
theorem PO (hK : fJ K) : ∀ (N : Nat) (t u : Ty) (nm rw nm' rw' : V) (s : S), cY t ≤ N → gY K t nm rw → gY K u nm' rw' → WF s → K s → Cw au 74 [.agg [nm, rw], .agg [nm', rw']] s fun v s' => v = .bool (ep t u) ∧ Fw [] s s' := by
 intro N
 induction N with
 | zero => intro t u nm rw nm' rw' s h; cases t; simp only [cY] at h; omega
 | succ N ih =>
  intro t u nm rw nm' rw' s hN hR hR' hw hk
  have ho := hR.one
  have ho' := hR'.one
  refine aL (bb (C := yU) (e := ⟨[nm, rw, nm', rw'], []⟩) (F := []) (dn rfl rfl rfl) Tryz.func74 rfl (by kernel_rfl) Iw rfl ⟨rfl, by simp [aA, ho.1, ho.2, ho'.1, ho'.2], rfl⟩ rfl hw rfl (by simp) trivial ay trivial (by simp) ?_)
  obtain ⟨name, args⟩ := t
  obtain ⟨name', args'⟩ := u
  simp only [gY] at hR hR'
  obtain ⟨rfl, hb, hbl, cs, hrow, hts⟩ := hR
  obtain ⟨rfl, hb', hbl', cs', hrow', hts'⟩ := hR'
  simp only [cY] at hN
  refine bd fun b1 hb1 hd1 => ?_
  refine bd fun b2 hb2 hd2 => ?_
  refine rN rfl rfl hb hb' rfl ?_
  refine dA rfl (fun c1 => ?_) (fun c1 => ?_)
  ·subst c1
   refine ax (.bool (ep (.mk name args) (.mk name args'))) (fun s1 h1 h2 h3 h4 => ?_) rfl rfl ?_
   ·refine (SA (K := K) (Kq := K) (D := []) hK (fun _ h => h) hrow hts hrow' hts' (f := .func (.func 74) [] []) rfl (fun i _ => args.length = args'.length → eZ (args.drop i) (args'.drop i) = eZ args args') (fun i => fun _ _ h _ _ => h) (ep (.mk name args) (.mk name args') = false)
     (fun h => ?_) (fun i x y n1 r1 n2 r2 s3 hx hy hR1 hR2 hw3 hk3 hp3 hf3 => ?_) h2 (hK _ _ h1 hk) (fun _ => by simp) (by simp)).mono fun v s' ⟨b, hv, hf, ht, hn⟩ => ?_
    ·simp only [ep, decide_eq_false h, Bool.and_false, Bool.false_and]
    ·have hsz := lI hx
     obtain ⟨v3, s4, hcall, rfl, hf4⟩ := ih x y n1 r1 n2 r2 s3 (by omega) hR1 hR2 hw3 hk3
     have hd := tQ hx
     have hd' := tQ hy
     refine ⟨_, s4, .inl ⟨74, [], [], rfl, Tz _ _, hcall⟩, hf4, (fun _ => args.length = args'.length → eZ (args.drop i) (args'.drop i) = eZ args args'), fun _ _ h _ _ => h, hp3, ?_⟩
     cases hxy : ep x y with
     | true =>
      refine .inl ⟨rfl, fun _ h hl => ?_⟩
      have := h hl
      rw [hd, hd'] at this
      simpa only [eZ, hxy, Bool.true_and] using this
     | false =>
      refine .inr ⟨rfl, ?_⟩
      by_cases hl : args.length = args'.length
      ·have := hp3 hl
       rw [hd, hd'] at this
       simp only [eZ, hxy, Bool.false_and] at this
       simp only [ep, ← this, Bool.and_false]
      ·simp only [ep, decide_eq_false hl, Bool.and_false, Bool.false_and]
    ·subst hv
     refine ⟨?_, hf⟩
     cases b with
     | true =>
      obtain ⟨h5, h6⟩ := ht rfl
      have := h5 h6
      rw [h6, List.drop_length, ← h6, List.drop_length] at this
      simp only [eZ] at this
      simp only [ep, ← this, h6, decide_true, Bool.and_self]
     | false => rw [hn rfl]
   exact aE fun s1 h1 h2 h3 h4 => ⟨_, _, rfl, rfl, h1⟩
  ·exact aE fun s1 h1 h2 h3 h4 => ⟨_, _, rfl, by simp only [ep, decide_eq_false c1, Bool.false_and]; rfl, h1⟩
end
theorem rX.lk2 {K K' : S → Prop} {mm : Nat} {M : List (List Nat × V)} {m : List (List Nat × Ty)} (h : rX K M m) (hk : kZ M) (hK : ∀ s, K' s → MP s mm M) (x : List Nat) (hx : Bytes x) : ∃ nm rw : V, nm.one = true ∧ rw.one = true ∧ (∀ t, bX x m = some t → gY K t nm rw) ∧
 ∀ s, K' s → bZ Tryz.prog s 78 (some (.map mm)) (some (.str x)) true = some (.tuple [.agg [nm, rw], .bool (bX x m).isSome]) := by
 have look : ∀ s, K' s → bZ Tryz.prog s 78 (some (.map mm)) (some (.str x)) true = qz Tryz.prog 25 true (some (fg x M)) := fun s hs => by
  have h' : s.get mm = some (.map (ru M 0) M.length) := hK s hs
  simp only [bZ, Tryz.underlying78, nE, h', jg, cond_true, qB (fun a b ha hb => io s a b ha hb) hx M 0 hk]
 rcases h.get x with ⟨t, nm, rw, h1, h2, h3⟩ | ⟨h1, h2⟩
 ·refine ⟨nm, rw, h3.one.1, h3.one.2, fun t' ht' => ?_, fun s hs => ?_⟩
  ·rw [h2] at ht'; cases ht'; exact h3
  ·rw [look s hs, h1, h2]; rfl
 ·refine ⟨.str [], .nilslice, rfl, rfl, fun t' ht' => (by rw [h2] at ht'; cases ht'), fun s hs => ?_⟩
  rw [look s hs, h1, h2]; exact DX
structure TN (vs : List (List Nat)) (Mo : List (List Nat × V)) : Prop where
 keys : kZ Mo
 get : ∀ x, (fg x Mo).getD (.int .i64 0) = .int .i64 (if x ∈ vs then 1 else 0)
def MO (K : S → Prop) (vs : List (List Nat)) (mo mm nn N : Nat) : Prop := ∀ (t u : Ty) (m : List (List Nat × Ty)) (M : List (List Nat × V)) (nm rw nm' rw' : V) (s : S), cY t ≤ N → gY K t nm rw → gY K u nm' rw' → WF s → K s → nn ≤ s.next → MP s mm M → rX K M m → kZ M →
 Cw au 51 [.map mo, .map mm, .agg [nm, rw], .agg [nm', rw']] s fun v s' => Fw [mm] s s' ∧ ((∃ m' M', uT vs t u m = some m' ∧ v = .bool true ∧ MP s' mm M' ∧ rX K M' m' ∧ kZ M') ∨ (uT vs t u m = none ∧ v = .bool false))
section
variable {K : S → Prop} {vs : List (List Nat)} {mo mm nn : Nat} {Mo : List (List Nat × V)}
theorem NM {N : Nat} (ih : MO K vs mo mm nn N) {t u : Ty} {m : List (List Nat × Ty)} {M : List (List Nat × V)} {nm rw nm' rw' : V} {b1 b2 : Nat} {s : S} (hN : cY t ≤ N) (hR : gY K t nm rw) (hR' : gY K u nm' rw') (hw : WF s) (hK : Kf K mm nn) (hn : nn ≤ s.next) (hb1 : nn ≤ b1) (hb2 : nn ≤ b2) (hk : K s) (hm : MP s mm M) (hM : rX K M m) (hkm : kZ M)
 (g1 : s.get b1 = some (.cells 86 false 1 [⟨0, 0, [.map mo]⟩])) (g2 : s.get b2 = some (.cells 78 false 1 [⟨0, 0, [.map mm]⟩])) :
 Cw au 76 [.agg [nm, rw], .agg [nm', rw'], .ptr ⟨b1, 0, 0⟩, .ptr ⟨b2, 0, 0⟩] s fun v s' => Fw [mm] s s' ∧ ((∃ m' M', uT vs t u m = some m' ∧ v = .bool true ∧ MP s' mm M' ∧ rX K M' m' ∧ kZ M') ∨ (uT vs t u m = none ∧ v = .bool false)) := by
 have ho := hR.one
 have ho' := hR'.one
 have hml : mm < s.next := hw mm _ hm
 have hb12 : b1 ≠ b2 := fun h => by subst h; rw [g1] at g2; cases g2
 have hb1m : b1 ≠ mm := fun h => by subst h; have : s.get b1 = some (.map (ru M 0) M.length) := hm; rw [g1] at this; cases this
 have hb2m : b2 ≠ mm := fun h => by subst h; have : s.get b2 = some (.map (ru M 0) M.length) := hm; rw [g2] at this; cases this
 refine aL (bb (C := sS) (e := ⟨[nm, rw, nm', rw', .map mo, .map mm], [b1, b2]⟩) (F := [b1, b2, mm]) (D := [mm]) (U := fun s => MP s mm M) (dn rfl rfl rfl) Tryz.func76 rfl (by kernel_rfl) Cf rfl ⟨rfl, by simp [aA, ho.1, ho.2, ho'.1, ho'.2]; exact ⟨rfl, rfl⟩, rfl⟩ rfl hw (by simp [iM, hb12]) (by simp) ⟨g1, g2, trivial⟩ dP hm (fun g hg => by simp at hg; subst hg; exact ⟨hml, by simp, by simp [Ne.symm hb1m, Ne.symm hb2m]⟩) ?_)
 have fin : ∀ s', Fw [b1, b2, mm] s s' → s'.get b1 = some (.cells 86 false 1 [⟨0, 0, [.map mo]⟩]) → s'.get b2 = some (.cells 78 false 1 [⟨0, 0, [.map mm]⟩]) → Fw [mm] s s' := fun s' hf h1 h2 =>
  (hf.strike (fun B hB => by rw [g1] at hB; cases hB; exact h1)).strike (fun B hB => by rw [g2] at hB; cases hB; exact h2)
 refine bd fun b3 hb3 hd3 => ?_
 refine bd fun b4 hb4 hd4 => ?_
 refine ec fun s1 k1 k2 k3 k4 => ?_
 have hk1 : K s1 := hK _ _ _ (by simp [hb1, hb2]) k1 hk
 obtain ⟨v, s2, hcall, hf, hor⟩ := ih t u m M nm rw nm' rw' s1 hN hR hR' k2 hk1 (Nat.le_trans hn k1.next) k3 hM hkm
 rcases hor with ⟨m', M', e1, rfl, e3, e4, e5⟩ | ⟨e1, rfl⟩
 ·refine .inl ⟨[.bool true], _, s2, [mm], fun s => MP s mm M', inferInstance, rfl, rfl, hcall, hf.mono (by simp [fk]), trivial, dP, e3, fun g hg => ?_, ?_⟩
  ·simp at hg; subst hg; exact ⟨Nat.lt_of_lt_of_le hml (Nat.le_trans k1.next hf.next), .inl (by simp)⟩
  exact aE fun s3 h1 h2 h3 h4 => ⟨_, _, rfl, fin s3 h1 h4.1 h4.2.1, .inl ⟨m', M', e1, rfl, h3, e4, e5⟩⟩
 ·refine .inl ⟨[.bool false], _, s2, [], T0, inferInstance, rfl, rfl, hcall, hf.mono (by simp [fk]), trivial, ay, trivial, by simp, ?_⟩
  exact aE fun s3 h1 h2 h3 h4 => ⟨_, _, rfl, fin s3 h1 h4.1 h4.2.1, .inr ⟨e1, rfl⟩⟩
theorem Qi (hK : Kf K mm nn) (hmn : mm ≠ mo) (hO : TN vs Mo) (hKo : ∀ s, K s → MP s mo Mo) : ∀ N, MO K vs mo mm nn N := by
 intro N
 induction N with
 | zero => intro t u m M nm rw nm' rw' s h; cases t; simp only [cY] at h; omega
 | succ N ih =>
  intro t u m M nm rw nm' rw' s hN hR hR' hw hk hn hm hM hkm
  have ho := hR.one
  have ho' := hR'.one
  have hml : mm < s.next := hw mm _ hm
  have hRu := hR'
  refine aL (bb (C := wb) (e := ⟨[.map mo, .map mm, nm, rw, nm', rw'], []⟩) (F := [mm]) (D := [mm]) (U := fun s => MP s mm M) (dn rfl rfl rfl) Tryz.func51 rfl (by kernel_rfl) ES rfl ⟨rfl, by simp [aA, ho.1, ho.2, ho'.1, ho'.2]; exact ⟨rfl, rfl⟩, rfl⟩ rfl hw rfl (by simp) trivial dP hm (fun g hg => by simp at hg; subst hg; exact ⟨hml, by simp, by simp⟩) ?_)
  have hkk : ∀ s1, Fw [mm] s s1 → K s1 := fun s1 h1 => hK _ _ _ (by simp) h1 hk
  obtain ⟨name, args⟩ := t
  obtain ⟨name', args'⟩ := u
  simp only [gY] at hR hR'
  obtain ⟨rfl, hb, hbl, cs, hrow, hts⟩ := hR
  obtain ⟨rfl, hb', hbl', cs', hrow', hts'⟩ := hR'
  simp only [cY] at hN
  refine bd fun b1 hb1 hd1 => ?_
  refine bd fun b2 hb2 hd2 => ?_
  refine bd fun b3 hb3 hd3 => ?_
  refine bd fun b4 hb4 hd4 => ?_
  refine aD (.int .i64 (if name ∈ vs then 1 else 0)) rfl (fun s1 h1 h2 h3 h4 => ?_) rfl ?_
  ·show bZ Tryz.prog s1 86 (some (.map mo)) (some (.str name)) false = _
   rw [(hKo s1 (hkk s1 h1)).look hO.keys hb, hO.get]
  refine qw rfl rfl rfl ?_
  refine dA rfl (fun c1 => ?_) (fun c1 => ?_)
  ·have hin : name ∈ vs := by
    by_cases h : name ∈ vs
    ·exact h
    ·rw [if_neg h] at c1; omega
   obtain ⟨nx, rx, hn1, hr1, hRl, hdo⟩ := hM.lk2 (mm := mm) (K' := fun s => MP s mm M) hkm (fun _ h => h) name hb
   refine h_askN [nx, rx, .bool (bX name m).isSome] (.tuple [.agg [nx, rx], .bool (bX name m).isSome]) rfl (by simp [aA, hn1, hr1]; rfl) (fun a _ _ b _ => hdo a (b rfl)) rfl ?_
   refine bd fun b5 hb5 hd5 => ?_
   refine fl rfl rfl ?_
   refine aI rfl (fun c2 => ?_) (fun c2 => ?_)
   ·have hno : bX name m = none := by
     cases hx : bX name m with
     | none => rfl
     | some x => rw [hx] at c2; cases c2
    have hsp : uT vs (.mk name args) (.mk name' args') m = some (m ++ [(name, .mk name' args')]) := by simp only [uT]; rw [if_pos hin, hno]
    refine jb fun s4 k1 k2 k3 k4 => ?_
    obtain ⟨s5, hrun, hmp, hf, hml2⟩ := MP.upd k3 k2 hkm hb (.agg [.str name', rw']) Tryz.underlying78
    have hnew : gd name (.agg [.str name', rw']) M = M ++ [(name, .agg [.str name', rw'])] := by
     refine np _ ?_
     rcases hM.get name with ⟨t', n1, r1, h1, h2, h3⟩ | ⟨h1, h2⟩
     ·rw [hno] at h2; cases h2
     ·exact h1
    refine ⟨[], _, s5, [mm], fun s => MP s mm (gd name (.agg [.str name', rw']) M), inferInstance, rfl, rfl, hrun, hf, dP, hmp, fun g hg => ?_, ?_⟩
    ·simp at hg; subst hg; exact ⟨hml2, .inl (by simp)⟩
    exact aE fun s3 h1 h2 h3 h4 => ⟨_, _, rfl, h1, .inl ⟨_, _, hsp, rfl, h3, by rw [hnew]; exact rX.snoc hRu hM, hkm.set hb _⟩⟩
   ·cases hx : bX name m with
    | none => rw [hx] at c2; cases c2
    | some x =>
     have hRx := hRl x hx
     refine ax (.bool (ep x (.mk name' args'))) (fun s1 h1 h2 h3 h4 => ?_) rfl rfl ?_
     ·exact PO (fun a b hf hk => hK _ _ _ (by simp) hf hk) (cY x) x _ nx rx _ _ s1 (Nat.le_refl _) hRx hRu h2 (hkk s1 h1)
     refine aE fun s3 h1 h2 h3 h4 => ⟨_, _, rfl, h1, ?_⟩
     cases hs : ep x (.mk name' args') with
     | true => exact .inl ⟨m, M, by simp only [uT]; rw [if_pos hin, hx]; simp only [hs, if_true], rfl, h3, hM, hkm⟩
     | false => exact .inr ⟨by simp only [uT]; rw [if_pos hin, hx]; simp only [hs]; rfl, rfl⟩
  ·have hin : name ∉ vs := fun h => by rw [if_pos h] at c1; omega
   have hsp : uT vs (.mk name args) (.mk name' args') m = if name = name' ∧ args.length = args'.length then lj vs args args' m else none := by simp only [uT]; rw [if_neg hin]
   refine rN rfl rfl hb hb' rfl ?_
   refine dA rfl (fun c3 => ?_) (fun c3 => ?_)
   ·refine ec fun s1 k1 k2 k3 k4 => ?_
    have hne1 : b1 ≠ mm := fun h => hd1 (by simp [h])
    have hne2 : b2 ≠ mm := fun h => hd2 (by simp [h])
    have hn1 := k1.next
    obtain ⟨v, s2, hcall, b, rfl, hf, htr, hfl⟩ := SA (K := K) (Kq := fun s => K s ∧ s.get b1 = some (.cells 86 false 1 [⟨0, 0, [.map mo]⟩]) ∧ s.get b2 = some (.cells 78 false 1 [⟨0, 0, [.map mm]⟩])) (D := [mm])
     (fun a b hf ⟨h1, h2, h3⟩ => ⟨hK _ _ _ (by simp) hf h1, hf.keep _ _ (by simp [hne1]) h2, hf.keep _ _ (by simp [hne2]) h3⟩) (fun _ h => h.1) hrow hts hrow' hts'
     (f := .func (.func 76) [] [.ptr ⟨b1, 0, 0⟩, .ptr ⟨b2, 0, 0⟩]) rfl (fun i s => ∃ m' M', (args.length = args'.length → lj vs (args.drop i) (args'.drop i) m' = lj vs args args' m) ∧ MP s mm M' ∧ rX K M' m' ∧ kZ M')
     (fun i a b ⟨m', M', e1, e2, e3, e4⟩ hk _ => ⟨m', M', e1, hk mm (by simp) _ e2, e3, e4⟩) (uT vs (.mk name args) (.mk name' args') m = none) (fun h => by rw [hsp, if_neg (fun hh => h hh.2)])
     (fun i x y n1 r1 n2 r2 s3 hx hy hR1 hR2 hw3 hk3 hp3 hf3 => by
      obtain ⟨m', M', e1, e2, e3, e4⟩ := hp3
      have hsz := lI hx
      have hd := tQ hx
      have hd' := tQ hy
      obtain ⟨v3, s4, hcall3, hf4, hor⟩ := NM ih (t := x) (u := y) (m := m') (M := M') (by omega) hR1 hR2 hw3 hK (by have := hf3.next; omega) (Nat.le_trans hn hb1) (Nat.le_trans hn hb2) hk3.1 e2 e3 e4 hk3.2.1 hk3.2.2
      rcases hor with ⟨m2, M2, f1, rfl, f3, f4, f5⟩ | ⟨f1, rfl⟩
      ·refine ⟨true, s4, .inl ⟨76, [], [.ptr ⟨b1, 0, 0⟩, .ptr ⟨b2, 0, 0⟩], rfl, SC _ _, hcall3⟩, hf4, (fun s => MP s mm M2), dP, f3, .inl ⟨rfl, fun s hs => ⟨m2, M2, fun hl => ?_, hs, f4, f5⟩⟩⟩
       have := e1 hl
       rw [hd, hd'] at this
       simpa only [lj, f1] using this
      ·refine ⟨false, s4, .inl ⟨76, [], [.ptr ⟨b1, 0, 0⟩, .ptr ⟨b2, 0, 0⟩], rfl, SC _ _, hcall3⟩, hf4, T0, (fun _ _ _ _ _ => trivial), trivial, .inr ⟨rfl, ?_⟩⟩
       rw [hsp]
       split
       ·rename_i hh
        have := e1 hh.2
        rw [hd, hd'] at this
        simp only [lj, f1] at this
        exact this.symm
       ·rfl)
     k2 ⟨hkk s1 k1, k4.1, k4.2.1⟩ ⟨m, M, fun _ => by simp, k3, hM, hkm⟩ (by simp; exact Nat.lt_of_lt_of_le hml hn1)
    cases b with
    | true =>
     obtain ⟨⟨m', M', e1, e2, e3, e4⟩, hl⟩ := htr rfl
     have e1 := e1 hl
     rw [List.drop_length] at e1
     simp only [lj] at e1
     refine .inl ⟨[.bool true], _, s2, [mm], fun s => MP s mm M', inferInstance, rfl, rfl, hcall, hf.mono (by simp [fk]), trivial, dP, e2, fun g hg => ?_, ?_⟩
     ·simp at hg; subst hg; exact ⟨Nat.lt_of_lt_of_le hml (Nat.le_trans k1.next hf.next), .inl (by simp)⟩
     exact aE fun s3 h1 h2 h3 h4 => ⟨_, _, rfl, h1, .inl ⟨m', M', by rw [hsp, if_pos ⟨c3, hl⟩, ← e1], rfl, h3, e3, e4⟩⟩
    | false =>
     refine .inl ⟨[.bool false], _, s2, [], T0, inferInstance, rfl, rfl, hcall, hf.mono (by simp [fk]), trivial, ay, trivial, by simp, ?_⟩
     exact aE fun s3 h1 h2 h3 h4 => ⟨_, _, rfl, h1, .inr ⟨hfl rfl, rfl⟩⟩
   ·exact aE fun s3 h1 h2 h3 h4 => ⟨_, _, rfl, h1, .inr ⟨by rw [hsp, if_neg (fun h => c3 h.1)], rfl⟩⟩
end
section
variable {K : S → Prop}
theorem KD (hK : fJ K) : ∀ (N : Nat) (t u : Ty) (nm rw nm' rw' : V) (s : S), cY t ≤ N → gY K t nm rw → gY K u nm' rw' → WF s → K s → Cw au 19 [.agg [nm, rw], .agg [nm', rw']] s fun v s' => v = .bool (ep t u) ∧ Fw [] s s' := by
 intro N
 induction N with
 | zero => intro t u nm rw nm' rw' s h; cases t; simp only [cY] at h; omega
 | succ N ih =>
  intro t u nm rw nm' rw' s hN hR hR' hw hk
  have ho := hR.one
  have ho' := hR'.one
  refine aL (bb (C := yT) (e := ⟨[nm, rw, nm', rw'], []⟩) (F := []) (dn rfl rfl rfl) Tryz.func19 rfl (by kernel_rfl) Iv rfl ⟨rfl, by simp [aA, ho.1, ho.2, ho'.1, ho'.2], rfl⟩ rfl hw rfl (by simp) trivial ay trivial (by simp) ?_)
  obtain ⟨name, args⟩ := t
  obtain ⟨name', args'⟩ := u
  simp only [gY] at hR hR'
  obtain ⟨rfl, hb, hbl, cs, hrow, hts⟩ := hR
  obtain ⟨rfl, hb', hbl', cs', hrow', hts'⟩ := hR'
  have hlen := hts.len
  have hlt := hrow.lt
  have hlen' := hts'.len
  have hlt' := hrow'.lt
  simp only [cY] at hN
  have key : ∀ (q : Bool) (b1 b2 : Nat) (L : List ck), (q = false ↔ name = name' ∧ args.length = args'.length) → ah au [] s (tW fun v s' => v = .bool (ep (.mk name args) (.mk name' args')) ∧ Fw [] s s') pc ⟨[.bool q, .str name, rw, .str name', rw'], [b1, b2]⟩ [] T0 L := by
   intro q b1 b2 L hq
   refine aI rfl (fun c1 => ?_) (fun c1 => ?_)
   ·refine aE fun s1 h1 h2 h3 h4 => ⟨_, _, rfl, ?_, h1⟩
    have hno : ¬ (name = name' ∧ args.length = args'.length) := fun h => by rw [hq.2 h] at c1; cases c1
    show V.bool false = _
    congr 1
    cases hs : ep (.mk name args) (.mk name' args') with
    | false => rfl
    | true => have := (nY _ _).1 hs; simp only [Ty.mk.injEq] at this; exact absurd ⟨this.1, by rw [this.2]⟩ hno
   ·obtain ⟨hn, hl⟩ := hq.1 c1
    subst hn
    have hsp : ep (.mk name args) (.mk name args') = eZ args args' := by simp only [ep, hl, decide_true, Bool.true_and]
    rw [hsp]
    refine tM (fun j vs bs => ∃ i, i ≤ args.length ∧ j = args.length - i ∧ vs = [.int .i64 ((i : Nat) : Int), .str name, rw, .str name, rw'] ∧ bs = [b1, b2] ∧ eZ (args.drop i) (args'.drop i) = eZ args args') args.length ⟨0, by omega, rfl, rfl, rfl, by simp⟩ ?_
    rintro j _ _ ⟨i, hi, rfl, rfl, rfl, hf⟩
    refine eL rfl (fun s1 _ _ => hrow.len gz s1) rfl ?_
    refine jO rfl rfl rfl ?_
    refine dA rfl (fun c2 => ?_) (fun c2 => ?_)
    ·obtain ⟨x, hx, hd⟩ := et (show i < args.length by omega)
     obtain ⟨y, hy, hd'⟩ := et (show i < args'.length by omega)
     rw [hd, hd'] at hf
     simp only [eZ] at hf
     obtain ⟨nm1, rw1, hx1, hR1⟩ := hts.at hx
     obtain ⟨p, hp, hld⟩ := hrow.at gz fx hx1
     obtain ⟨nm2, rw2, hx2, hR2⟩ := hts'.at hy
     obtain ⟨p', hp', hld'⟩ := hrow'.at gz fx hx2
     have ho1 := hR1.one
     have ho2 := hR2.one
     have hsz := lI hx
     refine aD (.ptr p) rfl (fun _ _ _ _ _ => hp) rfl ?_
     refine h_askN [nm1, rw1] (.agg [nm1, rw1]) rfl (by simp [aA, ho1.1, ho1.2]) (fun a b _ _ _ => lm (hld a (hK _ _ b hk))) rfl ?_
     refine aD (.ptr p') rfl (fun _ _ _ _ _ => hp') rfl ?_
     refine h_askN [nm2, rw2] (.agg [nm2, rw2]) rfl (by simp [aA, ho2.1, ho2.2]) (fun a b _ _ _ => lm (hld' a (hK _ _ b hk))) rfl ?_
     refine ax (.bool (ep x y)) (fun a b c _ _ => ih x y nm1 rw1 nm2 rw2 a (by omega) hR1 hR2 c (hK _ _ b hk)) rfl rfl ?_
     refine fl rfl rfl ?_
     refine aI rfl (fun c3 => ?_) (fun c3 => ?_)
     ·have h0 : ep x y = false := by simpa using c3
      exact aE fun s1 h1 h2 h3 h4 => ⟨_, _, rfl, by rw [← hf, h0]; rfl, h1⟩
     ·have h0 : ep x y = true := by simpa using c3
      rw [h0, Bool.true_and] at hf
      refine ed (r := ((i + 1 : Nat) : Int)) rfl rfl (wI (by omega)) rfl ?_
      exact tN (args.length - (i + 1)) rfl (by omega) ⟨i + 1, by omega, rfl, rfl, rfl, hf⟩
    ·have : i = args.length := by omega
     subst this
     rw [List.drop_length] at hf
     simp only [eZ] at hf
     exact aE fun s1 h1 h2 h3 h4 => ⟨_, _, rfl, by rw [← hf]; rfl, h1⟩
  refine bd fun b1 hb1 hd1 => ?_
  refine bd fun b2 hb2 hd2 => ?_
  refine Fs rfl rfl hb hb' rfl ?_
  refine aI rfl (fun c4 => ?_) (fun c4 => ?_)
  ·have hne : name ≠ name' := by simpa using c4
   exact bI (key true _ _ _ ⟨fun h => (by cases h), fun h => absurd h.1 hne⟩)
  ·have heq : name = name' := by simpa using c4
   refine eL rfl (fun s1 _ _ => hrow.len gz s1) rfl ?_
   refine eL rfl (fun s1 _ _ => hrow'.len gz s1) rfl ?_
   refine sG rfl rfl rfl ?_
   exact bI (key _ _ _ _ ⟨fun h => ⟨heq, by have := of_decide_eq_false h; omega⟩, fun h => decide_eq_false (by omega)⟩)
end
theorem MR {e sz : Nat} {s : S} {v : V} {cs : List (List V)} {o : Option Nat} (h : gx e sz s v cs.length cs.flatten o) (hs : ∀ x ∈ cs, x.length = sz) (hn : cs.length < 4611686018427387904) : jq (fun s => gx e sz s v cs.length cs.flatten o) sz v cs := by
 generalize hl : cs.length = n at h ⊢
 generalize hc : cs.flatten = fs at h ⊢
 cases h with
 | nil =>
  have : cs = [] := List.eq_nil_of_length_eq_zero hl
  subst this; exact .nil
 | row X nv rest n fs h1 h2 h3 =>
  refine .row _ _ _ _ hl.symm (by omega) fun i x hx s' hk => ?_
  cases hk with
  | row _ _ rest' _ _ g1 g2 g3 =>
   have hv : bg (⟨nv, 0, fs⟩ :: rest') nv = some ⟨nv, 0, fs⟩ := by simp only [bg, Nat.beq_refl, cond_true]
   simp only [loadCells, eK, g1, hv, DG, cond_true, Nat.sub_zero, Nat.zero_add]
   rw [← hc]
   exact re hs hx
def BG (cs : List (List V)) (o : Option Nat) (v : V) (s : S) : Prop := gx 56 3 s v cs.length cs.flatten o
theorem BG.nil (s : S) : BG [] none .nilslice s := gx.nil
theorem BG.one {cs : List (List V)} {o : Option Nat} {v : V} {s : S} (h : BG cs o v s) : v.one = true := gx.one h
theorem BG.stb {cs : List (List V)} {o : Option Nat} {v : V} : iA o.toList (BG cs o v) := fun _ _ h hk _ => gx.keep h (fun X B hX hB => hk X (by simp [hX]) B hB)
theorem BG.still {cs : List (List V)} {o : Option Nat} {v : V} : fJ (BG cs o v) := fun _ _ hf h => gx.fw h hf (by simp)
theorem BG.blk {cs : List (List V)} {o : Option Nat} {v : V} {s : S} (h : BG cs o v s) (hw : WF s) : ∀ g ∈ o.toList, g < s.next := fun g hg => by
 cases o with
 | none => simp at hg
 | some X => simp at hg; subst hg; exact gx.lt h hw
theorem BG.rdb {K : S → Prop} {m : List (List Nat × Ty)} {cs : List (List V)} {o : Option Nat} {v : V} {s : S} (h : BG cs o v s) (hB : gi K m cs) (hl : m.length < 4611686018427387904) : GF (fun s => K s ∧ BG cs o v s) m v :=
 ⟨cs, (MR h hB.three (by rw [hB.len]; exact hl)).mono fun _ h => h.2, hB.mono fun _ h => h.1⟩
theorem BG.app {cs : List (List V)} {x : List Nat} {nm rw : V} {o : Option Nat} {v : V} {s : S} (h : BG cs o v s) (hw : WF s) {b : Nat} (hb : s.get b = some (.cells 56 false 1 [⟨0, 0, [.str x, nm, rw]⟩])) (h1 : nm.one = true ∧ rw.one = true) (hl : cs.length ≤ 999999) :
 ∃ v' s' X, wG.run Tryz.prog s (.bif .append #[36, 36] [v, .slice ⟨b, 0, 0⟩ 0 1 (some 1) 3]) = some (v', s') ∧ BG (cs ++ [[.str x, nm, rw]]) (some X) v' s' ∧ Fw o.toList s s' ∧ X < s'.next ∧ (o = some X ∨ s.next ≤ X) := by
 obtain ⟨v', s', X, happ, hG2, hble, hor⟩ := gx.app OR h hw (c := some 1) hb rfl (by simp [h1.1, h1.2, nZ]) hl
 have hf : Fw o.toList s s' := by
  rcases hor with ⟨rfl, _, hf⟩ | ⟨rfl, hf⟩
  ·exact hf
  ·exact hf
 have hX : o = some X ∨ s.next ≤ X := by
  rcases hor with ⟨_, h, _⟩ | ⟨h, _⟩
  ·exact .inr (by omega)
  ·exact .inl h
 refine ⟨v', s', X, ?_, ?_, hf, hG2.lt (hf.wf hw), hX⟩
 ·show gK (ff (iz Tryz.prog 36 36 s v (.slice ⟨b, 0, 0⟩ 0 1 (some 1) 3))) = _
  rw [happ]; rfl
 ·unfold BG
  rw [List.length_append, List.flatten_append]
  simpa using hG2
theorem gi.snoc {K : S → Prop} {m : List (List Nat × Ty)} {cs : List (List V)} {x : List Nat} {t : Ty} {nm rw : V} (h : gi K m cs) (hx : Bytes x) (hxl : x.length < 4611686018427387904) (hR : gY K t nm rw) : gi K (m ++ [(x, t)]) (cs ++ [[.str x, nm, rw]]) := gi.app h ⟨nm, rw, [], rfl, hx, hxl, hR, rfl⟩
section
variable {K : S → Prop} {vs : List (List Nat)} {vv : V} {n : Nat}
end
abbrev tJ (m : List (List Nat × Ty)) : List (List Nat) := m.map (·.1)
theorem rz {x : List Nat} : ∀ {m m' : List (List Nat × Ty)}, bX x (m ++ m') = match bX x m with | some t => some t | none => bX x m'
 | [], m' => rfl
 | (k, t) :: r, m' => by
  simp only [List.cons_append, bX]
  split
  ·rfl
  ·exact rz
theorem eV {x : List Nat} : ∀ {m : List (List Nat × Ty)}, bX x m = none ↔ x ∉ tJ m
 | [] => by simp [bX]
 | (k, t) :: r => by
  have := eV (x := x) (m := r)
  by_cases hx : x = k
  ·subst hx; simp [bX]
  ·simp only [bX, if_neg hx, List.map_cons, List.mem_cons, not_or]
   rw [this]
   exact ⟨fun h => ⟨hx, h⟩, fun h => h.2⟩
theorem od {x : List Nat} {m : List (List Nat × Ty)} (h : x ∈ tJ m) : ∃ t, bX x m = some t := by
 cases hl : bX x m with
 | none => exact absurd h (eV.1 hl)
 | some t => exact ⟨t, rfl⟩
mutual
theorem Nj : ∀ (t : Ty) (acc : List (List Nat)), ∀ x ∈ acc, x ∈ er t acc
 | .mk name args, acc, x, h => by
  simp only [er]
  exact pN args _ x (by split; exact List.mem_append_left _ h; exact h)
theorem pN : ∀ (l : List Ty) (acc : List (List Nat)), ∀ x ∈ acc, x ∈ fL l acc
 | [], acc, x, h => by simp only [fL]; exact h
 | t :: r, acc, x, h => by simp only [fL]; exact pN r _ x (Nj t acc x h)
end
mutual
theorem jA : ∀ (t : Ty) (acc : List (List Nat)), (∀ x ∈ acc, aK x = 4) → ∀ x ∈ er t acc, aK x = 4
 | .mk name args, acc, ha, x, h => by
  simp only [er] at h
  refine xG args _ ?_ x h
  split
  ·rename_i hh
   intro y hy
   rcases List.mem_append.1 hy with hy | hy
   ·exact ha y hy
   ·simp at hy; subst hy; exact hh.1
  ·exact ha
theorem xG : ∀ (l : List Ty) (acc : List (List Nat)), (∀ x ∈ acc, aK x = 4) → ∀ x ∈ fL l acc, aK x = 4
 | [], acc, ha, x, h => by simp only [fL] at h; exact ha x h
 | t :: r, acc, ha, x, h => by simp only [fL] at h; exact xG r _ (jA t acc ha) x h
end
structure xC (vs : List (List Nat)) (u : Nat → Prop) (m m' : List (List Nat × Ty)) : Prop where
 old : ∀ x t, bX x m = some t → bX x m' = some t
 nd : (tJ m).Nodup → (tJ m').Nodup
 sub : ∀ x ∈ tJ m', x ∈ tJ m ∨ x ∈ vs
theorem xC.refl {vs : List (List Nat)} {u : Nat → Prop} (m : List (List Nat × Ty)) : xC vs u m m := ⟨fun _ _ h => h, id, fun _ h => .inl h⟩
theorem xC.trans {vs : List (List Nat)} {u : Nat → Prop} {a b c : List (List Nat × Ty)} (h : xC vs u a b) (k : xC vs u b c) : xC vs u a c :=
 ⟨fun x t hx => k.old x t (h.old x t hx), fun hn => k.nd (h.nd hn), fun x hx => by
  rcases k.sub x hx with h1 | h1
  ·exact h.sub x h1
  ·exact .inr h1⟩
def rY (m : List (List Nat × Ty)) : Prop := ∀ k x, bX k m = some x → gt x = true
def rt (u : Ty) : Prop := cY u ≤ 2000 ∧ dp u ≤ 100 ∧ nu u = true
theorem Fb {u : Ty} (h : rt u) : gt u = true := by unfold gt; simp only [Bool.and_eq_true, decide_eq_true_eq]; exact ⟨⟨h.1, h.2.1⟩, h.2.2⟩
theorem yb {b : List Nat} : ∀ {q : List Ty}, cR q ≤ 1999 → FF q 0 ≤ 99 → eX q = true → ∀ u ∈ q, rt u
 | [], _, _, _, u, h => by cases h
 | t :: r, h1, h2, h3, u, h => by
  simp only [cR] at h1
  simp only [FF] at h2
  rw [tR] at h2
  simp only [eX, Bool.and_eq_true] at h3
  rcases List.mem_cons.1 h with rfl | h
  ·exact ⟨by omega, by omega, h3.1⟩
  ·exact yb (b := b) (by omega) (by omega) h3.2 u h
theorem CE {b : List Nat} {q : List Ty} (h : rt (.mk b q)) : ∀ u ∈ q, rt u := by
 obtain ⟨h1, h2, h3⟩ := h
 simp only [cY] at h1
 simp only [dp] at h2
 simp only [nu, Bool.and_eq_true] at h3
 exact yb (b := b) (by omega) (by omega) h3.1
mutual
theorem OZ {vs : List (List Nat)} (hk : ∀ v ∈ vs, aK v = 4) : ∀ (t u : Ty) (m m' : List (List Nat × Ty)), uT vs t u m = some m' → nu t = true → rt u → rY m → xC vs (fun _ => True) m m' ∧ rY m' ∧ (∀ x ∈ vs, ∀ acc, x ∈ er t acc → x ∈ acc ∨ x ∈ tJ m')
 | .mk a l, .mk b q, m, m', h, hf, hu, hm => by
  simp only [nu, Bool.and_eq_true] at hf
  simp only [uT] at h
  split at h
  ·rename_i hin
   have hnil : l = [] := List.eq_nil_of_length_eq_zero ((uS hf.2).2 (hk a hin))
   subst hnil
   have hocc : ∀ m'' : List (List Nat × Ty), a ∈ tJ m'' → ∀ x ∈ vs, ∀ acc, x ∈ er (.mk a []) acc → x ∈ acc ∨ x ∈ tJ m'' := fun m'' ha x hx acc hxx => by
    simp only [er, fL] at hxx
    split at hxx
    ·rcases List.mem_append.1 hxx with h1 | h1
     ·exact .inl h1
     ·simp at h1; subst h1; exact .inr ha
    ·exact .inl hxx
   split at h
   ·rename_i x hx
    split at h
    ·cases h
     exact ⟨xC.refl _, hm, hocc _ (by by_cases hh : a ∈ tJ m; exact hh; rw [eV.2 hh] at hx; cases hx)⟩
    ·cases h
   ·rename_i hx
    cases h
    have hnk := eV.1 hx
    refine ⟨⟨fun x t hxt => by rw [rz, hxt], fun hn => ?_, fun x hxx => ?_⟩, fun k x hkx => ?_, hocc _ (by simp)⟩
    ·show ((m ++ [(a, Ty.mk b q)]).map (·.1)).Nodup
     rw [List.map_append, List.nodup_append]
     exact ⟨hn, by simp, fun x hxm y hy => by simp at hy; subst hy; intro he; subst he; exact hnk hxm⟩
    ·have hxx : x ∈ (m ++ [(a, Ty.mk b q)]).map (·.1) := hxx
     rw [List.map_append, List.mem_append] at hxx
     rcases hxx with h1 | h1
     ·exact .inl h1
     ·simp at h1; subst h1; exact .inr hin
    ·rw [rz] at hkx
     split at hkx
     ·rename_i t ht
      cases hkx; exact hm k _ ht
     ·simp only [bX] at hkx
      split at hkx
      ·cases hkx; exact Fb hu
      ·cases hkx
  ·rename_i hin
   split at h
   ·rename_i hh
    obtain ⟨h1, h2, h3⟩ := Lo hk l q m m' h hf.1 (CE hu) hm hh.2
    refine ⟨h1, h2, fun x hx acc hxx => ?_⟩
    simp only [er] at hxx
    rcases h3 x hx _ hxx with h4 | h4
    ·split at h4
     ·rcases List.mem_append.1 h4 with h5 | h5
      ·exact .inl h5
      ·simp at h5; subst h5; exact absurd hx hin
     ·exact .inl h4
    ·exact .inr h4
   ·cases h
theorem Lo {vs : List (List Nat)} (hk : ∀ v ∈ vs, aK v = 4) : ∀ (l q : List Ty) (m m' : List (List Nat × Ty)), lj vs l q m = some m' → eX l = true → (∀ u ∈ q, rt u) → rY m → l.length = q.length → xC vs (fun _ => True) m m' ∧ rY m' ∧ (∀ x ∈ vs, ∀ acc, x ∈ fL l acc → x ∈ acc ∨ x ∈ tJ m')
 | [], q, m, m', h, _, _, hm, _ => by
  simp only [lj] at h; cases h
  exact ⟨xC.refl _, hm, fun x _ acc hx => .inl (by simpa only [fL] using hx)⟩
 | t :: r, [], m, m', h, _, _, hm, hl => by simp at hl
 | t :: r, u :: q, m, m', h, hf, hu, hm, hl => by
  simp only [eX, Bool.and_eq_true] at hf
  simp only [lj] at h
  split at h
  ·rename_i m2 h2
   obtain ⟨a1, a2, a3⟩ := OZ hk t u m m2 h2 hf.1 (hu u (by simp)) hm
   obtain ⟨b1, b2, b3⟩ := Lo hk r q m2 m' h hf.2 (fun v hv => hu v (List.mem_cons_of_mem _ hv)) a2 (by simpa using hl)
   refine ⟨a1.trans b1, b2, fun x hx acc hxx => ?_⟩
   simp only [fL] at hxx
   rcases b3 x hx _ hxx with h4 | h4
   ·rcases a3 x hx acc h4 with h5 | h5
    ·exact .inl h5
    ·obtain ⟨tx, htx⟩ := od h5
     refine .inr ?_
     by_cases hh : x ∈ tJ m'
     ·exact hh
     ·have := b1.old x tx htx; rw [eV.2 hh] at this; cases this
   ·exact .inr h4
  ·cases h
end
def ji (vs : List (List Nat)) (m : List (List Nat × Ty)) : List (List Nat × Ty) := vs.map fun v => (v, (bX v m).getD (.mk [] []))
def pick (v : List Nat) (m : List (List Nat × Ty)) : List (List Nat × Ty) := m.filter fun p => decide (p.1 = v)
def PZ (vs : List (List Nat)) (m : List (List Nat × Ty)) : List (List Nat × Ty) := vs.flatMap fun v => pick v m
theorem xX {v : List Nat} : ∀ {m : List (List Nat × Ty)}, v ∉ tJ m → pick v m = []
 | [], _ => rfl
 | (k, t) :: r, h => by
  simp only [List.map_cons, List.mem_cons, not_or] at h
  unfold pick
  rw [List.filter_cons, if_neg (by simpa using Ne.symm h.1)]
  exact xX h.2
theorem CB {v : List Nat} {t : Ty} : ∀ {m : List (List Nat × Ty)}, (tJ m).Nodup → bX v m = some t → pick v m = [(v, t)]
 | [], _, h => by cases h
 | (k, x) :: r, hn, h => by
  simp only [List.map_cons, List.nodup_cons] at hn
  unfold pick
  simp only [bX] at h
  split at h
  ·rename_i hk
   cases h; subst hk
   rw [List.filter_cons, if_pos (by simp)]
   have := xX (v := v) (m := r) hn.1
   unfold pick at this
   rw [this]
  ·rename_i hk
   rw [List.filter_cons, if_neg (by simpa using Ne.symm hk)]
   exact CB hn.2 h
theorem CD {m : List (List Nat × Ty)} (hn : (tJ m).Nodup) : ∀ {vs : List (List Nat)}, (∀ v ∈ vs, v ∈ tJ m) → PZ vs m = ji vs m
 | [], _ => rfl
 | v :: r, h => by
  obtain ⟨t, ht⟩ := od (h v (by simp))
  have ih := CD hn (vs := r) fun x hx => h x (List.mem_cons_of_mem _ hx)
  unfold PZ ji at ih ⊢
  rw [List.flatMap_cons, List.map_cons, CB hn ht, ht, ih]; rfl
theorem uz {l : List (List Nat)} : ∀ {vs seen : List (List Nat)}, rk l seen vs = true → ∀ v ∈ vs, v ∈ l
 | [], _, _, v, h => by cases h
 | a :: r, seen, hs, v, h => by
  simp only [rk, Bool.and_eq_true, decide_eq_true_eq] at hs
  rcases List.mem_cons.1 h with rfl | h
  ·exact hs.1.2
  ·exact uz hs.2 v h
theorem fA {vs : List (List Nat)} {t : Ty} (h : gv vs t = true) : gt t = true ∧ vs.length ≤ 2000 ∧ (∀ v ∈ vs, v ∈ er t []) ∧ (∀ v ∈ vs, aK v = 4) := by
 unfold gv at h
 simp only [Bool.and_eq_true, decide_eq_true_eq] at h
 have hv : RA t = er t [] := by unfold RA; rw [if_pos h.1.1]
 rw [hv] at h
 exact ⟨h.1.1, h.1.2, uz h.2, fun v hv => jA t [] (fun x hx => by cases hx) v (uz h.2 v hv)⟩
def wD (vs : List (List Nat)) (t u : Ty) : Option (List (List Nat × Ty)) := if gv vs t = true ∧ gt u = true then uT vs t u [] else none
theorem Fg {vs : List (List Nat)} {t u : Ty} {m : List (List Nat × Ty)} (h : wD vs t u = some m) : rY m ∧ (tJ m).Nodup ∧ (∀ v ∈ vs, v ∈ tJ m) ∧ (∀ x ∈ tJ m, x ∈ vs) ∧ PZ vs m = ji vs m := by
 unfold wD at h
 split at h
 ·rename_i hh
  obtain ⟨h1, h2, h3, h4⟩ := fA hh.1
  have hu := bu hh.2
  obtain ⟨a, b, c⟩ := OZ h4 t u [] m h (bu h1).2.2 hu (fun k x hx => by cases hx)
  have hc : ∀ v ∈ vs, v ∈ tJ m := fun v hv => (c v hv [] (h3 v hv)).resolve_left (by simp)
  have hn := a.nd (by simp)
  exact ⟨b, hn, hc, fun x hx => (a.sub x hx).resolve_left (by simp), CD hn hc⟩
 ·cases h
structure BM (K : S → Prop) (G : List Nat) (l : List (List Nat × Ty)) (o : Option Nat) (v : V) (s : S) : Prop where
 row : ∃ cs : List (List V), BG cs o v s ∧ gi (fun s' => K s' ∧ KB G s s') l cs
 lt : ∀ g ∈ G, g < s.next ∧ o ≠ some g
section
variable {K : S → Prop} {G : List Nat} {l : List (List Nat × Ty)} {o : Option Nat} {v : V} {s s' : S}
theorem BM.one (h : BM K G l o v s) : v.one = true := by obtain ⟨⟨cs, h1, _⟩, _⟩ := h; exact h1.one
theorem BM.nil (s : S) : BM K [] [] none .nilslice s := ⟨⟨[], BG.nil s, rfl⟩, by simp⟩
theorem BM.keep (h : BM K G l o v s) (hk : KB (G ++ o.toList) s s') (hn : s.next ≤ s'.next) : BM K G l o v s' := by
 obtain ⟨⟨cs, h1, h2⟩, h3⟩ := h
 exact ⟨⟨cs, gx.keep h1 (fun X B hX hB => hk X (by simp [hX]) B hB), h2.mono fun _ h4 => ⟨h4.1, (hk.mono (by simp; intro g hg; exact .inl hg)).trans h4.2⟩⟩, fun g hg => ⟨Nat.lt_of_lt_of_le (h3 g hg).1 hn, (h3 g hg).2⟩⟩
theorem BM.stb : iA (G ++ o.toList) (BM K G l o v) := fun _ _ h hk hn => h.keep hk hn
theorem BM.still : fJ (BM K G l o v) := fun _ _ hf h => h.keep (KB.fw hf (by simp)) hf.next
theorem BM.blk (h : BM K G l o v s) (hw : WF s) : ∀ g ∈ G ++ o.toList, g < s.next := fun g hg => by
 obtain ⟨⟨cs, h1, _⟩, h3⟩ := h
 rcases List.mem_append.1 hg with hg | hg
 ·exact (h3 g hg).1
 ·exact h1.blk hw g hg
theorem BM.app {G' : List Nat} {x : List Nat} {t : Ty} {nm rw : V} (h : BM K G l o v s) (hw : WF s) {b : Nat} (hb : s.get b = some (.cells 56 false 1 [⟨0, 0, [.str x, nm, rw]⟩])) (hx : Bytes x) (hxl : x.length < 4611686018427387904) (ht : MT K G' t nm rw s) (hG : ∀ g ∈ G', o ≠ some g) (hl : l.length ≤ 999999) :
 ∃ v' s' X, wG.run Tryz.prog s (.bif .append #[36, 36] [v, .slice ⟨b, 0, 0⟩ 0 1 (some 1) 3]) = some (v', s') ∧ BM K (G ++ G') (l ++ [(x, t)]) (some X) v' s' ∧ Fw o.toList s s' ∧ X < s'.next ∧ (o = some X ∨ s.next ≤ X) := by
 obtain ⟨⟨cs, h1, h2⟩, h3⟩ := h
 have hlen := h2.len
 obtain ⟨v', s', X, hrun, hU, hf, hXl, hX⟩ := h1.app hw hb ht.one (by omega)
 have hne : ∀ g, g ∈ G ++ G' → g < s.next ∧ o ≠ some g := fun g hg => by
  rcases List.mem_append.1 hg with hg | hg
  ·exact h3 g hg
  ·exact ⟨ht.2 g hg, hG g hg⟩
 have hkb : KB (G ++ G') s s' := KB.fw hf (fun g hg hgo => by
  have := (hne g hg).2
  cases o with
  | none => simp at hgo
  | some Y => simp at hgo; subst hgo; exact this rfl)
 refine ⟨v', s', X, hrun, ⟨⟨cs ++ [[.str x, nm, rw]], hU, ?_⟩, fun g hg => ⟨Nat.lt_of_lt_of_le (hne g hg).1 hf.next, fun hgX => ?_⟩⟩, hf, hXl, hX⟩
 ·exact (h2.mono fun _ h4 => ⟨h4.1, (hkb.mono (by simp; intro g hg; exact .inl hg)).trans (h4.2.mono (by simp; intro g hg; exact .inl hg))⟩).snoc hx hxl (ht.1.mono fun _ h4 => ⟨h4.1, (hkb.mono (by simp; intro g hg; exact .inr hg)).trans (h4.2.mono (by simp; intro g hg; exact .inr hg))⟩)
 ·cases hgX
  rcases hX with h5 | h5
  ·exact (hne _ hg).2 h5
  ·have := (hne _ hg).1; omega
theorem BM.rdb (h : BM K G l o v s) (hl : l.length < 4611686018427387904) : GF (fun s' => K s' ∧ KB (G ++ o.toList) s s') l v := by
 obtain ⟨⟨cs, h1, h2⟩, h3⟩ := h
 refine ⟨cs, (wA h1 h2.three (by rw [h2.len]; exact hl)).mono fun _ h4 => h4.2.mono (by simp; intro g hg; exact .inr hg), h2.mono fun _ h4 => ⟨h4.1, h4.2.mono (by simp; intro g hg; exact .inl hg)⟩⟩
theorem BM.kn (h : BM K G l o v s) (hw : WF s) {n : Nat} (hK : Kn K n) (hn : n ≤ s.next) : Kn (fun s' => K s' ∧ KB (G ++ o.toList) s s') s.next := vp (CO hK hn) (LG (h.blk hw))
end
def mA (vs : List (List Nat)) (t u : Ty) : List (List Nat × Ty) := match wD vs t u with
 | some m => ji vs m
 | none => []
def TD (K : S → Prop) (vs : List (List Nat)) (t u : Ty) (s : S) : cX → Prop := tW fun v s' => ∃ G o lv, v = .tuple [lv, .bool (wD vs t u).isSome] ∧ BM K G (mA vs t u) o lv s' ∧ (∀ g ∈ G ++ o.toList, s.next ≤ g) ∧ Fw [] s s'
section
variable {K : S → Prop} {vs : List (List Nat)} {n : Nat}
def UR (K : S → Prop) (c : List (List V)) (o : Option Nat) (lv : V) (l2 : List (List Nat × Ty)) (o2 : Option Nat) (v2 : V) (s : S) : Prop := BG c o lv s ∧ BM K [] l2 o2 v2 s
theorem UR.stb {c : List (List V)} {o : Option Nat} {lv : V} {l2 : List (List Nat × Ty)} {o2 : Option Nat} {v2 : V} : iA (o.toList ++ o2.toList) (UR K c o lv l2 o2 v2) := fun a b ⟨h1, h2⟩ hk hn =>
 ⟨BG.stb a b h1 (fun g hg => hk g (List.mem_append_left _ hg)) hn, h2.keep (fun g hg => hk g (List.mem_append_right _ hg)) hn⟩
end
end Go.AI.Lx
