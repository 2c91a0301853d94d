/- What the functions answer in the evaluator: part 12. No conditions beyond those of the row. -/
import Derived.Test.YtkeaedhoaamfnaaGreatDoorL11
set_option linter.unusedVariables false
set_option linter.unusedSimpArgs false
noncomputable section
namespace Go.AI.Lx
open Go.Proofs Go.Proofs.YtkeaedhoaamfnaaGreatDoor
set_option maxRecDepth 10000
theorem zP {l : List (List Nat)} : ∀ {vs seen : List (List Nat)}, rk l seen vs = true → vs.Nodup ∧ ∀ v ∈ vs, v ∉ seen
 | [], _, _ => ⟨by simp, by simp⟩
 | a :: r, seen, hs => by
  simp only [rk, Bool.and_eq_true, decide_eq_true_eq] at hs
  obtain ⟨h1, h2⟩ := zP hs.2
  refine ⟨List.nodup_cons.2 ⟨fun h => h2 a h (by simp), h1⟩, fun v hv => ?_⟩
  rcases List.mem_cons.1 hv with rfl | hv
  ·exact hs.1.1
  ·exact fun h => h2 v hv (List.mem_append_left _ h)
theorem Hu {l : List (List Nat)} (h : l.Nodup) {i : Nat} {x : List Nat} (hx : l[i]? = some x) : x ∉ l.take i := fun hm => by
 obtain ⟨j, hj, he⟩ := List.mem_iff_getElem.1 hm
 rw [List.length_take] at hj
 rw [List.getElem_take] at he
 obtain ⟨hi, hxe⟩ := List.getElem?_eq_some_iff.1 hx
 have := (List.nodup_iff_pairwise_ne.1 h)
 have := List.pairwise_iff_getElem.1 this j i (by omega) hi (by omega)
 exact this (he.trans hxe.symm)
theorem LE {l : List Nat} (h : aK l ≠ 0) : l.length ≤ 24 := by
 unfold aK at h
 split at h
 ·exact absurd rfl h
 ·rename_i hh
  rcases Nat.lt_or_ge 24 l.length with h1 | h1
  ·exact absurd (.inr (.inl h1)) hh
  ·exact h1
theorem RW {s : S} {mm : Nat} {M : List (List Nat × V)} (h : MP s mm M) (hk : kZ M) {x : List Nat} (hx : Bytes x) {v : V} (hv : fg x M = some v) : bZ Tryz.prog s 78 (some (.map mm)) (some (.str x)) false = some v := by
 have h' : s.get mm = some (.map (ru M 0) M.length) := h
 simp only [bZ, Tryz.underlying78, nE, h', jg, cond_true, qB (fun a b ha hb => io s a b ha hb) hx M 0 hk, hv, qz, cond_false]
section
variable {K : S → Prop} {vs : List (List Nat)} {n : Nat}
def UO (mo mm : Nat) (Mo M : List (List Nat × V)) (s : S) : Prop := MP s mo Mo ∧ MP s mm M
theorem UO.stb {mo mm : Nat} {Mo M : List (List Nat × V)} : iA [mo, mm] (UO mo mm Mo M) := fun _ _ ⟨h1, h2⟩ hk _ => ⟨hk mo (by simp) _ h1, hk mm (by simp) _ h2⟩
def UT (mo mm : Nat) (Mo M : List (List Nat × V)) (G : List Nat) (l : List (List Nat × Ty)) (o : Option Nat) (v : V) (s : S) : Prop := UO mo mm Mo M s ∧ BM T0 G l o v s
theorem UT.stb {mo mm : Nat} {Mo M : List (List Nat × V)} {G : List Nat} {l : List (List Nat × Ty)} {o : Option Nat} {v : V} : iA ([mo, mm] ++ (G ++ o.toList)) (UT mo mm Mo M G l o v) := fun a b ⟨h1, h2⟩ hk hn =>
 ⟨UO.stb a b h1 (fun g hg => hk g (List.mem_append_left _ hg)) hn, h2.keep (fun g hg => hk g (List.mem_append_right _ hg)) hn⟩
theorem Hw (hK : Kn K n) {t u : Ty} {vr nm rw nm' rw' : V} {s : S} (hn : n ≤ s.next) (hR : DW K vs t vr nm rw) (hR' : gY K u nm' rw') (hw : WF s) (hG : cF s) (hk : K s) :
 Cw au 23 [.agg [vr, nm, rw], .agg [nm', rw']] s fun v s' => ∃ G o lv, v = .tuple [lv, .bool (wD vs t u).isSome] ∧ BM T0 G (mA vs t u) o lv s' ∧ (∀ g ∈ G ++ o.toList, s.next ≤ g) ∧ Fw [] s s' := by
 have ho := hR.ty.one
 have hov := hR.vars.row.one
 have ho' := hR'.one
 have hvl := hR.vars.lt
 have hkk : ∀ s1, Fw [] s s1 → K s1 := fun s1 h1 => hK.still _ _ h1 hk
 refine aL (bb (C := sR) (e := ⟨[vr, nm, rw, nm', rw'], []⟩) (F := []) (dn rfl rfl rfl) Tryz.func23 rfl (by kernel_rfl) Ce rfl ⟨rfl, by simp [aA, ho.1, ho.2, ho'.1, ho'.2, hov], rfl⟩ rfl hw rfl (by simp) trivial ay trivial (by simp) ?_)
 show ah au [] s (TD T0 vs t u s) _ _ _ _ _
 have no : ∀ {s1 : S}, Fw [] s s1 → wD vs t u = none → TD T0 vs t u s ⟨.returned (.tuple [.nilslice, .bool false]), none, s1⟩ := fun {s1} h1 he => ⟨_, _, rfl, [], none, .nilslice, by rw [he]; rfl, by unfold mA; rw [he]; exact BM.nil s1, by simp, h1⟩
 have hpu := nW u
 have key2 : ∀ (q : Bool) (b1 b2 : Nat) (L : List ck), (q = false ↔ gv vs t = true ∧ gt u = true) → ah au [] s (TD T0 vs t u s) lJ ⟨[.bool q, vr, nm, rw, nm', rw'], [b1, b2]⟩ [] T0 L := by
  intro q b1 b2 L hq
  refine aI rfl (fun c4 => ?_) (fun c4 => ?_)
  ·exact aE fun s1 h1 h2 h3 h4 => no h1 (by unfold wD; rw [if_neg (fun h => by rw [hq.2 h] at c4; cases c4)])
  have hsv := hq.1 c4
  have hmt : wD vs t u = uT vs t u [] := by unfold wD; rw [if_pos hsv]
  obtain ⟨p1, p2, p3, p4⟩ := fA hsv.1
  have hnd : vs.Nodup := by
   have := hsv.1
   unfold gv at this
   simp only [Bool.and_eq_true] at this
   exact (zP this.2).1
  refine jb fun s3 j1 j2 j3 j4 => ?_
  have hal := Fw.alloc [] j2 (.map [] 0)
  refine ⟨[.map s3.next], _, s3.alloc (.map [] 0), [s3.next], fun s => MP s s3.next [], inferInstance, rfl, rfl, rfl, hal.mono (by simp), dP, bT _ _, fun g hg => ?_, ?_⟩
  ·simp at hg; subst hg; rw [S.next_alloc]; exact ⟨by omega, .inr (Nat.le_refl _)⟩
  have hmn : s.next ≤ s3.next := j1.next
  generalize s3.next = mo at hmn
  refine eL rfl (fun s1 _ _ => hR.vars.len s1) rfl ?_
  refine jP (fun j vs' bs' D U => ∃ (i : Nat) (Mo : List (List Nat × V)), i ≤ vs.length ∧ j = vs.length - i ∧ vs' = [.map mo, vr, .int .i64 ((vs.length : Nat) : Int), .int .i64 ((i : Nat) : Int), vr, nm, rw, nm', rw'] ∧ bs' = [b1, b2] ∧ D = [mo] ∧ U = (fun s => MP s mo Mo) ∧ kZ Mo ∧ (∀ x, fg x Mo = if x ∈ vs.take i then some (.int .i64 1) else none))
   vs.length ⟨0, [], by omega, rfl, rfl, rfl, rfl, rfl, (fun p hp => by cases hp), (fun x => by simp [fg])⟩ dP ?_
  rintro j _ _ _ _ ⟨i, Mo, hi, rfl, rfl, rfl, rfl, rfl, hkm, hmg⟩ - - -
  refine jO rfl rfl rfl ?_
  refine dA rfl (fun c2 => ?_) (fun c2 => ?_)
  ·obtain ⟨x, hx, hd⟩ := et (show i < vs.length by omega)
   have hxb := hR.vars.bytes x (List.mem_of_getElem? hx)
   obtain ⟨p, hp, hld⟩ := hR.vars.at hx
   have hnt := Hu hnd hx
   refine aD (.ptr p) rfl (fun _ _ _ _ _ => hp) rfl ?_
   refine aD (.str x) rfl (fun a b _ _ _ => hld a (hkk a b)) rfl ?_
   refine aD (.int .i64 0) rfl (fun s1 h1 h2 h3 h4 => ?_) rfl ?_
   ·have := (h3 rfl).look hkm hxb
    show bZ Tryz.prog s1 86 (some (.map mo)) (some (.str x)) false = _
    rw [this, hmg x, if_neg hnt]; rfl
   refine ed (r := 1) rfl rfl rfl rfl ?_
   refine jb fun s4 k1 k2 k3 k4 => ?_
   obtain ⟨s5, hrun, hmp, hf, hml2⟩ := MP.upd k3 k2 hkm hxb (.int .i64 1) Tryz.underlying86
   refine ⟨[], _, s5, [mo], fun s => MP s mo (gd x (.int .i64 1) Mo), inferInstance, rfl, rfl, hrun, hf, dP, hmp, fun g hg => ?_, ?_⟩
   ·simp at hg; subst hg; exact ⟨hml2, .inl (by simp)⟩
   have htk : vs.take (i + 1) = vs.take i ++ [x] := by rw [List.take_add_one, hx]; rfl
   refine ed (r := ((i + 1 : Nat) : Int)) rfl rfl (wI (by omega)) rfl ?_
   refine kT rfl dP ⟨vs.length - (i + 1), by omega, i + 1, _, by omega, rfl, rfl, rfl, rfl, rfl, hkm.set hxb _, fun y => ?_⟩
   rw [ob, htk, hmg y]
   by_cases hy : y = x
   ·subst hy; simp
   ·simp [hy]
  ·have : i = vs.length := by omega
   subst this
   rw [List.take_length] at hmg
   have hO : TN vs Mo := ⟨hkm, fun x => by rw [hmg x]; split <;> rfl⟩
   refine jb fun s3 j1 j2 j3 j4 => ?_
   have hal := Fw.alloc [] j2 (.map [] 0)
   have hmol : mo < s3.next := j2 mo _ j3
   refine ⟨[.map s3.next], _, s3.alloc (.map [] 0), [mo, s3.next], UO mo s3.next Mo [], inferInstance, rfl, rfl, rfl, hal.mono (by simp), UO.stb, ⟨hal.keep _ _ (by simp) j3, bT _ _⟩, fun g hg => ?_, ?_⟩
   ·rw [S.next_alloc]
    simp at hg
    rcases hg with rfl | rfl
    ·exact ⟨by omega, .inl (by simp)⟩
    ·exact ⟨by omega, .inr (Nat.le_refl _)⟩
   have hmn2 : s.next ≤ s3.next := j1.next
   have hne : s3.next ≠ mo := by omega
   generalize s3.next = mm at hmn2 hne
   refine ec fun s1 k1 k2 k3 k4 => ?_
   have hml : mm < s1.next := k2 mm _ k3.2
   have hmol : mo < s1.next := k2 mo _ k3.1
   have hn1 := k1.next
   have hKf : Kf (fun s => K s ∧ MP s mo Mo) mm s1.next := by
    intro F a b hF hf hk
    refine ⟨hK F a b (fun g hg => ?_) hf hk.1, hf.keep mo _ (fun h => ?_) hk.2⟩
    ·rcases hF g hg with h | h <;> omega
    ·rcases hF mo h with h | h
     ·exact hne h.symm
     ·omega
   obtain ⟨v, s2, hcall, hf, hor⟩ := Qi (K := fun s => K s ∧ MP s mo Mo) hKf hne hO (fun _ h => h.2) (cY t) t u [] [] nm rw nm' rw' s1 (Nat.le_refl _) (hR.ty.mono fun _ h => h.1) (hR'.mono fun _ h => h.1) k2 ⟨hkk s1 k1, k3.1⟩ (Nat.le_refl _) k3.2 trivial (fun p hp => by cases hp)
   rcases hor with ⟨m, M, e1, rfl, e3, e4, e5⟩ | ⟨e1, rfl⟩
   ·have hsome : wD vs t u = some m := by rw [hmt, e1]
    obtain ⟨q1, q2, q3, q4, q5⟩ := Fg hsome
    have hout : mA vs t u = ji vs m := by unfold mA; rw [hsome]
    refine .inl ⟨[.bool true], _, s2, [mo, mm], UO mo mm Mo M, inferInstance, rfl, rfl, hcall, hf.mono (by simp [fk]), trivial, UO.stb, ⟨hf.keep _ _ (by simp [Ne.symm hne]) k3.1, e3⟩, fun g hg => ?_, ?_⟩
    ·simp at hg
     have := hf.next
     rcases hg with rfl | rfl
     ·exact ⟨by omega, .inl (by simp)⟩
     ·exact ⟨by omega, .inl (by simp)⟩
    refine fl rfl rfl ?_
    refine aI (q := false) rfl (fun h => by cases h) (fun _ => ?_)
    refine eL rfl (fun s1 _ _ => hR.vars.len s1) rfl ?_
    refine jP (fun j vs' bs' D U => ∃ (i : Nat) (G : List Nat) (l2 : List (List Nat × Ty)) (o2 : Option Nat) (v2 : V), i ≤ vs.length ∧ j = vs.length - i ∧ vs' = [.map mm, v2, vr, .int .i64 ((vs.length : Nat) : Int), .int .i64 ((i : Nat) : Int)] ∧ bs' = [] ∧ D = [mo, mm] ++ (G ++ o2.toList) ∧ U = UT mo mm Mo M G l2 o2 v2 ∧ v2.one = true ∧ l2.length = i ∧
     (∀ g ∈ G ++ o2.toList, s.next ≤ g ∧ g ≠ mo ∧ g ≠ mm) ∧ l2 ++ ji (vs.drop i) m = ji vs m)
     vs.length ⟨0, [], [], none, .nilslice, by omega, rfl, rfl, rfl, by simp, funext fun s => propext ⟨fun h => ⟨h, BM.nil s⟩, fun h => h.1⟩, rfl, rfl, by simp, by simp⟩ UO.stb ?_
    rintro j _ _ _ _ ⟨i, G, l2, o2, v2, hi, rfl, rfl, rfl, rfl, rfl, hone2, hl2n, hfr, hl2⟩ - - -
    refine jO rfl rfl rfl ?_
    refine dA rfl (fun c1 => ?_) (fun c1 => ?_)
    ·obtain ⟨x, hx, hd⟩ := et (show i < vs.length by omega)
     have hxm := List.mem_of_getElem? hx
     have hxb := hR.vars.bytes x hxm
     obtain ⟨p, hp, hld⟩ := hR.vars.at hx
     obtain ⟨tx, htx⟩ := od (q3 x hxm)
     have hvx := q1 x tx htx
     have hsx := (bu hvx).1
     obtain ⟨nmx, rwx, hmx, hRx⟩ : ∃ nmx rwx, fg x M = some (.agg [nmx, rwx]) ∧ gY (fun s => K s ∧ MP s mo Mo) tx nmx rwx := by
      rcases e4.get x with ⟨t', n1, r1, h1, h2, h3⟩ | ⟨h1, h2⟩
      ·rw [htx] at h2; cases h2; exact ⟨n1, r1, h1, h3⟩
      ·rw [htx] at h2; cases h2
     have hxo := hRx.one
     rw [hd] at hl2
     have hl2 : l2 ++ ((x, tx) :: ji (vs.drop (i + 1)) m) = ji vs m := by
      rw [← hl2]; unfold ji; rw [List.map_cons, htx]; rfl
     have hxl : x.length < 4611686018427387904 := by have := LE (l := x) (by rw [p4 x hxm]; decide); omega
     refine aD (.ptr p) rfl (fun _ _ _ _ _ => hp) rfl ?_
     refine aD (.str x) rfl (fun a b _ _ _ => hld a (hkk a b)) rfl ?_
     refine bd fun b3 hb3 hd3 => ?_
     refine h_askN [nmx, rwx] (.agg [nmx, rwx]) rfl (by simp [aA, hxo.1, hxo.2]) (fun _ _ _ a _ => RW (a rfl).1.2 e5 hxb hmx) rfl ?_
     refine ec fun s4 f1 f2 f3 f4 => ?_
     have g3 : s4.get b3 = some (xF 0) := f4.1
     have hb3o : b3 ≠ mo := fun h => by subst h; have : s4.get b3 = some (.map (ru Mo 0) Mo.length) := f3.1.1; rw [g3] at this; cases this
     have hb3m : b3 ≠ mm := fun h => by subst h; have : s4.get b3 = some (.map (ru M 0) M.length) := f3.1.2; rw [g3] at this; cases this
     have hmol4 : mo < s4.next := f2 mo _ f3.1.1
     have hnx4 := f1.next
     have hKf4 : Kf (fun s => K s ∧ MP s mo Mo) b3 s4.next := by
      intro F a b hF hf hk
      refine ⟨hK F a b (fun g hg => ?_) hf hk.1, hf.keep mo _ (fun h => ?_) hk.2⟩
      ·rcases hF g hg with h | h <;> omega
      ·rcases hF mo h with h | h
       ·exact hb3o h.symm
       ·omega
     have hcp := (FM tx 0).1 (by omega)
     have hput := Ct (Ko := T0) hKf4 (m := []) Fj rfl (fun x t h => by cases h) (fun x t h => by cases h) (cY tx)
     rw [show iS [] = tp from funext fun t => funext fun c => AR t c] at hput
     obtain ⟨v, s5, hcall5, nm5, rw5, G5, rfl, hMT, hGn, hc5, hf5⟩ := hput tx 0 nmx rwx s4 (Nat.le_refl _) (GS hvx) hRx f2 ⟨hkk s4 f1, f3.1.1⟩ (Nat.le_refl _) g3 (by rw [hcp]; simp only; omega)
     rw [hcp] at hMT hc5
     simp only at hMT hc5
     have hoM := hMT.one
     have hblk := f3.2.blk f2
     have hb3G : ∀ g ∈ G ++ o2.toList, g ≠ b3 := fun g hg h => hd3 (by subst h; exact List.mem_append_right _ hg)
     have hUT5 : UT mo mm Mo M G l2 o2 v2 s5 := ⟨⟨hf5.keep _ _ (by simp [Ne.symm hb3o]) f3.1.1, hf5.keep _ _ (by simp [Ne.symm hb3m]) f3.1.2⟩, f3.2.keep (KB.fw hf5 (fun g hgm hgf => by simp at hgf; exact hb3G g hgm hgf)) hf5.next⟩
     have hml4 : mm < s4.next := f2 mm _ f3.1.2
     refine .inl ⟨[.int .i64 (((0 + cY tx : Nat) : Nat) : Int), nm5, rw5], _, s5, ([mo, mm] ++ (G ++ o2.toList)) ++ G5, fun s => UT mo mm Mo M G l2 o2 v2 s ∧ MT T0 G5 tx nm5 rw5 s, inferInstance, rfl, by simp [aA, hoM.1, hoM.2, fD], hcall5, hf5.mono (by simp [fk]; exact .inl rfl), ⟨hc5, trivial⟩,
      fun a b ⟨h1, h2⟩ hk hn => ⟨UT.stb a b h1 (fun g hg => hk g (List.mem_append_left _ hg)) hn, h2.keep (fun g hg => hk g (List.mem_append_right _ hg)) hn⟩, ⟨hUT5, hMT⟩, fun g hg => ?_, ?_⟩
     ·have := hf5.next
      rcases List.mem_append.1 hg with hg | hg
      ·refine ⟨?_, .inl hg⟩
       rcases List.mem_append.1 hg with hg | hg
       ·simp at hg; rcases hg with rfl | rfl <;> omega
       ·have := hblk g hg; omega
      ·exact ⟨hMT.2 g hg, .inr (hGn g hg)⟩
     refine bd fun b4 hb4 hd4 => ?_
     refine jb fun s6 g1 g2 g3' g4 => ?_
     have hoG : ∀ g ∈ G5, o2 ≠ some g := fun g hg ho2 => by
      have h1 := hblk g (by simp [ho2])
      have h2 := hGn g hg
      omega
     obtain ⟨v', s7, X, hrun, hT7, hf7, hXl, hXo⟩ := g3'.1.2.app g2 (b := b4) g4.1 hxb hxl g3'.2 hoG (by omega)
     have hX7 : s.next ≤ X ∧ X ≠ mo ∧ X ≠ mm := by
      rcases hXo with h | h
      ·exact hfr X (by simp [h])
      ·have z1 := g2 mo _ g3'.1.1.1
       have z2 := g2 mm _ g3'.1.1.2
       have z3 := g1.next
       omega
     have hfr7 : ∀ g ∈ (G ++ G5) ++ (some X).toList, s.next ≤ g ∧ g ≠ mo ∧ g ≠ mm := fun g hg => by
      simp only [List.mem_append, Option.mem_toList, Option.some.injEq] at hg
      rcases hg with (hg | hg) | hg
      ·exact hfr g (by simp [hg])
      ·have := hGn g hg; omega
      ·subst hg; exact hX7
     have hUO7 : UO mo mm Mo M s7 := ⟨hf7.keep _ _ (fun h => (hfr mo (by simp at h; simp [h])).2.1 rfl) g3'.1.1.1, hf7.keep _ _ (fun h => (hfr mm (by simp at h; simp [h])).2.2 rfl) g3'.1.1.2⟩
     refine ⟨[v'], _, s7, [mo, mm] ++ ((G ++ G5) ++ (some X).toList), UT mo mm Mo M (G ++ G5) (l2 ++ [(x, tx)]) (some X) v', inferInstance, rfl, by simp [aA, hT7.one], hrun, hf7.mono (by intro g hg; simp at hg ⊢; simp [hg]), UT.stb, ⟨hUO7, hT7⟩, fun g hg => ?_, ?_⟩
     ·have hw7 := hf7.wf g2
      have z1 := hw7 mo _ hUO7.1
      have z2 := hw7 mm _ hUO7.2
      rcases List.mem_append.1 hg with hg | hg
      ·simp at hg
       rcases hg with rfl | rfl
       ·exact ⟨z1, .inl (by simp)⟩
       ·exact ⟨z2, .inl (by simp)⟩
      ·refine ⟨hT7.blk hw7 g hg, ?_⟩
       simp only [List.mem_append, Option.mem_toList, Option.some.injEq] at hg
       rcases hg with (hg | hg) | hg
       ·exact .inl (by simp [hg])
       ·exact .inl (by simp [hg])
       ·subst hg
        rcases hXo with h | h
        ·exact .inl (by simp [h])
        ·exact .inr h
     refine ed (r := ((i + 1 : Nat) : Int)) rfl rfl (wI (by omega)) rfl ?_
     exact kT rfl UT.stb ⟨vs.length - (i + 1), by omega, i + 1, G ++ G5, _, some X, v', by omega, rfl, rfl, rfl, rfl, rfl, hT7.one, by simp [hl2n], hfr7, by rw [List.append_assoc]; exact hl2⟩
    ·have : i = vs.length := by omega
     subst this
     rw [List.drop_length] at hl2
     have hl2 : l2 = ji vs m := by rw [← hl2]; unfold ji; simp
     exact aE fun s1 h1 h2 h3 h4 => ⟨_, _, rfl, G, o2, v2, by rw [hsome]; rfl, by rw [hout, ← hl2]; exact h3.2, fun g hg => (hfr g hg).1, h1⟩
   ·refine .inl ⟨[.bool false], _, s2, [], T0, inferInstance, rfl, rfl, hcall, hf.mono (by simp [fk]), trivial, ay, trivial, by simp, ?_⟩
    refine fl rfl rfl ?_
    refine aI (q := true) rfl (fun _ => ?_) (fun h => by cases h)
    exact aE fun s1 h1 h2 h3 h4 => no h1 (by rw [hmt, e1])
 refine bd fun b1 hb1 hd1 => ?_
 refine bd fun b2 hb2 hd2 => ?_
 refine ax (.bool (gv vs t)) (fun a b c _ _ => oh hK (Nat.le_trans hn b.next) hR c (hG.keep b.ro) (hkk a b)) rfl rfl ?_
 refine fl rfl rfl ?_
 refine aI rfl (fun c5 => ?_) (fun c5 => ?_)
 ·have hs : ¬ gv vs t = true := by simpa using c5
  exact bI (key2 true _ _ _ ⟨fun h => (by cases h), fun h => absurd h.1 hs⟩)
 ·have hs : gv vs t = true := by simpa using c5
  refine ax (.int .i64 (if gt u = true then ((cY u : Nat) : Int) else 0)) (fun a b c _ _ => uv hK (Nat.le_trans hn b.next) hR' c (hG.keep b.ro) (hkk a b)) rfl rfl ?_
  refine gP rfl rfl rfl ?_
  refine bI (key2 _ _ _ _ ⟨fun h => ⟨hs, ?_⟩, fun h => decide_eq_false (by rw [if_pos h.2]; omega)⟩)
  cases hv : gt u with
  | true => rfl
  | false => rw [hv] at h; simp at h
end
end Go.AI.Lx
namespace Go.AI.Lx
open Go.Proofs Go.Proofs.YtkeaedhoaamfnaaGreatDoor
def GA : List aH := []
def Gd : Code := match Tryz.f112.body with | some c => c | none => .skip
def za : gX := ⟨au, Tryz.f112, GA, [(157, ⟨[], false⟩)], [], 0⟩
def Eu : aB := cT 157 [0] 1 (rT 1)
theorem IC : cb za 400 [] [.code Gd] (bi [.atom 0] 0 .leaf id) (br ⟨.leaf, 0⟩ []) 1 = some Eu := by kernel_rfl
def Gz : List aH := []
def Gc : Code := match Tryz.f157.body with | some c => c | none => .skip
def yZ : gX := ⟨au, Tryz.f157, Gz, [(247, ⟨[], false⟩), (205, ⟨[], false⟩)], [], 0⟩
def Et : aB := cT 205 [0, iV 10] 1 (rT 1)
theorem IB : cb yZ 400 [] [.code Gc] (bi [.atom 0] 0 .leaf id) (br ⟨.leaf, 0⟩ []) 1 = some Et := by kernel_rfl
def DK : List aH := []
def Ds : Code := match Tryz.f247.body with | some c => c | none => .skip
def wa : gX := ⟨au, Tryz.f247, DK, [], [], 0⟩
def BJ : aB := aT (.bin .lss 3 true 0 (iV 10)) 1 (.cond 1 (aT (.bin .add 3 true 0 (iV 1)) 2 (aT (.slice 9 (.str [48, 49, 50, 51, 52, 53, 54, 55, 56, 57, 97, 98, 99, 100, 101, 102, 103, 104, 105, 106, 107, 108, 109, 110, 111, 112, 113, 114, 115, 116, 117, 118, 119, 120, 121, 122]) (some 0) (some 2) none) 3 (rT 3))) (aT (.bin .mul 3 true 0 (iV 2)) 2 (aT (.bin .mul 3 true 0 (iV 2)) 3 (aT (.bin .add 3 true 3 (iV 2)) 4 (aT (.slice 9 (.str [48, 48, 48, 49, 48, 50, 48, 51, 48, 52, 48, 53, 48, 54, 48, 55, 48, 56, 48, 57, 49, 48, 49, 49, 49, 50, 49, 51, 49, 52, 49, 53, 49, 54, 49, 55, 49, 56, 49, 57, 50, 48, 50, 49, 50, 50, 50, 51, 50, 52, 50, 53, 50, 54, 50, 55, 50, 56, 50, 57, 51, 48, 51, 49, 51, 50, 51, 51, 51, 52, 51, 53, 51, 54, 51, 55, 51, 56, 51, 57, 52, 48, 52, 49, 52, 50, 52, 51, 52, 52, 52, 53, 52, 54, 52, 55, 52, 56, 52, 57, 53, 48, 53, 49, 53, 50, 53, 51, 53, 52, 53, 53, 53, 54, 53, 55, 53, 56, 53, 57, 54, 48, 54, 49, 54, 50, 54, 51, 54, 52, 54, 53, 54, 54, 54, 55, 54, 56, 54, 57, 55, 48, 55, 49, 55, 50, 55, 51, 55, 52, 55, 53, 55, 54, 55, 55, 55, 56, 55, 57, 56, 48, 56, 49, 56, 50, 56, 51, 56, 52, 56, 53, 56, 54, 56, 55, 56, 56, 56, 57, 57, 48, 57, 49, 57, 50, 57, 51, 57, 52, 57, 53, 57, 54, 57, 55, 57, 56, 57, 57]) (some 2) (some 4) none) 5 (rT 5))))))
theorem ER : cb wa 400 [] [.code Ds] (bi [.atom 0] 0 .leaf id) (br ⟨.leaf, 0⟩ []) 1 = some BJ := by kernel_rfl
def Jw : List aH := []
def Jp : Code := match Tryz.f205.body with | some c => c | none => .skip
def Dy : gX := ⟨au, Tryz.f205, Jw, [(247, ⟨[], false⟩)], [], 0⟩
abbrev SB : List Nat := [48, 49, 50, 51, 52, 53, 54, 55, 56, 57, 97, 98, 99, 100, 101, 102, 103, 104, 105, 106, 107, 108, 109, 110, 111, 112, 113, 114, 115, 116, 117, 118, 119, 120, 121, 122]
abbrev RI : List Nat := [48, 48, 48, 49, 48, 50, 48, 51, 48, 52, 48, 53, 48, 54, 48, 55, 48, 56, 48, 57, 49, 48, 49, 49, 49, 50, 49, 51, 49, 52, 49, 53, 49, 54, 49, 55, 49, 56, 49, 57, 50, 48, 50, 49, 50, 50, 50, 51, 50, 52, 50, 53, 50, 54, 50, 55, 50, 56, 50, 57, 51, 48, 51, 49, 51, 50, 51, 51, 51, 52, 51, 53, 51, 54, 51, 55, 51, 56, 51, 57, 52, 48, 52, 49, 52, 50, 52, 51, 52, 52, 52, 53, 52, 54, 52, 55, 52, 56, 52, 57, 53, 48, 53, 49, 53, 50, 53, 51, 53, 52, 53, 53, 53, 54, 53, 55, 53, 56, 53, 57, 54, 48, 54, 49, 54, 50, 54, 51, 54, 52, 54, 53, 54, 54, 54, 55, 54, 56, 54, 57, 55, 48, 55, 49, 55, 50, 55, 51, 55, 52, 55, 53, 55, 54, 55, 55, 55, 56, 55, 57, 56, 48, 56, 49, 56, 50, 56, 51, 56, 52, 56, 53, 56, 54, 56, 55, 56, 56, 56, 57, 57, 48, 57, 49, 57, 50, 57, 51, 57, 52, 57, 53, 57, 54, 57, 55, 57, 56, 57, 57]
end Go.AI.Lx
namespace Go.AI.Lx
open Go.Proofs Go.Proofs.YtkeaedhoaamfnaaGreatDoor
set_option maxRecDepth 10000
def Pm : Nat → Nat → List Nat
 | 0, _ => []
 | f + 1, n => if n = 0 then [] else Pm f (n / 10) ++ [48 + n % 10]
def dg (n : Nat) : List Nat := Pm 2 n
def qm (k : Nat) : List Nat := [39, 97 + k % 26] ++ (if 26 ≤ k then dg (k / 26) else [])
theorem AO : ∀ (f n : Nat), (Pm f n).length ≤ f
 | 0, n => by simp [Pm]
 | f + 1, n => by
  simp only [Pm]
  split
  ·simp
  ·have := AO f (n / 10); simp only [List.length_append, List.length_cons, List.length_nil]; omega
theorem Jg : ∀ n, n < 128 → (Utf8.encode ((n : Nat) : Int)).data.toList.map UInt8.toNat = [n] := by decide +kernel
theorem Jn {s : S} {n : Nat} (h : n < 128) : (mt.conv 21 9 (.int .i32 ((n : Nat) : Int))).run Tryz.prog s = some (.str [n]) := by
 have h1 := Jg n h
 simp only [mt.run, iN, Tryz.underlying21, Tryz.underlying9, xK, h1]
 rfl
theorem Jl : ∀ n, n < 10 → 1 ≤ n → ((SB.drop n).take (n + 1 - n)) = dg n := by decide +kernel
theorem Jk : ∀ n, n < 77 → 10 ≤ n → ((RI.drop (n * 2)).take (n * 2 + 2 - n * 2)) = dg n := by decide +kernel
section
variable {s : S}
theorem PN {n : Nat} (h1 : 1 ≤ n) (h2 : n < 77) (hw : WF s) : Cw au 247 [.int .i64 ((n : Nat) : Int)] s fun v s' => v = .str (dg n) ∧ Fw [] s s' := by
 refine aL (bb (C := wa) (e := ⟨[.int .i64 ((n : Nat) : Int)], []⟩) (F := []) (dn rfl rfl rfl) Tryz.func247 rfl (by kernel_rfl) ER rfl ⟨rfl, rfl, rfl⟩ rfl hw rfl (by simp) trivial ay trivial (by simp) ?_)
 refine jO rfl rfl rfl ?_
 refine dA rfl (fun c1 => ?_) (fun c1 => ?_)
 ·have hn : n < 10 := by have : ((n : Nat) : Int) < 10 := c1; omega
  refine ed (r := ((n + 1 : Nat) : Int)) rfl rfl (wI (by omega)) rfl ?_
  refine LL (l := SB) (n := n) (m := n + 1) Tryz.underlying9 rfl rfl rfl (by omega) (by show n + 1 ≤ 36; omega) rfl ?_
  exact aE fun s1 h1' h2' h3 h4 => ⟨_, _, rfl, by rw [← Jl n hn h1]; rfl, h1'⟩
 ·have hn : 10 ≤ n := by have : ¬ ((n : Nat) : Int) < 10 := c1; omega
  refine Pg (r := ((n * 2 : Nat) : Int)) rfl rfl (by rw [show ((n : Nat) : Int) * 2 = ((n * 2 : Nat) : Int) by omega]; exact bJ _ ⟨by omega, by omega⟩) rfl ?_
  refine Pg (r := ((n * 2 : Nat) : Int)) rfl rfl (by rw [show ((n : Nat) : Int) * 2 = ((n * 2 : Nat) : Int) by omega]; exact bJ _ ⟨by omega, by omega⟩) rfl ?_
  refine ed (r := ((n * 2 + 2 : Nat) : Int)) rfl rfl (by rw [show ((n * 2 : Nat) : Int) + 2 = ((n * 2 + 2 : Nat) : Int) by omega]; exact bJ _ ⟨by omega, by omega⟩) rfl ?_
  refine LL (l := RI) (n := n * 2) (m := n * 2 + 2) Tryz.underlying9 rfl rfl rfl (by omega) (by show n * 2 + 2 ≤ 200; omega) rfl ?_
  exact aE fun s1 h1' h2' h3 h4 => ⟨_, _, rfl, by rw [← Jk n h2 hn]; rfl, h1'⟩
def JY (n : Nat) : aB := .call 247 [.int .i64 ((n : Nat) : Int)] [] [] 1 (.atom 0) false (.ret (.atom 0) [])
theorem KJ : (List.range 77).map (fun n => cb Dy 400 [] [.code Jp] (bi [.int .i64 ((n : Nat) : Int), .int .i64 10] 0 .leaf id) (br ⟨.leaf, 0⟩ []) 0) = (List.range 77).map fun n => some (JY n) := by kernel_rfl
theorem Tx {n : Nat} (h1 : 1 ≤ n) (h2 : n < 77) (hw : WF s) : Cw au 205 [.int .i64 ((n : Nat) : Int), .int .i64 10] s fun v s' => v = .str (dg n) ∧ Fw [] s s' := by
 have hrun := List.map_inj_left.1 KJ n (List.mem_range.2 h2)
 refine aL (bb (C := Dy) (e := ⟨[], []⟩) (F := []) (dn rfl rfl rfl) Tryz.func205 rfl (by kernel_rfl) hrun rfl ⟨rfl, rfl, rfl⟩ rfl hw rfl (by simp) trivial ay trivial (by simp) ?_)
 refine ax (.str (dg n)) (fun s1 h1' h2' h3 h4 => PN h1 h2 h2') rfl rfl ?_
 exact aE fun s1 h1 h2 h3 h4 => ⟨_, _, rfl, rfl, h1⟩
theorem Qs {n : Nat} (h1 : 1 ≤ n) (h2 : n < 77) (hw : WF s) : Cw au 157 [.int .i64 ((n : Nat) : Int)] s fun v s' => v = .str (dg n) ∧ Fw [] s s' := by
 refine aL (bb (C := yZ) (e := ⟨[.int .i64 ((n : Nat) : Int)], []⟩) (F := []) (dn rfl rfl rfl) Tryz.func157 rfl (by kernel_rfl) IB rfl ⟨rfl, rfl, rfl⟩ rfl hw rfl (by simp) trivial ay trivial (by simp) ?_)
 refine ax (.str (dg n)) (fun s1 h1' h2' h3 h4 => Tx h1 h2 h2') rfl rfl ?_
 exact aE fun s1 h1 h2 h3 h4 => ⟨_, _, rfl, rfl, h1⟩
theorem Sl {n : Nat} (h1 : 1 ≤ n) (h2 : n < 77) (hw : WF s) : Cw au 112 [.int .i64 ((n : Nat) : Int)] s fun v s' => v = .str (dg n) ∧ Fw [] s s' := by
 refine aL (bb (C := za) (e := ⟨[.int .i64 ((n : Nat) : Int)], []⟩) (F := []) (dn rfl rfl rfl) Tryz.func112 rfl (by kernel_rfl) IC rfl ⟨rfl, rfl, rfl⟩ rfl hw rfl (by simp) trivial ay trivial (by simp) ?_)
 refine ax (.str (dg n)) (fun s1 h1' h2' h3 h4 => Qs h1 h2 h2') rfl rfl ?_
 exact aE fun s1 h1 h2 h3 h4 => ⟨_, _, rfl, rfl, h1⟩
theorem Lm {k : Nat} (hk : k < 2002) (hw : WF s) : Cw au 72 [.int .i64 ((k : Nat) : Int)] s fun v s' => v = .str (qm k) ∧ Fw [] s s' := by
 refine aL (bb (C := yX) (e := ⟨[.int .i64 ((k : Nat) : Int)], []⟩) (F := []) (dn rfl rfl rfl) Tryz.func72 rfl (by kernel_rfl) Iz rfl ⟨rfl, rfl, rfl⟩ rfl hw rfl (by simp) trivial ay trivial (by simp) ?_)
 refine oH (op := .rem) (w := .int .i64 ((k % 26 : Nat) : Int)) rfl rfl rfl ⟨rfl, rfl⟩ rfl ?_
 refine ed (r := ((97 + k % 26 : Nat) : Int)) rfl rfl (by rw [show (97 : Int) + ((k % 26 : Nat) : Int) = ((97 + k % 26 : Nat) : Int) by omega]; exact bJ _ ⟨by omega, by omega⟩) rfl ?_
 refine NV (r := ((97 + k % 26 : Nat) : Int)) (by show (Tryz.prog.underlying 3).isSome = true; rw [Tryz.underlying3]; rfl) Tryz.underlying21 rfl (IntWalk.i32_in _ ⟨by omega, by omega⟩) rfl ?_
 refine aD (.str [97 + k % 26]) rfl (fun _ _ _ _ _ => Jn (by omega)) rfl ?_
 refine tL (op := .add) (w := .str [39, 97 + k % 26]) rfl rfl rfl rfl rfl ?_
 refine HF rfl rfl rfl ?_
 refine dA rfl (fun c1 => ?_) (fun c1 => ?_)
 ·have hk2 : 26 ≤ k := by have : ((k : Nat) : Int) ≥ 26 := c1; omega
  refine oH (op := .quo) (w := .int .i64 ((k / 26 : Nat) : Int)) rfl rfl rfl ⟨rfl, by show some (V.int .i64 (IntKind.wrap .i64 ((k / 26 : Nat) : Int))) = _; rw [bJ _ ⟨by omega, by omega⟩]⟩ rfl ?_
  refine ax (.str (dg (k / 26))) (fun _ _ a _ _ => Sl (by omega) (by omega) a) rfl rfl ?_
  refine tL (op := .add) (w := .str ([39, 97 + k % 26] ++ dg (k / 26))) rfl rfl rfl (by simp only [oB]; rw [Nat.ble_eq_true_of_le (by have := AO 2 (k / 26); unfold dg; simp; omega)]; rfl) rfl ?_
  exact aE fun s1 h1 h2 h3 h4 => ⟨_, _, rfl, by unfold qm; rw [if_pos hk2]; rfl, h1⟩
 ·have hk2 : ¬ 26 ≤ k := by have : ¬ ((k : Nat) : Int) ≥ 26 := c1; omega
  exact aE fun s1 h1 h2 h3 h4 => ⟨_, _, rfl, by unfold qm; rw [if_neg hk2]; rfl, h1⟩
end
theorem gD {D D' : List Nat} {U U' : S → Prop} (h : iA D U) (h' : iA D' U') : iA (D ++ D') fun s => U s ∧ U' s := fun a b ⟨h1, h2⟩ hk hn =>
 ⟨h a b h1 (fun g hg => hk g (List.mem_append_left _ hg)) hn, h' a b h2 (fun g hg => hk g (List.mem_append_right _ hg)) hn⟩
theorem In {D : List Nat} {U : S → Prop} (h : iA D U) : fJ U := fun a b hf hu => h a b hu (fun g _ B hB => hf.keep g B (by simp) hB) hf.next
theorem zH {D F : List Nat} {U : S → Prop} (h : iA D U) {a b : S} (hf : Fw F a b) (hd : ∀ g ∈ D, g ∉ F) (hu : U a) : U b := h a b hu (fun g hg B hB => hf.keep g B (hd g hg) hB) hf.next
def Bl (D : List Nat) (U : S → Prop) : Prop := ∀ s, WF s → U s → ∀ g ∈ D, g < s.next
theorem pH {D D' : List Nat} {U U' : S → Prop} (h : Bl D U) (h' : Bl D' U') : Bl (D ++ D') fun s => U s ∧ U' s := fun s hw ⟨h1, h2⟩ g hg => by
 rcases List.mem_append.1 hg with hg | hg
 ·exact h s hw h1 g hg
 ·exact h' s hw h2 g hg
theorem Mv : Bl [] T0 := fun _ _ _ _ h => by cases h
theorem kB {E : cg} {F : List Nat} {s0 : S} {Q : cX → Prop} {σ : List V} {β : List Nat} {D : List Nat} {U : S → Prop} {L : List ck} {k : aB} {own : List (Nat × bP)} {v : V} {f : FuncId} {args : List V} {n : Nat} {pk : Bool} (hst : iA D U) (hbl : Bl D U)
 (hc : ∀ s, Fw F s0 s → WF s → U s → ef ⟨σ, β⟩ s own → ∃ (vs R : List V) (s' : S) (D' : List Nat) (U' : S → Prop), mu σ vs R ∧ vs.length = n ∧ aA vs ∧ lim E (.call f (args.map (sub ⟨σ, β⟩)) none) s = some ⟨.returned (sub ⟨R, β⟩ v), none, s'⟩ ∧ Fw [] s s' ∧
  iA D' U' ∧ Bl D' U' ∧ U' s' ∧ (∀ g ∈ D', s.next ≤ g) ∧ ah E F s0 Q k ⟨R, β⟩ (D ++ D') (fun s => U s ∧ U' s) L) : ah E F s0 Q (.call f args own [] n v pk k) ⟨σ, β⟩ D U L := by
 refine ec fun s hf hw hu hfa => ?_
 obtain ⟨vs, R, s', D', U', h0, h1, h2, h3, h4, h5, h6, h7, h8, h9⟩ := hc s hf hw hu hfa
 have hu' := In hst _ _ h4 hu
 refine .inl ⟨vs, R, s', D ++ D', fun s => U s ∧ U' s, h0, h1, h2, h3, h4.mono (by simp), trivial, gD hst h5, ⟨hu', h7⟩, fun g hg => ?_, h9⟩
 rcases List.mem_append.1 hg with hg | hg
 ·exact ⟨hbl s' (h4.wf hw) hu' g hg, .inl hg⟩
 ·exact ⟨h6 s' (h4.wf hw) h7 g hg, .inr (h8 g hg)⟩
def KE : List (List Nat × Ty) → List (List Nat × Ty) → Bool
 | (x, t) :: l, (y, u) :: m => decide (x = y) && ep t u && KE l m
 | _, _ => true
def Hc (l m : List (List Nat × Ty)) : Bool := decide (l.length = m.length) && KE l m
section
variable {K : S → Prop}
theorem BY (hK : fJ K) {vs us : List (List Nat)} {t u : Ty} {vr nm rw vr' nm' rw' : V} {s : S} (hR : DW K vs t vr nm rw) (hR' : DW K us u vr' nm' rw') (hw : WF s) (hk : K s) :
 Cw au 25 [.agg [vr, nm, rw], .agg [vr', nm', rw']] s fun v s' => v = .bool (decide (vs = us) && ep t u) ∧ Fw [] s s' := by
 have ho := hR.ty.one
 have hov := hR.vars.row.one
 have ho' := hR'.ty.one
 have hov' := hR'.vars.row.one
 refine aL (bb (C := nN) (e := ⟨[vr, nm, rw, vr', nm', rw'], []⟩) (F := []) (dn rfl rfl rfl) Tryz.func25 rfl (by kernel_rfl) uE rfl ⟨rfl, by simp [aA, ho.1, ho.2, ho'.1, ho'.2, hov, hov'], rfl⟩ rfl hw rfl (by simp) trivial ay trivial (by simp) ?_)
 refine bd fun b1 hb1 hd1 => ?_
 refine bd fun b2 hb2 hd2 => ?_
 refine ax (.bool (decide (vs = us))) (fun _ a b _ _ => EN hK hR.vars hR'.vars b (hK _ _ a hk)) rfl rfl ?_
 refine dA rfl (fun c1 => ?_) (fun c1 => ?_)
 ·refine ax (.bool (ep t u)) (fun a b c _ _ => KD hK (cY t) t u nm rw nm' rw' a (Nat.le_refl _) hR.ty hR'.ty c (hK _ _ b hk)) rfl rfl ?_
  exact aE fun s1 h1 h2 h3 h4 => ⟨_, _, rfl, by show V.bool _ = V.bool _; rw [decide_eq_true c1, Bool.true_and], h1⟩
 ·exact aE fun s1 h1 h2 h3 h4 => ⟨_, _, rfl, by show V.bool false = V.bool _; rw [decide_eq_false c1, Bool.false_and], h1⟩
end
structure MS (K : S → Prop) (vs : List (List Nat)) (t : Ty) (G : List Nat) (o : Option Nat) (vr nm rw : V) (s : S) : Prop where
 vars : UV vs o vr s
 ty : MT K G t nm rw s
 byt : ∀ x ∈ vs, Bytes x
 len : vs.length < 4611686018427387904
section
variable {K : S → Prop} {vs : List (List Nat)} {t : Ty} {G : List Nat} {o : Option Nat} {vr nm rw : V} {s s' : S}
theorem MS.keep (h : MS K vs t G o vr nm rw s) (hk : KB (G ++ o.toList) s s') (hn : s.next ≤ s'.next) : MS K vs t G o vr nm rw s' :=
 ⟨UV.stb s s' h.vars (fun g hg => hk g (List.mem_append_right _ hg)) hn, h.ty.keep (hk.mono fun g hg => List.mem_append_left _ hg) hn, h.byt, h.len⟩
theorem MS.stb : iA (G ++ o.toList) (MS K vs t G o vr nm rw) := fun _ _ h hk hn => h.keep hk hn
theorem MS.bl : Bl (G ++ o.toList) (MS K vs t G o vr nm rw) := fun s hw h g hg => by
 rcases List.mem_append.1 hg with hg | hg
 ·exact h.ty.2 g hg
 ·exact pQ h.vars hw g hg
theorem MS.one (h : MS K vs t G o vr nm rw s) : vr.one = true ∧ nm.one = true ∧ rw.one = true := ⟨h.vars.one, h.ty.one⟩
theorem MS.rds (h : MS K vs t G o vr nm rw s) : DW (fun s' => K s' ∧ KB (G ++ o.toList) s s' ∧ s.next ≤ s'.next) vs t vr nm rw :=
 ⟨(UV.txs h.vars h.len h.byt).mono fun s' hs => UV.stb s s' h.vars (fun g hg => hs.2.1 g (List.mem_append_right _ hg)) hs.2.2, h.ty.1.mono fun s' hs => ⟨hs.1, hs.2.1.mono fun g hg => List.mem_append_left _ hg⟩⟩
theorem MS.none : MS K [] (.mk [] []) [] none .nilslice (.str []) .nilslice s := ⟨UV.nil s, MT.none, by simp, by simp⟩
end
def fq (vs : List (List Nat)) (t : Ty) : Bool := gv vs t && decide (vs.length = (er t []).length)
theorem gE {vs : List (List Nat)} {t : Ty} (h : gv vs t = true) : gt t = true := by
 unfold gv at h; simp only [Bool.and_eq_true] at h; exact h.1.1
section
variable {K : S → Prop} {n : Nat}
theorem rM (hK : Kn K n) {vs : List (List Nat)} {t : Ty} {vr nm rw : V} {s : S} (hn : n ≤ s.next) (hR : DW K vs t vr nm rw) (hv : gt t = true) (hw : WF s) (hG : cF s) (hk : K s) :
 Cw au 47 [.agg [vr, nm, rw]] s fun v s' => v = .bool (decide (vs.length = (er t []).length)) ∧ Fw [] s s' := by
 have ho := hR.ty.one
 have hov := hR.vars.row.one
 have hsz := (bu hv).1
 refine aL (bb (C := qP) (e := ⟨[vr, nm, rw], []⟩) (F := []) (dn rfl rfl rfl) Tryz.func47 rfl (by kernel_rfl) zX rfl ⟨rfl, by simp [aA, ho.1, ho.2, hov], rfl⟩ rfl hw rfl (by simp) trivial ay trivial (by simp) ?_)
 refine bd fun b1 hb1 hd1 => ?_
 refine kB ay Mv fun s1 k1 k2 k3 k4 => ?_
 obtain ⟨v, s2, hcall, o', hU, hX, hby, hf⟩ := Ed hK (cY t) t [] nm rw .nilslice none s1 (Nat.le_refl _) hR.ty k2 (hG.keep k1.ro) (hK.still _ _ k1 hk) (Nat.le_trans hn k1.next) (fun X hX => by cases hX) (UV.nil _) (by simp) (by simp only [List.length_nil]; omega)
 have hl := ki t []
 simp only [List.length_nil] at hl
 refine ⟨[v], _, s2, o'.toList, UV (er t []) o' v, inferInstance, rfl, by simp [aA, hU.one], hcall, hf, UV.stb, fun s hw h => pQ h hw, hU, fun g hg => ?_, ?_⟩
 ·cases o' with
  | none => simp at hg
  | some X =>
   simp at hg; subst hg
   rcases hX g rfl with h | h
   ·cases h
   ·exact h
 refine eL rfl (fun s1 _ _ => hR.vars.len s1) rfl ?_
 refine eL rfl (fun s1 _ _ => (UV.txs hU (by omega) hby).len s1) rfl ?_
 refine gP rfl rfl rfl ?_
 exact aE fun s1 h1 h2 h3 h4 => ⟨_, _, rfl, by show V.bool _ = V.bool _; congr 1; exact decide_eq_decide.2 (by omega), h1⟩
theorem Mt {G : List Nat} {l : List (List Nat × Ty)} {o : Option Nat} {v : V} : Bl (G ++ o.toList) (BM K G l o v) := fun _ hw h => h.blk hw
theorem Fp (hK : Kn K n) {vs : List (List Nat)} {t u : Ty} {vr nm rw nm' rw' : V} {s : S} (hn : n ≤ s.next) (hR : DW K vs t vr nm rw) (hR' : gY K u nm' rw') (hw : WF s) (hG : cF s) (hk : K s) :
 Cw au 27 [.agg [vr, nm, rw], .agg [nm', rw']] s fun v s' => v = .bool (wD vs t u).isSome ∧ Fw [] s s' := by
 have ho := hR.ty.one
 have hov := hR.vars.row.one
 have ho' := hR'.one
 refine aL (bb (C := oP) (e := ⟨[vr, nm, rw, nm', rw'], []⟩) (F := []) (dn rfl rfl rfl) Tryz.func27 rfl (by kernel_rfl) wR rfl ⟨rfl, by simp [aA, ho.1, ho.2, ho'.1, ho'.2, hov], rfl⟩ rfl hw rfl (by simp) trivial ay trivial (by simp) ?_)
 refine bd fun b1 hb1 hd1 => ?_
 refine bd fun b2 hb2 hd2 => ?_
 refine kB ay Mv fun s1 k1 k2 k3 k4 => ?_
 obtain ⟨v, s2, hcall, G, o, lv, rfl, hB, hG2, hf⟩ := Hw hK (Nat.le_trans hn k1.next) hR hR' k2 (hG.keep k1.ro) (hK.still _ _ k1 hk)
 refine ⟨[lv, .bool (wD vs t u).isSome], _, s2, _, _, inferInstance, rfl, by simp [aA, hB.one]; rfl, hcall, hf, BM.stb, Mt, hB, hG2, ?_⟩
 exact aE fun s1 h1 h2 h3 h4 => ⟨_, _, rfl, rfl, h1⟩
def fG (vs : List (List Nat)) (t : Ty) (us : List (List Nat)) (u : Ty) : Bool := fq vs t && fq us u && (wD vs t u).isSome
theorem rO (hK : Kn K n) {vs us : List (List Nat)} {t u : Ty} {vr nm rw vr' nm' rw' : V} {s : S} (hn : n ≤ s.next) (hR : DW K vs t vr nm rw) (hR' : DW K us u vr' nm' rw') (hw : WF s) (hG : cF s) (hk : K s) :
 Cw au 28 [.agg [vr, nm, rw], .agg [vr', nm', rw']] s fun v s' => v = .bool (fG vs t us u) ∧ Fw [] s s' := by
 have ho := hR.ty.one
 have hov := hR.vars.row.one
 have ho' := hR'.ty.one
 have hov' := hR'.vars.row.one
 have hkk : ∀ s1, Fw [] s s1 → K s1 := fun s1 h1 => hK.still _ _ h1 hk
 refine aL (bb (C := qR) (e := ⟨[vr, nm, rw, vr', nm', rw'], []⟩) (F := []) (dn rfl rfl rfl) Tryz.func28 rfl (by kernel_rfl) zZ rfl ⟨rfl, by simp [aA, ho.1, ho.2, ho'.1, ho'.2, hov, hov'], rfl⟩ rfl hw rfl (by simp) trivial ay trivial (by simp) ?_)
 have no : ∀ {s1 : S}, Fw [] s s1 → fG vs t us u = false → (tW fun v s' => v = .bool (fG vs t us u) ∧ Fw [] s s') ⟨.returned (.bool false), none, s1⟩ := fun {s1} h1 h => ⟨_, _, rfl, by rw [h], h1⟩
 refine bd fun b1 hb1 hd1 => ?_
 refine bd fun b2 hb2 hd2 => ?_
 refine ax (.bool (gv vs t)) (fun a b c _ _ => oh hK (Nat.le_trans hn b.next) hR c (hG.keep b.ro) (hkk a b)) rfl rfl ?_
 refine aI rfl (fun c1 => ?_) (fun c1 => ?_)
 ·refine ax (.bool (gv us u)) (fun a b c _ _ => oh hK (Nat.le_trans hn b.next) hR' c (hG.keep b.ro) (hkk a b)) rfl rfl ?_
  refine aI rfl (fun c2 => ?_) (fun c2 => ?_)
  ·refine ax (.bool (decide (vs.length = (er t []).length))) (fun a b c _ _ => rM hK (Nat.le_trans hn b.next) hR (gE c1) c (hG.keep b.ro) (hkk a b)) rfl rfl ?_
   refine aI rfl (fun c3 => ?_) (fun c3 => ?_)
   ·refine ax (.bool (decide (us.length = (er u []).length))) (fun a b c _ _ => rM hK (Nat.le_trans hn b.next) hR' (gE c2) c (hG.keep b.ro) (hkk a b)) rfl rfl ?_
    refine aI rfl (fun c4 => ?_) (fun c4 => ?_)
    ·refine ax (.bool (wD vs t u).isSome) (fun a b c _ _ => Fp hK (Nat.le_trans hn b.next) hR hR'.ty c (hG.keep b.ro) (hkk a b)) rfl rfl ?_
     exact aE fun s1 h1 h2 h3 h4 => ⟨_, _, rfl, by unfold fG fq; rw [c1, c2, c3, c4]; simp only [Bool.true_and]; rfl, h1⟩
    ·exact aE fun s1 h1 h2 h3 h4 => no h1 (by unfold fG fq; rw [c4]; simp)
   ·exact aE fun s1 h1 h2 h3 h4 => no h1 (by unfold fG fq; rw [c3]; simp)
  ·exact aE fun s1 h1 h2 h3 h4 => no h1 (by unfold fG fq; rw [c2]; simp)
 ·exact aE fun s1 h1 h2 h3 h4 => no h1 (by unfold fG fq; rw [c1]; simp)
end
def oE : List (List Nat) → Nat → List (List Nat × Ty)
 | [], _ => []
 | x :: r, i => (x, .mk (qm i) []) :: oE r (i + 1)
def DU : Nat → List (List Nat)
 | 0 => []
 | n + 1 => DU n ++ [qm n]
theorem mc : ∀ n, (DU n).length = n
 | 0 => rfl
 | n + 1 => by simp only [DU, List.length_append, mc n, List.length_cons, List.length_nil]
theorem Cl (x : List Nat) : ∀ (l : List (List Nat)) (k : Nat), oE (l ++ [x]) k = oE l k ++ [(x, .mk (qm (k + l.length)) [])]
 | [], k => rfl
 | y :: r, k => by
  simp only [List.cons_append, oE, Cl x r (k + 1), List.length_cons]
  rw [show k + 1 + r.length = k + (r.length + 1) by omega]
theorem ng : ∀ (l : List (List Nat)) (k : Nat), tJ (oE l k) = l
 | [], _ => rfl
 | x :: r, k => by simp only [oE, List.map_cons, ng r (k + 1)]
theorem EX {x : List Nat} {t : Ty} : ∀ {l : List (List Nat)} {k : Nat}, bX x (oE l k) = some t → ∃ i, k ≤ i ∧ i < k + l.length ∧ t = .mk (qm i) []
 | [], k, h => by cases h
 | y :: r, k, h => by
  simp only [oE, bX] at h
  split at h
  ·cases h; exact ⟨k, Nat.le_refl _, by simp, rfl⟩
  ·obtain ⟨i, h1, h2, h3⟩ := EX h
   exact ⟨i, by omega, by simp only [List.length_cons]; omega, h3⟩
theorem yH : ∀ (f n : Nat), Bytes (Pm f n)
 | 0, n => fun z hz => by simp [Pm] at hz
 | f + 1, n => fun z hz => by
  simp only [Pm] at hz
  split at hz
  ·simp at hz
  ·rcases List.mem_append.1 hz with h | h
   ·exact yH f _ z h
   ·simp at h; omega
theorem yc (k : Nat) : Bytes (qm k) := fun z hz => by
 unfold qm at hz
 rcases List.mem_append.1 hz with h | h
 ·simp at h; omega
 ·split at h
  ·exact yH 2 _ z h
  ·simp at h
theorem NK (k : Nat) : (qm k).length ≤ 4 := by
 have := AO 2 (k / 26)
 unfold qm
 split
 ·unfold dg; simp only [List.length_append, List.length_cons, List.length_nil]; omega
 ·simp
theorem CG : ∀ k, k < 2002 → aK (qm k) = 4 := by decide +kernel
theorem Nk {x : List Nat} (h : aK x = 4) : gt (.mk x []) = true := by
 have h1 : x ≠ [45, 62] := fun e => by rw [e, pu] at h; cases h
 have h2 : x ≠ [44] := fun e => by rw [e, pt] at h; cases h
 have h3 : x ≠ [73, 110, 116] := fun e => by rw [e, vz] at h; cases h
 simp [gt, cY, cR, dp, FF, nu, eX, ek, h1, h2, h3, h]
mutual
theorem ra : ∀ (t : Ty) (acc : List (List Nat)), acc.Nodup → (er t acc).Nodup
 | .mk name args, acc, h => by
  simp only [er]
  refine GM args _ ?_
  split
  ·rename_i hh
   rw [List.nodup_append]
   exact ⟨h, by simp, fun x hx y hy e => by simp at hy; subst hy; subst e; exact hh.2 hx⟩
  ·exact h
theorem GM : ∀ (l : List Ty) (acc : List (List Nat)), acc.Nodup → (fL l acc).Nodup
 | [], acc, h => by simpa only [fL] using h
 | t :: r, acc, h => by simp only [fL]; exact GM r _ (ra t acc h)
end
theorem PU {t : Ty} (hv : gt t = true) : SW (oE (er t []) 0) := fun k x h => by
 obtain ⟨i, h1, h2, rfl⟩ := EX h
 have hl := ki t []
 have hs := (bu hv).1
 simp only [List.length_nil] at hl
 refine ⟨jA t [] (fun x hx => by cases hx) k ?_, Nk (CG i (by omega))⟩
 rw [← ng (er t []) 0]
 by_cases hk : k ∈ tJ (oE (er t []) 0)
 ·exact hk
 ·rw [eV.2 hk] at h; cases h
theorem KR {l : List (List Nat)} {k : Nat} {x : List Nat} {t : Ty} (h : bX x (oE l k) = some t) : cY t ≤ 1 := by
 obtain ⟨i, h1, h2, rfl⟩ := EX h
 simp [cY, cR]
theorem Ef {D : List Nat} {U : S → Prop} (hst : iA D U) (hbl : Bl D U) {l : List (List Nat)} {o : Option Nat} {v : V} {s : S} (hU : U s) (h : UV l o v s) (hw : WF s) {b : Nat} {x : List Nat} (hb : s.get b = some (.cells 9 false 1 [⟨0, 0, [.str x]⟩])) (hl : l.length ≤ 999999) (hd : ∀ g ∈ D, o ≠ some g) :
 ∃ v' s' X, wG.run Tryz.prog s (.bif .append #[22, 22] [v, .slice ⟨b, 0, 0⟩ 0 1 (some 1) 1]) = some (v', s') ∧ U s' ∧ UV (l ++ [x]) (some X) v' s' ∧ Fw o.toList s s' ∧ (∀ g ∈ D, g < s'.next) ∧ X < s'.next ∧ (o = some X ∨ s.next ≤ X) ∧ ∀ g ∈ D, some X ≠ some g := by
 obtain ⟨v', s', X, h1, h2, h3, h4, h5⟩ := h.app hw hb hl
 refine ⟨v', s', X, h1, zH hst h3 (fun g hg h => ?_) hU, h2, h3, fun g hg => Nat.lt_of_lt_of_le (hbl s hw hU g hg) h3.next, h4, h5, fun g hg e => ?_⟩
 ·have := hd g hg
  cases o with
  | none => simp at h
  | some Y => simp at h; subst h; exact this rfl
 ·cases e
  rcases h5 with h5 | h5
  ·exact hd X hg h5
  ·have := hbl s hw hU X hg; omega
theorem Lr {mm : Nat} {M : List (List Nat × V)} : Bl [mm] fun s => MP s mm M := fun s hw h g hg => by simp at hg; subst hg; exact hw _ _ h
theorem BC {l : List (List Nat)} {o : Option Nat} {v : V} : Bl o.toList (UV l o v) := fun _ hw h => pQ h hw
theorem Qb {o : Option Nat} {a b : Nat} (h : ∀ X, o = some X → (none : Option Nat) = some X ∨ a ≤ X) (hab : b ≤ a) : ∀ g ∈ o.toList, b ≤ g := fun g hg => by
 cases o with
 | none => simp at hg
 | some X =>
  simp at hg; subst hg
  rcases h g rfl with h | h
  ·cases h
  ·omega
section
variable {K : S → Prop} {n : Nat}
def SO (s : S) (mm : Nat) (v : V) (ins : List (List Nat)) (o1 : Option Nat) (nm rw : V) (b1 b2 b3 : Nat) (j : Nat) : ck := fun vs bs D U => ∃ (i : Nat) (M : List (List Nat × V)) (o2 : Option Nat) (v2 : V), i ≤ ins.length ∧ j = ins.length - i ∧
 vs = [.map mm, v, .int .i64 ((ins.length : Nat) : Int), .int .i64 ((i : Nat) : Int), nm, rw, .nilslice, .str [], .nilslice, v2, .str [], .nilslice] ∧ bs = [b1, b2, b3] ∧ D = ([mm] ++ o1.toList) ++ o2.toList ∧ U = (fun s => (MP s mm M ∧ UV ins o1 v s) ∧ UV (DU i) o2 v2 s) ∧
 v2.one = true ∧ (∀ X, o2 = some X → s.next ≤ X) ∧ (∀ g ∈ [mm] ++ o1.toList, o2 ≠ some g) ∧ rX T0 M (oE (ins.take i) 0) ∧ kZ M
theorem KU (hK : Kn K n) {t : Ty} {nm rw : V} {s : S} (hn : n ≤ s.next) (hR : gY K t nm rw) (hv : gt t = true) (hw : WF s) (hG : cF s) (hk : K s) :
 Cw au 48 [.agg [nm, rw]] s fun v s' => ∃ vr nm' rw' G o, v = .agg [vr, nm', rw'] ∧ MS T0 (DU (er t []).length) (fO (oE (er t []) 0) t) G o vr nm' rw' s' ∧ (∀ g ∈ G ++ o.toList, s.next ≤ g) ∧ Fw [] s s' := by
 have ho := hR.one
 have hkk : ∀ s1, Fw [] s s1 → K s1 := fun s1 h1 => hK.still _ _ h1 hk
 have hsz := (bu hv).1
 have hl := ki t []
 simp only [List.length_nil] at hl
 have hnd := ra t [] (by simp)
 have hok := PU hv
 have hsb : cY (fO (oE (er t []) 0) t) ≤ cY t * 1 := Kz (Nat.le_refl _) (fun x t' h => KR h) t
 have hkd : ∀ x ∈ er t [], aK x = 4 := jA t [] (fun x hx => by cases hx)
 refine aL (bb (C := sO) (e := ⟨[nm, rw], []⟩) (F := []) (dn rfl rfl rfl) Tryz.func48 rfl (by kernel_rfl) BZ rfl ⟨rfl, by simp [aA, ho.1, ho.2], rfl⟩ rfl hw rfl (by simp) trivial ay trivial (by simp) ?_)
 refine bd fun b1 hb1 hd1 => ?_
 refine bd fun b2 hb2 hd2 => ?_
 refine jb fun s3 j1 j2 j3 j4 => ?_
 have hal := Fw.alloc [] j2 (.map [] 0)
 refine ⟨[.map s3.next], _, s3.alloc (.map [] 0), [s3.next], fun s => MP s s3.next [], inferInstance, rfl, rfl, rfl, hal.mono (by simp), dP, bT _ _, fun g hg => ?_, ?_⟩
 ·simp at hg; subst hg; rw [S.next_alloc]; exact ⟨by omega, .inr (Nat.le_refl _)⟩
 have hmn : s.next ≤ s3.next := j1.next
 generalize s3.next = mm at hmn
 refine bd fun b3 hb3 hd3 => ?_
 refine kB dP Lr fun s1 k1 k2 k3 k4 => ?_
 obtain ⟨v, s2, hcall, o1, hU, hX, hby, hf⟩ := Ed hK (cY t) t [] nm rw .nilslice none s1 (Nat.le_refl _) hR k2 (hG.keep k1.ro) (hkk s1 k1) (Nat.le_trans hn k1.next) (fun X hX => by cases hX) (UV.nil _) (by simp) (by simp only [List.length_nil]; omega)
 refine ⟨[v], _, s2, o1.toList, UV (er t []) o1 v, inferInstance, rfl, by simp [aA, hU.one], hcall, hf, UV.stb, BC, hU, Qb hX (Nat.le_refl _), ?_⟩
 generalize hins : er t [] = ins at *
 have htx := UV.txs hU (by omega) hby
 refine eL rfl (fun s1 _ _ => htx.len s1) rfl ?_
 refine jP (SO s mm v ins o1 nm rw b1 b2 b3) ins.length ⟨0, [], none, .nilslice, by omega, rfl, rfl, rfl, by simp, funext fun s => propext ⟨fun h => ⟨h, UV.nil s⟩, fun h => h.1⟩, rfl, (fun X h => by cases h), (fun g hg h => by cases h), trivial, (fun p hp => by cases hp)⟩ (gD dP UV.stb) ?_
 rintro j _ _ _ _ ⟨i, M, o2, v2, hi, rfl, rfl, rfl, rfl, rfl, hone2, hX2, hd2, hM, hkm⟩ - - -
 have hst := gD (@dP mm M) (@UV.stb ins o1 v)
 have hbl := pH (@Lr mm M) (@BC ins o1 v)
 refine jO rfl rfl rfl ?_
 refine dA rfl (fun c1 => ?_) (fun c1 => ?_)
 ·obtain ⟨x, hx, hd⟩ := et (show i < ins.length by omega)
  have hxb := hby x (List.mem_of_getElem? hx)
  obtain ⟨p, hp, hld⟩ := htx.at hx
  refine aD (.ptr p) rfl (fun _ _ _ _ _ => hp) rfl ?_
  refine aD (.str x) rfl (fun a _ _ b _ => hld a (b rfl).1.2) rfl ?_
  refine ax (.str (qm i)) (fun _ _ a _ _ => Lm (by omega) a) rfl rfl ?_
  refine jb fun s4 q1 q2 q3 q4 => ?_
  obtain ⟨s5, hrun, hmp, hf5, hml2⟩ := MP.upd q3.1.1 q2 hkm hxb (.agg [.str (qm i), .nilslice]) Tryz.underlying78
  have hnew : gd x (.agg [.str (qm i), .nilslice]) M = M ++ [(x, .agg [.str (qm i), .nilslice])] := by
   refine np _ ?_
   rcases hM.get x with ⟨t', nm', rw', h1, h2, h3⟩ | ⟨h1, h2⟩
   ·have := vd.1 (show (bX x (oE (ins.take i) 0)).isSome = true by rw [h2]; rfl)
    exact absurd ((ng (ins.take i) 0) ▸ this) (Hu hnd hx)
   ·exact h1
  have htk : ins.take (i + 1) = ins.take i ++ [x] := by rw [List.take_add_one, hx]; rfl
  have hM2 : rX T0 (gd x (.agg [.str (qm i), .nilslice]) M) (oE (ins.take (i + 1)) 0) := by
   rw [hnew, htk, Cl, Nat.zero_add, List.length_take, Nat.min_eq_left hi]
   refine rX.snoc ?_ hM
   simp only [gY]
   exact ⟨trivial, yc i, by have := NK i; omega, [], .nil, by simp only [dS]⟩
  have hkm2 := hkm.set hxb (.agg [.str (qm i), .nilslice])
  have hU1 : UV ins o1 v s5 := zH UV.stb hf5 (fun g hg h => by
   simp at h; subst h
   cases o1 with
   | none => simp at hg
   | some X => simp at hg; subst hg; exact JN q3.1.2 q3.1.1 rfl) q3.1.2
  have hU2 : UV (DU i) o2 v2 s5 := zH UV.stb hf5 (fun g hg h => by
   simp at h; subst h
   cases o2 with
   | none => simp at hg
   | some X => simp at hg; subst hg; exact JN q3.2 q3.1.1 rfl) q3.2
  generalize gd x (.agg [.str (qm i), .nilslice]) M = M2 at hmp hM2 hkm2
  have hst2 := gD (@dP mm M2) (@UV.stb ins o1 v)
  have hbl2 := pH (@Lr mm M2) (@BC ins o1 v)
  refine ⟨[], _, s5, ([mm] ++ o1.toList) ++ o2.toList, fun s => (MP s mm M2 ∧ UV ins o1 v s) ∧ UV (DU i) o2 v2 s, inferInstance, rfl, rfl, hrun, hf5.mono (by simp), gD hst2 UV.stb, ⟨⟨hmp, hU1⟩, hU2⟩, fun g hg => ⟨pH hbl2 BC s5 (hf5.wf q2) ⟨⟨hmp, hU1⟩, hU2⟩ g hg, .inl hg⟩, ?_⟩
  refine ax (.str (qm i)) (fun _ _ a _ _ => Lm (by omega) a) rfl rfl ?_
  refine bd fun b4 hb4 hd4 => ?_
  refine jb fun s6 r1 r2 r3 r4 => ?_
  obtain ⟨v', s7, X, hrun7, hU7, hV7, hf7, hD7, hX7, hXo, hXn⟩ := Ef hst2 hbl2 r3.1 r3.2 r2 (b := b4) r4.1 (by rw [mc]; omega) hd2
  refine ⟨[v'], _, s7, ([mm] ++ o1.toList) ++ [X], fun s => (MP s mm M2 ∧ UV ins o1 v s) ∧ UV (DU i ++ [qm i]) (some X) v' s, inferInstance, rfl, by simp [aA, hV7.one], hrun7, hf7.mono (by intro g hg; exact List.mem_append_right _ hg), gD hst2 UV.stb, ⟨hU7, hV7⟩, fun g hg => ?_, ?_⟩
  ·rcases List.mem_append.1 hg with hg | hg
   ·exact ⟨hD7 g hg, .inl (List.mem_append_left _ hg)⟩
   ·simp at hg; subst hg
    refine ⟨hX7, ?_⟩
    rcases hXo with h | h
    ·exact .inl (by simp [h])
    ·exact .inr h
  refine ed (r := ((i + 1 : Nat) : Int)) rfl rfl (wI (by omega)) rfl ?_
  refine kT rfl (gD hst2 UV.stb) ⟨ins.length - (i + 1), by omega, i + 1, M2, some X, v', by omega, rfl, rfl, rfl, rfl, rfl, hV7.one, fun Y hY => ?_, hXn, hM2, hkm2⟩
  cases hY
  rcases hXo with h | h
  ·exact hX2 X h
  ·exact Nat.le_trans r1.next h
 ·have hil : i = ins.length := by omega
  subst hil
  rw [List.take_length] at hM
  refine bd fun b5 hb5 hd5 => ?_
  refine ec fun s6 f1 f2 f3 f4 => ?_
  have g5 : s6.get b5 = some (xF 0) := f4.1
  have hdl := pH hbl BC s6 f2 f3
  have hml : mm < s6.next := hdl mm (by simp)
  have hmb : mm ≠ b5 := fun h => hd5 (by subst h; simp)
  have hKf : Kf (fun s => K s ∧ MP s mm M) b5 s6.next := by
   intro F a b hF hf hk
   refine ⟨hK F a b (fun g hg => ?_) hf hk.1, hf.keep mm _ (fun h => ?_) hk.2⟩
   ·have := f1.next
    rcases hF g hg with h | h <;> omega
   ·rcases hF mm h with h | h
    ·exact hmb h
    ·omega
  have hpl := (Aj (m := oE ins 0) t 0).1 (by omega)
  have hnil : ∀ x t', bX x (oE ins 0) = some t' → ∀ N, MM 44 tp .nilmap (fun s => K s ∧ MP s mm M) T0 b5 s6.next N := fun x t' hx N => by
   have := Ct (Ko := T0) hKf Fj rfl (m := []) (fun x t h => by cases h) (fun x t h => by cases h) N
   rw [show (tp : Ty → Nat → Ty × Nat) = iS [] from funext fun t => funext fun c => (AR t c).symm]
   exact this
  obtain ⟨v6, s7, hcall7, nm7, rw7, G, rfl, hMT, hGn, hc7, hf7⟩ := Ct (Ko := T0) hKf ((hM.mono fun _ _ => trivial).lk hkm fun s h => ⟨trivial, h.2⟩) rfl (fun x t' hx => by have := KR hx; omega) hnil (cY t) t 0 nm rw s6 (Nat.le_refl _) (GS hv) (hR.mono fun _ h => h.1) f2 ⟨hkk s6 f1, f3.1.1⟩ (Nat.le_refl _) g5 (by rw [hpl]; simp only; omega)
  rw [hpl] at hMT hc7
  simp only at hMT hc7
  have hoM := hMT.one
  have hV7 : UV (DU ins.length) o2 v2 s7 := zH UV.stb hf7 (fun g hg h => by simp at h; subst h; exact hd5 (List.mem_append_right _ hg)) f3.2
  refine .inl ⟨[.int .i64 (((0 + cY (fO (oE ins 0) t) : Nat) : Nat) : Int), nm7, rw7], _, s7, o2.toList ++ G, fun s => UV (DU ins.length) o2 v2 s ∧ MT T0 G (fO (oE ins 0) t) nm7 rw7 s, inferInstance, rfl, by simp [aA, hoM.1, hoM.2, fD], hcall7, hf7.mono (by simp [fk]; exact .inl rfl), ⟨hc7, trivial⟩,
   gD UV.stb MT.stb, ⟨hV7, hMT⟩, fun g hg => ?_, ?_⟩
  ·rcases List.mem_append.1 hg with hg | hg
   ·exact ⟨pQ hV7 (hf7.wf f2) g hg, .inl (List.mem_append_right _ hg)⟩
   ·exact ⟨hMT.2 g hg, .inr (hGn g hg)⟩
  refine aE fun s8 h1 h2 h3 h4 => ⟨_, _, rfl, v2, nm7, rw7, G, o2, rfl, ⟨h3.1, h3.2, ?_, by rw [mc]; omega⟩, fun g hg => ?_, h1⟩
  ·intro x hx
   have : ∀ k, ∀ x ∈ DU k, Bytes x := by
    intro k
    induction k with
    | zero => intro x hx; cases hx
    | succ k ih =>
     intro x hx
     simp only [DU] at hx
     rcases List.mem_append.1 hx with h | h
     ·exact ih x h
     ·simp at h; subst h; exact yc k
   exact this _ x hx
  ·rcases List.mem_append.1 hg with hg | hg
   ·exact Nat.le_trans f1.next (hGn g hg)
   ·cases o2 with
    | none => simp at hg
    | some Y => simp at hg; subst hg; exact hX2 g rfl
end
def Bq (vs : List (List Nat)) (t : Ty) : List (List Nat) := if fq vs t = true then DU (er t []).length else []
def Br (vs : List (List Nat)) (t : Ty) : Ty := if fq vs t = true then fO (oE (er t []) 0) t else .mk [] []
def KQ (vs : List (List Nat)) (t : Ty) : Int := if gv vs t = true then (if fq vs t = true then 0 else 1) else 32
def TM (K : S → Prop) (vs : List (List Nat)) (t : Ty) (s : S) : cX → Prop := tW fun v s' => ∃ vr' nm' rw' G o, v = .tuple [.agg [vr', nm', rw'], .int .i64 (KQ vs t)] ∧ MS K (Bq vs t) (Br vs t) G o vr' nm' rw' s' ∧ (∀ g ∈ G ++ o.toList, s.next ≤ g) ∧ Fw [] s s'
theorem Lb {K : S → Prop} {vs : List (List Nat)} {t : Ty} {s s1 : S} {e : Int} (h1 : Fw [] s s1) (hc : fq vs t = false) (he : KQ vs t = e) : TM K vs t s ⟨.returned (.tuple [.agg [.nilslice, .str [], .nilslice], .int .i64 e]), none, s1⟩ :=
 ⟨_, _, rfl, .nilslice, .str [], .nilslice, [], none, by rw [he], by unfold Bq Br; rw [hc]; exact MS.none, by simp, h1⟩
section
variable {K : S → Prop} {n : Nat}
theorem Cr (hK : Kn K n) {vs : List (List Nat)} {t : Ty} {vr nm rw : V} {s : S} (hn : n ≤ s.next) (hR : DW K vs t vr nm rw) (hw : WF s) (hG : cF s) (hk : K s) :
 Cw au 21 [.agg [vr, nm, rw]] s fun v s' => ∃ vr' nm' rw' G o, v = .tuple [.agg [vr', nm', rw'], .int .i64 (KQ vs t)] ∧ MS T0 (Bq vs t) (Br vs t) G o vr' nm' rw' s' ∧ (∀ g ∈ G ++ o.toList, s.next ≤ g) ∧ Fw [] s s' := by
 have ho := hR.ty.one
 have hov := hR.vars.row.one
 have hkk : ∀ s1, Fw [] s s1 → K s1 := fun s1 h1 => hK.still _ _ h1 hk
 refine aL (bb (C := sP) (e := ⟨[vr, nm, rw], []⟩) (F := []) (dn rfl rfl rfl) Tryz.func21 rfl (by kernel_rfl) Cb rfl ⟨rfl, by simp [aA, ho.1, ho.2, hov], rfl⟩ rfl hw rfl (by simp) trivial ay trivial (by simp) ?_)
 show ah au [] s (TM T0 vs t s) _ _ _ _ _
 refine bd fun b1 hb1 hd1 => ?_
 refine bd fun b2 hb2 hd2 => ?_
 refine ax (.bool (gv vs t)) (fun a b c _ _ => oh hK (Nat.le_trans hn b.next) hR c (hG.keep b.ro) (hkk a b)) rfl rfl ?_
 refine fl rfl rfl ?_
 refine aI rfl (fun c1 => ?_) (fun c1 => ?_)
 ·have hs : gv vs t = false := by simpa using c1
  exact aE fun s1 h1 h2 h3 h4 => Lb h1 (by unfold fq; rw [hs]; rfl) (by unfold KQ; rw [hs]; rfl)
 have hs : gv vs t = true := by simpa using c1
 refine ax (.bool (decide (vs.length = (er t []).length))) (fun a b c _ _ => rM hK (Nat.le_trans hn b.next) hR (gE hs) c (hG.keep b.ro) (hkk a b)) rfl rfl ?_
 refine fl rfl rfl ?_
 have hcl : fq vs t = decide (vs.length = (er t []).length) := by unfold fq; rw [hs, Bool.true_and]
 rw [← hcl]
 refine aI rfl (fun c2 => ?_) (fun c2 => ?_)
 ·have hc : fq vs t = false := by simpa using c2
  exact aE fun s1 h1 h2 h3 h4 => Lb h1 hc (by unfold KQ; rw [hs, hc]; rfl)
 have hc : fq vs t = true := by simpa using c2
 refine kB ay Mv fun s1 k1 k2 k3 k4 => ?_
 obtain ⟨v, s2, hcall, vr', nm', rw', G, o, rfl, hM, hG2, hf⟩ := KU hK (Nat.le_trans hn k1.next) hR.ty (gE hs) k2 (hG.keep k1.ro) (hkk s1 k1)
 have hoM := hM.one
 refine ⟨[vr', nm', rw'], _, s2, _, _, inferInstance, rfl, by simp [aA, hoM.1, hoM.2.1, hoM.2.2], hcall, hf, MS.stb, MS.bl, hM, hG2, ?_⟩
 exact aE fun s3 h1 h2 h3 h4 => ⟨_, _, rfl, vr', nm', rw', G, o, by unfold KQ; rw [hs, hc]; rfl, by unfold Bq Br; rw [if_pos hc, if_pos hc]; exact h3.2, fun g hg => Nat.le_trans k1.next (hG2 g hg), h1⟩
end
end Go.AI.Lx
