/- What the functions answer in the evaluator: part 15. No conditions beyond those of the row. -/
import Derived.Test.YtkeaedhoaamfnaaGreatDoorL14
set_option linter.unusedVariables false
set_option linter.unusedSimpArgs false
noncomputable section
namespace Go.AI.Lx
open Go.Proofs Go.Proofs.YtkeaedhoaamfnaaGreatDoor
set_option maxRecDepth 10000
theorem oR {K K' : S → Prop} (h : ep K) (h' : ep K') : ep fun s => K s ∧ K' s := fun a b hf hk => ⟨h a b hf hk.1, h' a b hf hk.2⟩
theorem wb {K : S → Prop} {G : List Nat} {s : S} (h : ep K) : ep fun s' => K s' ∧ KB G s s' ∧ s.next ≤ s'.next := fun a b hf hk => ⟨h a b hf hk.1, hk.2.1.trans (KB.fw hf (by simp)), Nat.le_trans hk.2.2 hf.next⟩
theorem EJ {K : S → Prop} {G : List Nat} {s : S} (h : ep K) : ep fun s' => K s' ∧ KB G s s' := fun a b hf hk => ⟨h a b hf hk.1, hk.2.trans (KB.fw hf (by simp))⟩
theorem nP : ep T0 := fun _ _ _ _ => trivial
theorem MU (vs : List (List Nat)) (t u : Ty) : (kO vs t u).length ≤ vs.length := by
 unfold kO
 split
 ·unfold qq; rw [List.length_map]; exact Nat.le_refl _
 ·simp
theorem TQ {s : S} (b : Bool) : (lE.bin .neq 4 false (.bool b) (.bool b)).run Tryz.prog s = some (.bool false) := by
 cases b <;> rfl
theorem KH {K K' : S → Prop} (hK : ep K) (hK' : ep K') {vs us : List (List Nat)} {t u : Ty} {G G' : List Nat} {o o' : Option Nat} {vr nm rw vr' nm' rw' : V} {s : S} (h : MS K vs t G o vr nm rw s) (h' : MS K' us u G' o' vr' nm' rw' s) (hw : WF s) (hk : K s) (hk' : K' s) :
 Cw aq 25 [.agg [vr, nm, rw], .agg [vr', nm', rw']] s fun v s' => v = .bool (decide (vs = us) && dP t u) ∧ Fw [] s s' := by
 have h1 := h.rds
 have h2 := h'.rds
 exact tJ (oR (wb hK) (wb hK')) ⟨h1.vars.mono fun _ h => h.1, h1.ty.mono fun _ h => h.1⟩ ⟨h2.vars.mono fun _ h => h.2, h2.ty.mono fun _ h => h.2⟩ hw ⟨⟨hk, KB.refl _ _, Nat.le_refl _⟩, ⟨hk', KB.refl _ _, Nat.le_refl _⟩⟩
section
variable {K : S → Prop} {n : Nat}
theorem yS (hK : Kn K n) {va vb : List (List Nat)} {ta tb t : Ty} {vra nma rwa vrb nmb rwb nm rw : V} {s : S} (hn : n ≤ s.next) (hA : DX K va ta vra nma rwa) (hB : DX K vb tb vrb nmb rwb) (hR : ff K t nm rw) (hw : WF s) (hG : cd s) (hk : K s) :
 Cw aq 5 [.agg [vra, nma, rwa], .agg [vrb, nmb, rwb], .agg [nm, rw]] s fun v s' => v = .bool true ∧ Fw [] s s' := by
 have hoa := hA.ty.one
 have hova := hA.vars.row.one
 have hob := hB.ty.one
 have hovb := hB.vars.row.one
 have ho := hR.one
 have hkk : ∀ s1, Fw [] s s1 → K s1 := fun s1 h1 => hK.still _ _ h1 hk
 refine ay (aI (C := lT) (e := ⟨[vra, nma, rwa, vrb, nmb, rwb, nm, rw], []⟩) (F := []) (bE rfl rfl rfl) Tryz.func5 rfl (by kernel_rfl) sK rfl ⟨rfl, by simp [au, hoa.1, hoa.2, hova, hob.1, hob.2, hovb, ho.1, ho.2], rfl⟩ rfl hw rfl (by simp) trivial am trivial (by simp) ?_)
 refine aN fun b1 hb1 hd1 => ?_
 refine aN fun b2 hb2 hd2 => ?_
 refine aN fun b3 hb3 hd3 => ?_
 refine aj (.bool true) (fun a _ _ _ _ => lc (VE a)) rfl rfl ?_
 refine fy am DF fun s1 k1 k2 k3 k4 => ?_
 obtain ⟨x1, s2, hcall1, vc, nmc, rwc, G1, o1, rfl, hM1, hN1, hf1⟩ := Sd hK (Nat.le_trans hn k1.next) hR k2 (hG.keep k1.ro) (hkk s1 k1)
 have hq1 := hM1.one
 refine ⟨[vc, nmc, rwc, .int .i64 (if fR t = true then 0 else 32)], _, s2, _, _, inferInstance, rfl, by simp [au, hq1.1, hq1.2.1, hq1.2.2, eA], hcall1, hf1, MS.stb, MS.bl, hM1, hN1, ?_⟩
 have EL := cZ am (@MS.stb T0 (ve t) (Qf t) G1 o1 vc nmc rwc)
 have bl1 := ju DF (@MS.bl T0 (ve t) (Qf t) G1 o1 vc nmc rwc)
 refine aN fun b4 hb4 hd4 => ?_
 refine fy EL bl1 fun s3 j1 j2 j3 j4 => ?_
 obtain ⟨x2, s4, hcall2, vr2, nm2, rw2, G2, o2, rfl, hM2, hN2, hf2⟩ := OU hK (Nat.le_trans hn j1.next) hA j2 (hG.keep j1.ro) (hkk s3 j1)
 have hq2 := hM2.one
 refine ⟨[vr2, nm2, rw2, .int .i64 (MG va ta)], _, s4, _, _, inferInstance, rfl, by simp [au, hq2.1, hq2.2.1, hq2.2.2, eA], hcall2, hf2, MS.stb, MS.bl, hM2, hN2, ?_⟩
 have st2 := cZ EL (@MS.stb T0 (OO va ta) (OP va ta) G2 o2 vr2 nm2 rw2)
 have bl2 := ju bl1 (@MS.bl T0 (OO va ta) (OP va ta) G2 o2 vr2 nm2 rw2)
 refine aN fun b5 hb5 hd5 => ?_
 refine fy st2 bl2 fun s5 l1 l2 l3 l4 => ?_
 obtain ⟨x3, s6, hcall3, vr3, nm3, rw3, G3, o3, rfl, hM3, hN3, hf3⟩ := OT hK (Nat.le_trans hn l1.next) hA l2 (hG.keep l1.ro) (hkk s5 l1)
 have hq3 := hM3.one
 refine ⟨[vr3, nm3, rw3, .int .i64 (MG va ta)], _, s6, _, _, inferInstance, rfl, by simp [au, hq3.1, hq3.2.1, hq3.2.2, eA], hcall3, hf3, MS.stb, MS.bl, hM3, hN3, ?_⟩
 have st3 := cZ st2 (@MS.stb K (OO va ta) (OP va ta) G3 o3 vr3 nm3 rw3)
 have bl3 := ju bl2 (@MS.bl K (OO va ta) (OP va ta) G3 o3 vr3 nm3 rw3)
 refine aN fun b6 hb6 hd6 => ?_
 refine fy st3 bl3 fun s7 m1 m2 m3 m4 => ?_
 obtain ⟨x4, s8, hcall4, G4, o4, lv4, rfl, hM4, hN4, hf4⟩ := Lh hK (Nat.le_trans hn m1.next) hA hR m2 (hG.keep m1.ro) (hkk s7 m1)
 refine ⟨[lv4, .bool (vo va ta t).isSome], _, s8, _, _, inferInstance, rfl, by simp [au, hM4.one]; rfl, hcall4, hf4, BM.stb, AZ, hM4, hN4, ?_⟩
 have st4 := cZ st3 (@BM.stb T0 G4 (kO va ta t) o4 lv4)
 have bl4 := ju bl3 (@AZ T0 G4 (kO va ta t) o4 lv4)
 refine fy st4 bl4 fun s9 n1 n2 n3 n4 => ?_
 obtain ⟨x5, s10, hcall5, G5, o5, lv5, rfl, hM5, hN5, hf5⟩ := Lg hK (Nat.le_trans hn n1.next) hA hR n2 (hG.keep n1.ro) (hkk s9 n1)
 refine ⟨[lv5, .bool (vo va ta t).isSome], _, s10, _, _, inferInstance, rfl, by simp [au, hM5.one]; rfl, hcall5, hf5, BM.stb, AZ, hM5, hN5, ?_⟩
 have st5 := cZ st4 (@BM.stb K G5 (kO va ta t) o5 lv5)
 refine dR rfl rfl ?_
 refine aB (q := false) rfl (fun h => by cases h) (fun _ => ?_)
 refine iv rfl rfl rfl ?_
 refine aP rfl (fun h => absurd rfl h) (fun _ => ?_)
 refine aj (.bool true) (fun s11 h1 h2 h3 h4 => ?_) rfl rfl ?_
 ·have := KH nP hK.still h3.1.1.1.2 h3.1.1.2 h2 trivial (hkk s11 h1)
  rwa [mG, decide_eq_true rfl] at this
 refine dR rfl rfl ?_
 refine aB (q := false) rfl (fun h => by cases h) (fun _ => ?_)
 refine ao (.bool false) rfl (fun _ _ _ _ _ => TQ _) rfl ?_
 refine aB (q := false) rfl (fun h => by cases h) (fun _ => ?_)
 have hol := MU va ta t
 have hal := hA.vars.lt
 refine aj (.bool true) (fun s11 h1 h2 h3 h4 => ?_) rfl rfl ?_
 ·have z1 := h3.1.2.rdb (by omega)
  have z2 := h3.2.rdb (by omega)
  have := Ig (oR (EJ (G := G4 ++ o4.toList) (s := s11) nP) (EJ (G := G5 ++ o5.toList) (s := s11) hK.still)) (z1.mono fun _ h => h.1) (z2.mono fun _ h => h.2) h2 ⟨⟨trivial, KB.refl _ _⟩, ⟨hkk s11 h1, KB.refl _ _⟩⟩
  rwa [Ij] at this
 refine dR rfl rfl ?_
 refine aB (q := false) rfl (fun h => by cases h) (fun _ => ?_)
 refine aj (.bool (vo va ta t).isSome) (fun a b c _ _ => wW hK (Nat.le_trans hn b.next) hA hR c (hG.keep b.ro) (hkk a b)) rfl rfl ?_
 refine ao (.bool false) rfl (fun _ _ _ _ _ => TQ _) rfl ?_
 refine aB (q := false) rfl (fun h => by cases h) (fun _ => ?_)
 refine aj (.bool (rC va ta vb tb)) (fun a b c _ _ => Na hK (Nat.le_trans hn b.next) hA hB c (hG.keep b.ro) (hkk a b)) rfl rfl ?_
 refine aj (.bool (rC va ta vb tb)) (fun a b c _ _ => MZ hK (Nat.le_trans hn b.next) hA hB c (hG.keep b.ro) (hkk a b)) rfl rfl ?_
 refine ao (.bool false) rfl (fun _ _ _ _ _ => TQ _) rfl ?_
 refine iw (fun vs bs D U => vs = [.int .i64 (if fR t = true then 0 else 32), .bool false, nm, rw, vc, nmc, rwc] ∧ bs = [b3, b4] ∧ (∀ s, U s → MS T0 (ve t) (Qf t) G1 o1 vc nmc rwc s) ∧ kz D U ∧ Bl D U) ⟨rfl, rfl, fun s h => h.1.1.1.1.2, st5, ju bl4 AZ⟩ st5 ?_
 rintro _ _ D U ⟨rfl, rfl, hU, hst, hbl⟩ - - -
 refine aB (q := false) rfl (fun h => by cases h) (fun _ => ?_)
 refine aj (.int .i64 (if fR t = true then 0 else 32)) (fun a b c _ _ => Se hK.still hR c (hkk a b)) rfl rfl ?_
 refine iv rfl rfl rfl ?_
 refine aP rfl (fun c1 => ?_) (fun c1 => ?_)
 ·have hv : fR t = false := by
   cases hv : fR t with
   | true => rw [hv] at c1; exact absurd rfl c1
   | false => rfl
  refine cQ rfl rfl rfl ?_
  refine aP rfl (fun _ => ?_) (fun h => absurd (by rw [hv]; rfl) h)
  refine aj (.bool true) (fun s11 h1 h2 h3 h4 => ?_) rfl rfl ?_
  ·have z := hU s11 h3
   have e1 : ve t = [] := by unfold ve; rw [hv]; rfl
   have e2 : Qf t = .mk [] [] := by unfold Qf; rw [hv]; rfl
   rw [e1, e2] at z
   have := KH nP nP z (MS.none (K := T0)) h2 trivial trivial
   rwa [mG, decide_eq_true rfl] at this
  exact ak fun s1 h1 h2 h3 h4 => ⟨_, _, rfl, rfl, h1⟩
 ·have hv : fR t = true := by
   cases hv : fR t with
   | true => rfl
   | false => rw [hv] at c1; exact absurd (by decide) c1
  refine cQ rfl rfl rfl ?_
  refine aP rfl (fun _ => ?_) (fun h => absurd (by rw [hv]; rfl) h)
  refine fy hst hbl fun s11 h1 h2 h3 h4 => ?_
  obtain ⟨v, s12, hcall, o', hUv, hX, hby, hf⟩ := Rd hK t nm rw s11 hR h2 (hG.keep h1.ro) (hkk s11 h1) (Nat.le_trans hn h1.next)
  refine ⟨[v], _, s12, o'.toList, UV (ve t) o' v, inferInstance, rfl, by simp [au, hUv.one], hcall, hf, UV.stb, nD, hUv, fun g hg => ?_, ?_⟩
  ·cases o' with
   | none => simp at hg
   | some X => simp at hg; subst hg; exact hX g rfl
  have hl := iS t []
  have hsz := (bF hv).1
  simp only [List.length_nil] at hl
  have e1 : ve t = hQ t [] := by unfold ve; rw [if_pos hv]
  refine aj (.bool true) (fun s13 g1 g2 g3 g4 => ?_) rfl rfl ?_
  ·have z := hU s13 g3.1
   have e2 : Qf t = t := by unfold Qf; rw [if_pos hv]
   rw [e2] at z
   have z1 := z.rds
   have := tJ (oR (wb (G := G1 ++ o1.toList) (s := s13) nP) (oR hK.still (UV.still (l := ve t) (o := o') (v := v)))) ⟨z1.vars.mono fun _ h => h.1, z1.ty.mono fun _ h => h.1⟩ ⟨(UV.txs hUv (by rw [e1]; omega) hby).mono fun _ h => h.2.2, hR.mono fun _ h => h.2.1⟩ g2 ⟨⟨trivial, KB.refl _ _, Nat.le_refl _⟩, hkk s13 g1, g3.2⟩
   rwa [mG, decide_eq_true rfl] at this
  exact ak fun s1 h1 h2 h3 h4 => ⟨_, _, rfl, rfl, h1⟩
end
end Go.AI.Lx
