/- What the functions answer in the evaluator: part 10. No conditions beyond those of the row. -/
import Derived.Test.YtkeaedhoaamfnaaGreatDoorL9
set_option linter.unusedVariables false
set_option linter.unusedSimpArgs false
noncomputable section
/- What a substitution makes of a type: both ways give the same, in plain terms. -/
namespace Go.AI.Lx
open Go.Proofs Go.Proofs.YtkeaedhoaamfnaaGreatDoor
set_option maxRecDepth 10000
def lkT (x : List Nat) : List (List Nat × Ty) → Option Ty
  | [] => none
  | (k, v) :: r => if x = k then some v else lkT x r
mutual
def sbT (m : List (List Nat × Ty)) : Ty → Ty
  | .mk name args => match (if args.length = 0 then lkT name m else none) with
    | some x => x
    | none => .mk name (sbTs m args)
def sbTs (m : List (List Nat × Ty)) : List Ty → List Ty
  | [] => []
  | t :: r => sbT m t :: sbTs m r
end
mutual
def cpT : Ty → Nat → Ty × Nat
  | .mk name args, c => if 2000 < c + 1 then (.mk [] [], c + 1) else (.mk name (cpTs args (c + 1)).1, (cpTs args (c + 1)).2)
def cpTs : List Ty → Nat → List Ty × Nat
  | [], c => ([], c)
  | t :: r, c => ((cpT t c).1 :: (cpTs r (cpT t c).2).1, (cpTs r (cpT t c).2).2)
end
mutual
def ptI (m : List (List Nat × Ty)) : Ty → Nat → Ty × Nat
  | .mk name args, c => match (if args.length = 0 then lkT name m else none) with
    | some x => cpT x c
    | none => if 2000 < c + 1 then (.mk [] [], c + 1) else (.mk name (ptIs m args (c + 1)).1, (ptIs m args (c + 1)).2)
def ptIs (m : List (List Nat × Ty)) : List Ty → Nat → List Ty × Nat
  | [], c => ([], c)
  | t :: r, c => ((ptI m t c).1 :: (ptIs m r (ptI m t c).2).1, (ptIs m r (ptI m t c).2).2)
end
mutual
def ptR (l : List (List Nat × Ty)) : Ty → Nat → Ty × Nat
  | .mk name args, n => if 2000 < n then (.mk [73, 110, 116] [], n) else match (if isV name = true then lkT name l else none) with
    | some x => (x, n + cnt x 2000)
    | none => (.mk name (ptRs l args (n + 1)).1, (ptRs l args (n + 1)).2)
def ptRs (l : List (List Nat × Ty)) : List Ty → Nat → List Ty × Nat
  | [], n => ([], n)
  | t :: r, n => ((ptR l t n).1 :: (ptRs l r (ptR l t n).2).1, (ptRs l r (ptR l t n).2).2)
end
theorem szT_pos (t : Ty) : 1 ≤ szT t := by cases t; simp only [szT]; omega
theorem fmd_none : fmd (.mk [] []) = false := by
  have : nameOk [] 0 = false := by decide +kernel
  simp only [fmd, List.length_nil, this, Bool.and_false]
theorem fmd_args {name : List Nat} {l : List Ty} (h : fmds l = false) : fmd (.mk name l) = false := by simp only [fmd, h, Bool.false_and]
theorem fmds_hd {t : Ty} {l : List Ty} (h : fmd t = false) : fmds (t :: l) = false := by simp only [fmds, h, Bool.false_and]
theorem fmds_tl {t : Ty} {l : List Ty} (h : fmds l = false) : fmds (t :: l) = false := by simp only [fmds, h, Bool.and_false]
mutual
theorem cp_ge : ∀ (t : Ty) (c : Nat), c ≤ (cpT t c).2
  | .mk name args, c => by
    simp only [cpT]
    split
    · simp
    · have := cps_ge args (c + 1); simp only; omega
theorem cps_ge : ∀ (l : List Ty) (c : Nat), c ≤ (cpTs l c).2
  | [], c => by simp [cpTs]
  | t :: r, c => by
    simp only [cpTs]
    exact Nat.le_trans (cp_ge t c) (cps_ge r _)
end
mutual
theorem cp_le : ∀ (t : Ty) (c : Nat), (cpT t c).2 ≤ c + szT t
  | .mk name args, c => by
    simp only [cpT, szT]
    split
    · simp only; omega
    · have := cps_le args (c + 1); simp only; omega
theorem cps_le : ∀ (l : List Ty) (c : Nat), (cpTs l c).2 ≤ c + szTs l
  | [], c => by simp [cpTs, szTs]
  | t :: r, c => by
    simp only [cpTs, szTs]
    have h1 := cp_le t c
    have h2 := cps_le r (cpT t c).2
    omega
end
mutual
theorem cp_law : ∀ (t : Ty) (c : Nat), (c + szT t ≤ 2000 → cpT t c = (t, c + szT t)) ∧ (2000 < c + szT t → fmd (cpT t c).1 = false ∧ 2000 < (cpT t c).2)
  | .mk name args, c => by
    simp only [cpT, szT]
    have ih := cps_law args (c + 1)
    by_cases h : 2000 < c + 1
    · rw [if_pos h]
      exact ⟨fun hh => by omega, fun _ => ⟨fmd_none, h⟩⟩
    · rw [if_neg h]
      refine ⟨fun hh => ?_, fun hh => ?_⟩
      · rw [ih.1 (by omega)]; simp only [Prod.mk.injEq, true_and]; omega
      · obtain ⟨h1, h2⟩ := ih.2 (by omega) (by omega)
        exact ⟨fmd_args h1, h2⟩
theorem cps_law : ∀ (l : List Ty) (c : Nat), (c + szTs l ≤ 2000 → cpTs l c = (l, c + szTs l)) ∧ (c ≤ 2000 → 2000 < c + szTs l → fmds (cpTs l c).1 = false ∧ 2000 < (cpTs l c).2)
  | [], c => by simp only [cpTs, szTs]; exact ⟨fun _ => rfl, fun h1 h2 => by omega⟩
  | t :: r, c => by
    simp only [cpTs, szTs]
    have h1 := cp_law t c
    by_cases hc : c + szT t ≤ 2000
    · rw [h1.1 hc]
      have h2 := cps_law r (c + szT t)
      refine ⟨fun hh => ?_, fun _ hh => ?_⟩
      · simp only [h2.1 (by omega), Prod.mk.injEq, true_and]; omega
      · obtain ⟨h3, h4⟩ := h2.2 hc (by omega)
        exact ⟨fmds_tl h3, h4⟩
    · obtain ⟨h3, h4⟩ := h1.2 (by omega)
      refine ⟨fun hh => by omega, fun _ _ => ⟨fmds_hd h3, ?_⟩⟩
      exact Nat.lt_of_lt_of_le h4 (cps_ge r _)
end
section
variable {m : List (List Nat × Ty)}
mutual
theorem pt_ge : ∀ (t : Ty) (c : Nat), c ≤ (ptI m t c).2
  | .mk name args, c => by
    simp only [ptI]
    split
    · exact cp_ge _ c
    · split
      · simp
      · have := pts_ge args (c + 1); simp only; omega
theorem pts_ge : ∀ (l : List Ty) (c : Nat), c ≤ (ptIs m l c).2
  | [], c => by simp [ptIs]
  | t :: r, c => by
    simp only [ptIs]
    exact Nat.le_trans (pt_ge t c) (pts_ge r _)
end
mutual
theorem pt_le : ∀ (t : Ty) (c : Nat), (ptI m t c).2 ≤ c + szT (sbT m t)
  | .mk name args, c => by
    simp only [ptI, sbT]
    cases hl : (if args.length = 0 then lkT name m else none) with
    | some x => simp only; exact cp_le x c
    | none =>
      simp only [szT]
      split
      · simp only; omega
      · have := pts_le args (c + 1); simp only; omega
theorem pts_le : ∀ (l : List Ty) (c : Nat), (ptIs m l c).2 ≤ c + szTs (sbTs m l)
  | [], c => by simp [ptIs, szTs, sbTs]
  | t :: r, c => by
    simp only [ptIs, szTs, sbTs]
    have h1 := pt_le t c
    have h2 := pts_le r (ptI m t c).2
    omega
end
mutual
theorem pt_law : ∀ (t : Ty) (c : Nat), (c + szT (sbT m t) ≤ 2000 → ptI m t c = (sbT m t, c + szT (sbT m t))) ∧ (2000 < c + szT (sbT m t) → fmd (ptI m t c).1 = false ∧ 2000 < (ptI m t c).2)
  | .mk name args, c => by
    simp only [ptI, sbT]
    cases hl : (if args.length = 0 then lkT name m else none) with
    | some x => exact cp_law x c
    | none =>
      simp only [szT]
      have ih := pts_law args (c + 1)
      by_cases h : 2000 < c + 1
      · rw [if_pos h]
        exact ⟨fun hh => by omega, fun _ => ⟨fmd_none, h⟩⟩
      · rw [if_neg h]
        refine ⟨fun hh => ?_, fun hh => ?_⟩
        · rw [ih.1 (by omega)]; simp only [Prod.mk.injEq, true_and]; omega
        · obtain ⟨h1, h2⟩ := ih.2 (by omega) (by omega)
          exact ⟨fmd_args h1, h2⟩
theorem pts_law : ∀ (l : List Ty) (c : Nat), (c + szTs (sbTs m l) ≤ 2000 → ptIs m l c = (sbTs m l, c + szTs (sbTs m l))) ∧ (c ≤ 2000 → 2000 < c + szTs (sbTs m l) → fmds (ptIs m l c).1 = false ∧ 2000 < (ptIs m l c).2)
  | [], c => by simp only [ptIs, szTs, sbTs]; exact ⟨fun _ => rfl, fun h1 h2 => by omega⟩
  | t :: r, c => by
    simp only [ptIs, szTs, sbTs]
    have h1 := pt_law t c
    by_cases hc : c + szT (sbT m t) ≤ 2000
    · rw [h1.1 hc]
      have h2 := pts_law r (c + szT (sbT m t))
      refine ⟨fun hh => ?_, fun _ hh => ?_⟩
      · simp only [h2.1 (by omega), Prod.mk.injEq, true_and]; omega
      · obtain ⟨h3, h4⟩ := h2.2 hc (by omega)
        exact ⟨fmds_tl h3, h4⟩
    · obtain ⟨h3, h4⟩ := h1.2 (by omega)
      refine ⟨fun hh => by omega, fun _ _ => ⟨fmds_hd h3, ?_⟩⟩
      exact Nat.lt_of_lt_of_le h4 (pts_ge r _)
end
mutual
theorem sb_le {B : Nat} (hB : 1 ≤ B) (h : ∀ x t, lkT x m = some t → szT t ≤ B) : ∀ (t : Ty), szT (sbT m t) ≤ szT t * B
  | .mk name args => by
    simp only [sbT, szT]
    cases hl : (if args.length = 0 then lkT name m else none) with
    | some x =>
      simp only
      have hx : szT x ≤ B := by
        split at hl
        · exact h _ _ hl
        · cases hl
      exact Nat.le_trans hx (Nat.le_mul_of_pos_left _ (by omega))
    | none =>
      simp only [szT]
      have := sbs_le hB h args
      rw [Nat.succ_mul]; omega
theorem sbs_le {B : Nat} (hB : 1 ≤ B) (h : ∀ x t, lkT x m = some t → szT t ≤ B) : ∀ (l : List Ty), szTs (sbTs m l) ≤ szTs l * B
  | [] => by simp [sbTs, szTs]
  | t :: r => by
    simp only [sbTs, szTs]
    have h1 := sb_le hB h t
    have h2 := sbs_le hB h r
    rw [Nat.add_mul]; omega
end
def BOk (m : List (List Nat × Ty)) : Prop := ∀ k x, lkT k m = some x → kindC k = 4 ∧ vld x = true
mutual
theorem ptR_law (hm : BOk m) : ∀ (t : Ty) (n : Nat), fmd t = true → (n + szT (sbT m t) ≤ 2000 → ptR m t n = (sbT m t, n + szT (sbT m t))) ∧ (2000 < n + szT (sbT m t) → 2000 < (ptR m t n).2)
  | .mk name args, n, hf => by
    simp only [fmd, Bool.and_eq_true] at hf
    obtain ⟨hv1, hv2⟩ := name_var hf.2
    have hlk : (if isV name = true then lkT name m else none) = (if args.length = 0 then lkT name m else none) := by
      by_cases hv : isV name = true
      · rw [if_pos hv, if_pos (hv2 (hv1.1 hv))]
      · rw [if_neg hv]
        cases hx : lkT name m with
        | none => simp
        | some x => exact absurd (hv1.2 (hm _ _ hx).1) hv
    simp only [ptR, sbT, hlk]
    cases hl : (if args.length = 0 then lkT name m else none) with
    | some x =>
      have hx : vld x = true := by
        split at hl
        · exact (hm _ _ hl).2
        · cases hl
      have hs := (vld_parts hx).1
      have hp := szT_pos x
      simp only [cnt_of x 2000 hs]
      by_cases h : 2000 < n
      · rw [if_pos h]; exact ⟨fun hh => by omega, fun _ => h⟩
      · rw [if_neg h]; exact ⟨fun _ => rfl, fun hh => hh⟩
    | none =>
      simp only [szT]
      have ih := ptRs_law hm args (n + 1) hf.1
      by_cases h : 2000 < n
      · rw [if_pos h]; exact ⟨fun hh => by omega, fun _ => h⟩
      · rw [if_neg h]
        refine ⟨fun hh => ?_, fun hh => ih.2 (by omega)⟩
        rw [ih.1 (by omega)]; simp only [Prod.mk.injEq, true_and]; omega
theorem ptRs_law (hm : BOk m) : ∀ (l : List Ty) (n : Nat), fmds l = true → (n + szTs (sbTs m l) ≤ 2000 → ptRs m l n = (sbTs m l, n + szTs (sbTs m l))) ∧ (2000 < n + szTs (sbTs m l) → 2000 < (ptRs m l n).2)
  | [], n, _ => by simp only [ptRs, szTs, sbTs]; exact ⟨fun _ => rfl, fun h => h⟩
  | t :: r, n, hf => by
    simp only [fmds, Bool.and_eq_true] at hf
    simp only [ptRs, szTs, sbTs]
    have h1 := ptR_law hm t n hf.1
    by_cases hc : n + szT (sbT m t) ≤ 2000
    · rw [h1.1 hc]
      have h2 := ptRs_law hm r (n + szT (sbT m t)) hf.2
      refine ⟨fun hh => ?_, fun hh => h2.2 (by omega)⟩
      simp only [h2.1 (by omega), Prod.mk.injEq, true_and]; omega
    · have h3 := h1.2 (by omega)
      exact ⟨fun hh => by omega, fun _ => (ptRs_law hm r (ptR m t n).2 hf.2).2 (by omega)⟩
end
theorem put_same (hm : BOk m) {t : Ty} (hf : fmd t = true) : (vld (ptI m t 0).1 = true ↔ (ptR m t 0).2 ≤ 2000 ∧ vld (ptR m t 0).1 = true) ∧ (vld (ptI m t 0).1 = true → (ptR m t 0).1 = (ptI m t 0).1) := by
  have h1 := pt_law (m := m) t 0
  have h2 := ptR_law hm t 0 hf
  by_cases h : 0 + szT (sbT m t) ≤ 2000
  · rw [h1.1 h, h2.1 h]
    exact ⟨⟨fun hh => ⟨h, hh⟩, fun hh => hh.2⟩, fun _ => rfl⟩
  · have h3 := (h1.2 (by omega)).1
    have h4 := h2.2 (by omega)
    have h5 : ¬ vld (ptI m t 0).1 = true := fun hh => by
      have := (vld_parts hh).2.2
      rw [h3] at this; cases this
    exact ⟨⟨fun hh => absurd hh h5, fun hh => by omega⟩, fun hh => absurd hh h5⟩
end
end Go.AI.Lx
/- Types that are made; rows of types that are being made. -/
namespace Go.AI.Lx
open Go.Proofs Go.Proofs.YtkeaedhoaamfnaaGreatDoor
set_option maxRecDepth 10000
def KB (G : List Nat) (s s' : S) : Prop := ∀ g ∈ G, ∀ B, s.get g = some B → s'.get g = some B
theorem KB.refl (G : List Nat) (s : S) : KB G s s := fun _ _ _ h => h
theorem KB.trans {G : List Nat} {a b c : S} (h : KB G a b) (k : KB G b c) : KB G a c := fun g hg B hB => k g hg B (h g hg B hB)
theorem KB.mono {G G' : List Nat} {a b : S} (hs : ∀ g ∈ G, g ∈ G') (h : KB G' a b) : KB G a b := fun g hg B hB => h g (hs g hg) B hB
theorem KB.fw {F G : List Nat} {a b : S} (h : Fw F a b) (hs : ∀ g ∈ G, g ∉ F) : KB G a b := fun g hg B hB => h.keep g B (hs g hg) hB
theorem kb_kn {G : List Nat} {s : S} {n : Nat} (h : ∀ g ∈ G, g < n) : Kn (KB G s) n := fun F a b hF hf hk g hg B hB => hf.keep g B (fun hgF => by have h1 := hF g hgF; have h2 := h g hg; omega) (hk g hg B hB)
theorem kn_and {K K' : S → Prop} {n : Nat} (h : Kn K n) (h' : Kn K' n) : Kn (fun s => K s ∧ K' s) n := fun F a b hF hf hk => ⟨h F a b hF hf hk.1, h' F a b hF hf hk.2⟩
theorem kn_le {K : S → Prop} {n n' : Nat} (h : Kn K n) (hn : n ≤ n') : Kn K n' := fun F a b hF hf hk => h F a b (fun g hg => Nat.le_trans hn (hF g hg)) hf hk
def MT (K : S → Prop) (G : List Nat) (t : Ty) (nm rw : V) (s : S) : Prop := RdT (fun s' => K s' ∧ KB G s s') t nm rw ∧ ∀ g ∈ G, g < s.next
section
variable {K : S → Prop}
theorem MT.keep {G : List Nat} {t : Ty} {nm rw : V} {s s' : S} (h : MT K G t nm rw s) (hk : KB G s s') (hn : s.next ≤ s'.next) : MT K G t nm rw s' :=
  ⟨RdT.mono (fun _ h2 => ⟨h2.1, hk.trans h2.2⟩) h.1, fun g hg => Nat.lt_of_lt_of_le (h.2 g hg) hn⟩
theorem MT.stb {G : List Nat} {t : Ty} {nm rw : V} : Stb G (MT K G t nm rw) := fun _ _ h hk hn => h.keep hk hn
theorem MT.still {G : List Nat} {t : Ty} {nm rw : V} : Still (MT K G t nm rw) := fun _ _ hf h => h.keep (KB.fw hf (by simp)) hf.next
theorem MT.one {G : List Nat} {t : Ty} {nm rw : V} {s : S} (h : MT K G t nm rw s) : nm.one = true ∧ rw.one = true := h.1.one
theorem MT.of {t : Ty} {nm rw : V} {s : S} (h : RdT K t nm rw) : MT K [] t nm rw s := ⟨RdT.mono (fun _ h2 => h2.1) h, by simp⟩
theorem MT.none {s : S} : MT K [] (.mk [] []) (.str []) .nilslice s := ⟨by simp only [RdT]; exact ⟨trivial, fun z hz => by simp at hz, by simp, [], .nil, by simp only [RdTs]⟩, by simp⟩
end
theorem take_flat {sz : Nat} : ∀ {cs : List (List V)} {i : Nat} {x : List V}, (∀ x ∈ cs, x.length = sz) → cs[i]? = some x → takeExact sz (cs.flatten.drop (i * sz)) = some x
  | [], i, x, _, h => by simp at h
  | c :: r, 0, x, hs, h => by
    simp at h; subst h
    have hc := hs c (by simp)
    have : ∀ (l m : List V), takeExact l.length (l ++ m) = some l := by
      intro l m
      induction l with
      | nil => rfl
      | cons a l ih => simp only [List.length_cons, List.cons_append, takeExact, ih, Option.map]
    rw [Nat.zero_mul, List.drop_zero, List.flatten_cons, ← hc]
    exact this c _
  | c :: r, i + 1, x, hs, h => by
    have hc := hs c (by simp)
    have ih := take_flat (cs := r) (i := i) (x := x) (fun y hy => hs y (List.mem_cons_of_mem _ hy)) (by simpa using h)
    rw [List.flatten_cons, Nat.succ_mul, Nat.add_comm (i * sz) sz, ← List.drop_drop, List.drop_left' hc]
    exact ih
theorem Gro_rowV {e sz : Nat} {s : S} {v : V} {cs : List (List V)} {o : Option Nat} (h : Gro e sz s v cs.length cs.flatten o) (hs : ∀ x ∈ cs, x.length = sz) (hn : cs.length < 4611686018427387904) : RowV (KB o.toList s) sz v cs := by
  generalize hl : cs.length = n at h
  generalize hc : cs.flatten = fs at h
  cases h with
  | nil =>
    have : cs = [] := List.eq_nil_of_length_eq_zero hl
    subst this; exact .nil
  | row X nv rest n fs h1 h2 h3 =>
    refine .row _ _ _ _ hl.symm (by omega) fun i x hx s' hk => ?_
    have h1' := hk X (by simp) _ h1
    have hv : findVer (⟨nv, 0, fs⟩ :: rest) nv = some ⟨nv, 0, fs⟩ := by simp only [findVer, Nat.beq_refl, cond_true]
    simp only [loadCells, addC, h1', hv, ble0, cond_true, Nat.sub_zero, Nat.zero_add]
    rw [← hc]
    exact take_flat hs hx
theorem RdTs.two {K : S → Prop} : ∀ {l : List Ty} {cs : List (List V)}, RdTs K l cs → ∀ x ∈ cs, x.length = 2
  | [], cs, r, x, hx => by simp only [RdTs] at r; subst r; simp at hx
  | t :: l, cs, r, x, hx => by
    simp only [RdTs] at r
    obtain ⟨nm, rw, cs', rfl, h2, h3⟩ := r
    rcases List.mem_cons.1 hx with rfl | hx
    · rfl
    · exact RdTs.two h3 x hx
theorem RdTs.app {K : S → Prop} : ∀ {l l' : List Ty} {cs cs' : List (List V)}, RdTs K l cs → RdTs K l' cs' → RdTs K (l ++ l') (cs ++ cs')
  | [], l', cs, cs', r, r' => by simp only [RdTs] at r; subst r; exact r'
  | t :: l, l', cs, cs', r, r' => by
    simp only [RdTs] at r
    obtain ⟨nm, rw, c2, rfl, h2, h3⟩ := r
    simp only [List.cons_append, RdTs]
    exact ⟨nm, rw, c2 ++ cs', rfl, h2, RdTs.app h3 r'⟩
theorem row23 : RowTy Tryz.prog 23 25 2 := ⟨by kernel_rfl, by kernel_rfl, by kernel_rfl, by kernel_rfl, by kernel_rfl⟩
structure TL (K : S → Prop) (G : List Nat) (l : List Ty) (o : Option Nat) (v : V) (s : S) : Prop where
  row : ∃ cs : List (List V), Gro 25 2 s v l.length cs.flatten o ∧ RdTs (fun s' => K s' ∧ KB G s s') l cs
  lt : ∀ g ∈ G, g < s.next ∧ o ≠ some g
section
variable {K : S → Prop}
theorem TL.one {G : List Nat} {l : List Ty} {o : Option Nat} {v : V} {s : S} (h : TL K G l o v s) : v.one = true := by
  obtain ⟨⟨cs, h1, _⟩, _⟩ := h; exact h1.one
theorem TL.nil (s : S) : TL K [] [] none .nilslice s := ⟨⟨[], Gro.nil, by simp only [RdTs]⟩, by simp⟩
theorem TL.keep {G : List Nat} {l : List Ty} {o : Option Nat} {v : V} {s s' : S} (h : TL K G l o v s) (hk : KB (G ++ o.toList) s s') (hn : s.next ≤ s'.next) : TL K G l o v s' := by
  obtain ⟨⟨cs, h1, h2⟩, h3⟩ := h
  exact ⟨⟨cs, h1.keep (fun X B hX hB => hk X (by simp [hX]) B hB), RdTs.mono (fun _ h4 => ⟨h4.1, (hk.mono (by simp; intro g hg; exact .inl hg)).trans h4.2⟩) h2⟩, fun g hg => ⟨Nat.lt_of_lt_of_le (h3 g hg).1 hn, (h3 g hg).2⟩⟩
theorem TL.stb {G : List Nat} {l : List Ty} {o : Option Nat} {v : V} : Stb (G ++ o.toList) (TL K G l o v) := fun _ _ h hk hn => h.keep hk hn
theorem TL.blk {G : List Nat} {l : List Ty} {o : Option Nat} {v : V} {s : S} (h : TL K G l o v s) (hw : WF s) : ∀ g ∈ G ++ o.toList, g < s.next := fun g hg => by
  obtain ⟨⟨cs, h1, _⟩, h3⟩ := h
  rcases List.mem_append.1 hg with hg | hg
  · exact (h3 g hg).1
  · cases o with
    | none => simp at hg
    | some X => simp at hg; subst hg; exact h1.lt hw
theorem TL.app {G G' : List Nat} {l : List Ty} {t : Ty} {nm rw : V} {o : Option Nat} {v : V} {s : S} (h : TL K G l o v s) (hw : WF s) {b : Nat} (hb : s.get b = some (.cells 25 false 1 [⟨0, 0, [nm, rw]⟩])) (ht : MT K G' t nm rw s) (hG : ∀ g ∈ G', o ≠ some g) (hl : l.length ≤ 999999) :
    ∃ v' s' X, Act.run Tryz.prog s (.bif .append #[23, 23] [v, .slice ⟨b, 0, 0⟩ 0 1 (some 1) 2]) = some (v', s') ∧ TL K (G ++ G') (l ++ [t]) (some X) v' s' ∧ Fw o.toList s s' ∧ X < s'.next ∧ (o = some X ∨ s.next ≤ X) := by
  obtain ⟨⟨cs, h1, h2⟩, h3⟩ := h
  have hone := ht.one
  obtain ⟨v', s', X, happ, hG2, hble, hor⟩ := Gro.app row23 h1 hw (c := some 1) hb rfl (by simp [hone.1, hone.2]) hl
  have hf : Fw o.toList s s' := by
    rcases hor with ⟨rfl, _, hf⟩ | ⟨rfl, hf⟩
    · exact hf
    · exact hf
  have hX : o = some X ∨ s.next ≤ X := by
    rcases hor with ⟨_, h, _⟩ | ⟨h, _⟩
    · exact .inr (by omega)
    · exact .inl h
  have hne : ∀ g, g ∈ G ++ G' → g < s.next ∧ o ≠ some g := fun g hg => by
    rcases List.mem_append.1 hg with hg | hg
    · exact h3 g hg
    · exact ⟨ht.2 g hg, hG g hg⟩
  have hkb : KB (G ++ G') s s' := KB.fw hf (fun g hg hgo => by
    have := (hne g hg).2
    cases o with
    | none => simp at hgo
    | some Y => simp at hgo; subst hgo; exact this rfl)
  have hXl := hG2.lt (hf.wf hw)
  refine ⟨v', s', X, ?_, ⟨⟨cs ++ [[nm, rw]], ?_, ?_⟩, fun g hg => ⟨Nat.lt_of_lt_of_le (hne g hg).1 hf.next, fun hgX => ?_⟩⟩, hf, hXl, hX⟩
  · show nxBoth (nxPair (appendV Tryz.prog 23 23 s v (.slice ⟨b, 0, 0⟩ 0 1 (some 1) 2))) = _
    rw [happ]; rfl
  · rw [List.length_append, List.flatten_append]
    simpa using hG2
  · refine RdTs.app (RdTs.mono (fun _ h4 => ⟨h4.1, (hkb.mono (by simp; intro g hg; exact .inl hg)).trans (h4.2.mono (by simp; intro g hg; exact .inl hg))⟩) h2) ?_
    simp only [RdTs]
    exact ⟨nm, rw, [], rfl, RdT.mono (fun _ h4 => ⟨h4.1, (hkb.mono (by simp; intro g hg; exact .inr hg)).trans (h4.2.mono (by simp; intro g hg; exact .inr hg))⟩) ht.1, rfl⟩
  · cases hgX
    rcases hX with h5 | h5
    · exact (hne _ hg).2 h5
    · have := (hne _ hg).1; omega
theorem TL.ty {G : List Nat} {l : List Ty} {o : Option Nat} {v : V} {s : S} (h : TL K G l o v s) (hw : WF s) {name : List Nat} (hb : Bytes name) (hnl : name.length < 4611686018427387904) (hl : l.length < 4611686018427387904) : MT K (G ++ o.toList) (.mk name l) (.str name) v s := by
  have hlt := h.blk hw
  obtain ⟨⟨cs, h1, h2⟩, h3⟩ := h
  have hlen := h2.len
  refine ⟨?_, hlt⟩
  simp only [RdT]
  refine ⟨trivial, hb, hnl, cs, (Gro_rowV (by rw [hlen]; exact h1) h2.two (by omega)).mono fun _ h4 => h4.2.mono (by simp; intro g hg; exact .inr hg), RdTs.mono (fun _ h4 => ⟨h4.1, h4.2.mono (by simp; intro g hg; exact .inl hg)⟩) h2⟩
end
end Go.AI.Lx
/- Lists of binds: how they lie in memory; lists that are being made. -/
namespace Go.AI.Lx
open Go.Proofs Go.Proofs.YtkeaedhoaamfnaaGreatDoor
set_option maxRecDepth 10000
theorem und36 : Tryz.prog.underlying 36 = some (.slice 56) := by kernel_rfl
theorem ty_size56 : size Tryz.prog 56 = some 3 := by kernel_rfl
theorem ty_agg56 : isAggT Tryz.prog 56 = some true := by kernel_rfl
theorem lv56 (s : S) (a : Ad) : loadVar Tryz.prog s 56 a = (loadCells s a 3).map .agg := by simp only [loadVar, ty_agg56, ty_size56, Option.bind]
theorem fa56_0 (f v c : Nat) : doFieldAddr Tryz.prog 56 (some (.ptr ⟨f, v, c⟩)) 0 = some (.ptr ⟨f, v, c + 0⟩) := by kernel_rfl
theorem fa56_1 (f v c : Nat) : doFieldAddr Tryz.prog 56 (some (.ptr ⟨f, v, c⟩)) 1 = some (.ptr ⟨f, v, c + 1⟩) := by kernel_rfl
theorem fa56a (p : Ad) : doFieldAddr Tryz.prog 56 (some (.ptr p)) 0 = some (.ptr p) := fa56_0 p.f p.v p.c
theorem fa56b (p : Ad) : doFieldAddr Tryz.prog 56 (some (.ptr p)) 1 = some (.ptr (addC p 1)) := fa56_1 p.f p.v p.c
theorem takeExact_of {l : List V} {n : Nat} (h : n ≤ l.length) : takeExact n l = some (l.take n) := by
  induction n generalizing l with
  | zero => cases l <;> rfl
  | succ n ih => cases l with
    | nil => simp at h
    | cons x r => simp only [takeExact, ih (l := r) (by simpa using h), Option.map, List.take_succ_cons]
theorem load_sub {s : S} {a : Ad} {n : Nat} {l : List V} (h : loadCells s a n = some l) {i k : Nat} (hik : i + k ≤ n) : loadCells s (addC a i) k = some ((l.drop i).take k) := by
  have key : ∀ (u : Ver), (bif Nat.ble u.lo a.c then takeExact n (u.cells.drop (a.c - u.lo)) else none) = some l → (bif Nat.ble u.lo (a.c + i) then takeExact k (u.cells.drop (a.c + i - u.lo)) else none) = some ((l.drop i).take k) := fun u hu => by
    cases hb : Nat.ble u.lo a.c with
    | false => rw [hb] at hu; cases hu
    | true =>
      rw [hb] at hu
      have hle := Nat.le_of_ble_eq_true hb
      obtain ⟨rfl, h2⟩ := takeExact_spec hu
      rw [show Nat.ble u.lo (a.c + i) = true from Nat.ble_eq_true_of_le (by omega)]
      simp only [cond_true]
      rw [List.length_drop] at h2
      rw [takeExact_of (by rw [List.length_drop]; omega), List.drop_take, List.drop_drop, List.take_take, Nat.min_eq_left (by omega)]
      rw [show a.c + i - u.lo = a.c - u.lo + i by omega]
  unfold loadCells at h ⊢
  simp only [addC]
  split at h
  · rename_i e1 e2 e3 vers hg
    split at h
    · rename_i u hu; exact key u h
    · cases h
  · rename_i vers hg
    split at h
    · rename_i u hu; exact key u h
    · cases h
  · cases h
theorem load_bty {s : S} {p : Ad} {x nm rw : V} (h : loadCells s p 3 = some [x, nm, rw]) : nxVal1 (doLoad Tryz.prog s 25 (some (.ptr (addC p 1)))) = some (.agg [nm, rw]) := by
  rw [doLoad_ptr, lv25, load_sub h (i := 1) (k := 2) (by omega)]; rfl
def RdBs (K : S → Prop) : List (List Nat × Ty) → List (List V) → Prop
  | [], cs => cs = []
  | (x, t) :: r, cs => ∃ nm rw cs', cs = [.str x, nm, rw] :: cs' ∧ Bytes x ∧ x.length < 4611686018427387904 ∧ RdT K t nm rw ∧ RdBs K r cs'
theorem RdBs.mono {K K' : S → Prop} (h : ∀ s, K' s → K s) : ∀ {l : List (List Nat × Ty)} {cs : List (List V)}, RdBs K l cs → RdBs K' l cs
  | [], cs, r => r
  | (x, t) :: l, cs, r => by
    obtain ⟨nm, rw, cs', h1, h2, h3, h4, h5⟩ := r
    exact ⟨nm, rw, cs', h1, h2, h3, h4.mono h, RdBs.mono h h5⟩
theorem RdBs.len {K : S → Prop} : ∀ {l : List (List Nat × Ty)} {cs : List (List V)}, RdBs K l cs → cs.length = l.length
  | [], cs, r => by simp only [RdBs] at r; simp [r]
  | (x, t) :: l, cs, r => by
    obtain ⟨nm, rw, cs', rfl, h2, h3, h4, h5⟩ := r
    simp [RdBs.len h5]
theorem RdBs.at {K : S → Prop} : ∀ {l : List (List Nat × Ty)} {cs : List (List V)} {i : Nat} {x : List Nat} {t : Ty}, RdBs K l cs → l[i]? = some (x, t) → ∃ nm rw, cs[i]? = some [.str x, nm, rw] ∧ Bytes x ∧ x.length < 4611686018427387904 ∧ RdT K t nm rw
  | [], cs, i, x, t, r, h => by simp at h
  | (x', t') :: l, cs, i, x, t, r, h => by
    obtain ⟨nm, rw, cs', rfl, h2, h3, h4, h5⟩ := r
    cases i with
    | zero => simp at h; obtain ⟨rfl, rfl⟩ := h; exact ⟨nm, rw, rfl, h2, h3, h4⟩
    | succ i => simpa using RdBs.at h5 (by simpa using h)
theorem RdBs.app {K : S → Prop} : ∀ {l l' : List (List Nat × Ty)} {cs cs' : List (List V)}, RdBs K l cs → RdBs K l' cs' → RdBs K (l ++ l') (cs ++ cs')
  | [], l', cs, cs', r, r' => by simp only [RdBs] at r; subst r; exact r'
  | (x, t) :: l, l', cs, cs', r, r' => by
    obtain ⟨nm, rw, c2, rfl, h2, h3, h4, h5⟩ := r
    exact ⟨nm, rw, c2 ++ cs', rfl, h2, h3, h4, RdBs.app h5 r'⟩
def RdB (K : S → Prop) (l : List (List Nat × Ty)) (v : V) : Prop := ∃ cs, RowV K 3 v cs ∧ RdBs K l cs
theorem RdB.mono {K K' : S → Prop} (h : ∀ s, K' s → K s) {l : List (List Nat × Ty)} {v : V} (r : RdB K l v) : RdB K' l v := by
  obtain ⟨cs, h1, h2⟩ := r; exact ⟨cs, h1.mono h, h2.mono h⟩
theorem RdB.one {K : S → Prop} {l : List (List Nat × Ty)} {v : V} (r : RdB K l v) : v.one = true := by obtain ⟨cs, h1, h2⟩ := r; exact h1.one
theorem RdB.lt {K : S → Prop} {l : List (List Nat × Ty)} {v : V} (r : RdB K l v) : l.length < 4611686018427387904 := by
  obtain ⟨cs, h1, h2⟩ := r; have := h1.lt; have := h2.len; omega
theorem RdB.len {K : S → Prop} {l : List (List Nat × Ty)} {v : V} (r : RdB K l v) (s : S) : lenV Tryz.prog 36 s v = some (.int .i64 ((l.length : Nat) : Int)) := by
  obtain ⟨cs, h1, h2⟩ := r
  rw [h1.len und36 s, h2.len]
theorem RdB.at {K : S → Prop} {l : List (List Nat × Ty)} {v : V} (r : RdB K l v) {i : Nat} {x : List Nat} {t : Ty} (h : l[i]? = some (x, t)) :
    ∃ p nm rw, doIndexAddr Tryz.prog 36 (some v) (some i) = some (.ptr p) ∧ (∀ s, K s → loadCells s p 3 = some [.str x, nm, rw]) ∧ Bytes x ∧ x.length < 4611686018427387904 ∧ RdT K t nm rw := by
  obtain ⟨cs, h1, h2⟩ := r
  obtain ⟨nm, rw, hx, h3, h4, h5⟩ := h2.at h
  obtain ⟨p, hp, hld⟩ := h1.at und36 ty_size56 hx
  exact ⟨p, nm, rw, hp, hld, h3, h4, h5⟩
theorem row36 : RowTy Tryz.prog 36 56 3 := ⟨by kernel_rfl, by kernel_rfl, by kernel_rfl, by kernel_rfl, by kernel_rfl⟩
def BL (K : S → Prop) (l : List (List Nat × Ty)) (o : Option Nat) (v : V) (s : S) : Prop := ∃ cs : List (List V), Gro 56 3 s v l.length cs.flatten o ∧ RdBs K l cs
theorem BL.nil (K : S → Prop) (s : S) : BL K [] none .nilslice s := ⟨[], Gro.nil, rfl⟩
theorem BL.one {K : S → Prop} {l : List (List Nat × Ty)} {o : Option Nat} {v : V} {s : S} (h : BL K l o v s) : v.one = true := by obtain ⟨cs, h1, _⟩ := h; exact h1.one
theorem BL.mono {K K' : S → Prop} {l : List (List Nat × Ty)} {o : Option Nat} {v : V} {s : S} (h : BL K l o v s) (hk : ∀ s, K' s → K s) : BL K' l o v s := by obtain ⟨cs, h1, h2⟩ := h; exact ⟨cs, h1, h2.mono hk⟩
theorem BL.keep {K : S → Prop} {l : List (List Nat × Ty)} {o : Option Nat} {v : V} {s s' : S} (h : BL K l o v s) (hk : KB o.toList s s') : BL K l o v s' := by
  obtain ⟨cs, h1, h2⟩ := h; exact ⟨cs, h1.keep (fun X B hX hB => hk X (by simp [hX]) B hB), h2⟩
theorem BL.stb {K : S → Prop} {l : List (List Nat × Ty)} {o : Option Nat} {v : V} : Stb o.toList (BL K l o v) := fun _ _ h hk _ => h.keep hk
theorem BL.blk {K : S → Prop} {l : List (List Nat × Ty)} {o : Option Nat} {v : V} {s : S} (h : BL K l o v s) (hw : WF s) : ∀ g ∈ o.toList, g < s.next := fun g hg => by
  obtain ⟨cs, h1, _⟩ := h
  cases o with
  | none => simp at hg
  | some X => simp at hg; subst hg; exact h1.lt hw
theorem BL.app {K : S → Prop} {l : List (List Nat × Ty)} {x : List Nat} {t : Ty} {nm rw : V} {o : Option Nat} {v : V} {s : S} (h : BL K l o v s) (hw : WF s) {b : Nat} (hb : s.get b = some (.cells 56 false 1 [⟨0, 0, [.str x, nm, rw]⟩])) (hx : Bytes x) (hxl : x.length < 4611686018427387904) (ht : RdT K t nm rw) (hl : l.length ≤ 999999) :
    ∃ v' s' X, Act.run Tryz.prog s (.bif .append #[36, 36] [v, .slice ⟨b, 0, 0⟩ 0 1 (some 1) 3]) = some (v', s') ∧ BL K (l ++ [(x, t)]) (some X) v' s' ∧ Fw o.toList s s' ∧ X < s'.next ∧ (o = some X ∨ s.next ≤ X) := by
  obtain ⟨cs, h1, h2⟩ := h
  have hone := ht.one
  obtain ⟨v', s', X, happ, hG2, hble, hor⟩ := Gro.app row36 h1 hw (c := some 1) hb rfl (by simp [hone.1, hone.2, one_str]) hl
  have hf : Fw o.toList s s' := by
    rcases hor with ⟨rfl, _, hf⟩ | ⟨rfl, hf⟩
    · exact hf
    · exact hf
  have hX : o = some X ∨ s.next ≤ X := by
    rcases hor with ⟨_, h, _⟩ | ⟨h, _⟩
    · exact .inr (by omega)
    · exact .inl h
  refine ⟨v', s', X, ?_, ⟨cs ++ [[.str x, nm, rw]], ?_, RdBs.app h2 ⟨nm, rw, [], rfl, hx, hxl, ht, rfl⟩⟩, hf, hG2.lt (hf.wf hw), hX⟩
  · show nxBoth (nxPair (appendV Tryz.prog 36 36 s v (.slice ⟨b, 0, 0⟩ 0 1 (some 1) 3))) = _
    rw [happ]; rfl
  · rw [List.length_append, List.flatten_append]
    simpa using hG2
end Go.AI.Lx
