/- What the functions answer in the evaluator: part 12. No conditions beyond those of the row. -/
import Derived.Test.YtkeaedhoaamfnaaGreatDoorL11
set_option linter.unusedVariables false
set_option linter.unusedSimpArgs false
noncomputable section
namespace Go.AI.Lx
open Go.Proofs Go.Proofs.YtkeaedhoaamfnaaGreatDoor
set_option maxRecDepth 10000
mutual
theorem Dk : ∀ (t : Ty) (c : Nat), pm [] t c = ze t c
 | .mk name args, c => by
  simp only [pm, ze, fI, ite_self, Lw args]
theorem Lw : ∀ (l : List Ty) (c : Nat), kg [] l c = qG l c
 | [], c => by simp only [kg, qG]
 | t :: r, c => by simp only [kg, qG, Dk t, Lw r]
end
theorem wL : ∀ (l : List Ty), l.length ≤ cG l
 | [] => by simp
 | t :: r => by have h1 := wL r; have h2 := vf t; simp only [List.length_cons, cG]; omega
def Lk (mv : V) (m : List (List Nat × Ty)) (K : S → Prop) : Prop := ∀ x, Bytes x → ∃ nm rw : V, nm.one = true ∧ rw.one = true ∧ (∀ t, fI x m = some t → ff K t nm rw) ∧ ∀ s, K s → cp Tryz.prog s 78 (some mv) (some (.str x)) true = some (.tuple [.agg [nm, rw], .bool (fI x m).isSome])
def Kf (K : S → Prop) (fc n : Nat) : Prop := ∀ F s s', (∀ b ∈ F, b = fc ∨ n ≤ b) → Fw F s s' → K s → K s'
def QE (f : FuncId) (spec : Ty → Nat → Ty × Nat) (mv : V) (K Ko : S → Prop) (fc n N : Nat) : Prop := ∀ (t : Ty) (c : Nat) (nm rw : V) (s : S), cq t ≤ N → cq t ≤ 99999 → ff K t nm rw → WF s → K s → n ≤ s.next → s.get fc = some (tC c) → (spec t c).2 ≤ 4611686018427387903 →
 Cw aq f [mv, .agg [nm, rw], .ptr ⟨fc, 0, 0⟩] s fun v s' => ∃ nm' rw' G, v = .agg [nm', rw'] ∧ MT Ko G (spec t c).1 nm' rw' s' ∧ (∀ g ∈ G, s.next ≤ g) ∧ s'.get fc = some (tC (spec t c).2) ∧ Fw [fc] s s'
section
variable {K Ko : S → Prop} {fc n : Nat} {m : List (List Nat × Ty)} {mv : V}
theorem KR (hK : Kf K fc n) (hlk : Lk mv m K) (hmv : mv.one = true) (hsz : ∀ x t, fI x m = some t → cq t ≤ 99999) (hnil : ∀ x t, fI x m = some t → ∀ N, QE 44 ze .nilmap K Ko fc n N) : ∀ N, QE 44 (pm m) mv K Ko fc n N := by
 intro N
 induction N with
 | zero => intro t c nm rw s h; cases t; simp only [cq] at h; omega
 | succ N ih =>
  intro t c nm rw s hN hs9 hR hw hk hn hg hcl
  have ho := hR.one
  have hfcl : fc < s.next := hw fc _ hg
  refine ay (aI (C := GF) (e := ⟨[mv, nm, rw, .int .i64 ((c : Nat) : Int)], [fc]⟩) (F := [fc]) (bE rfl rfl rfl) Tryz.func44 rfl (by kernel_rfl) OI rfl ⟨rfl, by simp [au, ho.1, ho.2, hmv, eA], rfl⟩ rfl hw rfl (by simp) ⟨hg, trivial⟩ am trivial (by simp) ?_)
  obtain ⟨name, args⟩ := t
  simp only [ff] at hR
  obtain ⟨rfl, hb, hbl, cs, hrow, hts⟩ := hR
  have hlen := hts.len
  have hlt := hrow.lt
  simp only [cq] at hN hs9
  have hkk : ∀ F s1, Fw F s s1 → (∀ b ∈ F, b = fc ∨ s.next ≤ b) → K s1 := fun F s1 h1 hF => hK F s s1 (fun b hb => (hF b hb).imp id (fun h => Nat.le_trans hn h)) h1 hk
  have hkf : ∀ s1, Fw [fc] s s1 → K s1 := fun s1 h1 => hkk [fc] s1 h1 (by simp)
  have key : ∀ (q : Bool) (nm' rw' : V) (b1 b2 b3 : Nat) (L : List bS), nm'.one = true → rw'.one = true → (q = true → ∃ x, (if args.length = 0 then fI name m else none) = some x ∧ ff K x nm' rw' ∧ cq x ≤ 99999 ∧ ∀ N, QE 44 ze .nilmap K Ko fc n N) → (q = false → (if args.length = 0 then fI name m else none) = none) →
   ai aq [fc] s (sq fun v s' => ∃ nm' rw' G, v = .agg [nm', rw'] ∧ MT Ko G (pm m (.mk name args) c).1 nm' rw' s' ∧ (∀ g ∈ G, s.next ≤ g) ∧ s'.get fc = some (tC (pm m (.mk name args) c).2) ∧ Fw [fc] s s') sE ⟨[mv, .bool q, .int .i64 ((c : Nat) : Int), .str name, rw, .str [], .nilslice, nm', rw'], [fc, b1, b2, b3]⟩ [] T0 L := by
   intro q nm' rw' b1 b2 b3 L hn1 hr1 hq1 hq2
   refine aB rfl (fun c1 => ?_) (fun c1 => ?_)
   ·obtain ⟨x, hx, hRx, hsx, hp⟩ := hq1 c1
    have hsp : pm m (.mk name args) c = ze x c := by simp only [pm, hx]
    rw [hsp] at hcl
    refine cU fun s1 k1 k2 k3 k4 => ?_
    obtain ⟨v, s2, hcall, nm2, rw2, G, rfl, hM, hG, hc2, hf⟩ := hp (cq x) x c nm' rw' s1 (Nat.le_refl _) hsx hRx k2 (hkf s1 k1) (Nat.le_trans hn k1.next) k4.1 hcl
    have hoM := hM.one
    refine .inl ⟨[.int .i64 (((ze x c).2 : Nat) : Int), nm2, rw2], _, s2, G, MT Ko G (ze x c).1 nm2 rw2, inferInstance, rfl, by simp [au, hoM.1, hoM.2, eA], hcall, hf.mono (by simp [eI]; rfl), ⟨hc2, trivial⟩, MT.stb, hM, fun g hg => ⟨hM.2 g hg, .inr (hG g hg)⟩, ?_⟩
    exact ak fun s3 h1 h2 h3 h4 => ⟨_, _, rfl, nm2, rw2, G, rfl, by rw [hsp]; exact h3, fun g hg => Nat.le_trans k1.next (hG g hg), by rw [hsp]; exact h4.1, h1⟩
   ·have hx := hq2 c1
    refine br (r := ((c + 1 : Nat) : Int)) rfl rfl (by rw [show ((c : Nat) : Int) + 1 = ((c + 1 : Nat) : Int) by omega]; exact aY _ ⟨by omega, by have := SM (m := m) (.mk name args) c; omega⟩) rfl ?_
    refine gp rfl rfl rfl ?_
    refine aP rfl (fun c3 => ?_) (fun c3 => ?_)
    ·have hsp : pm m (.mk name args) c = (.mk [] [], c + 1) := by simp only [pm, hx]; rw [if_pos (by omega)]
     refine ak fun s1 h1 h2 h3 h4 => ⟨_, _, rfl, .str [], .nilslice, [], rfl, ?_, by simp, ?_, h1⟩
     ·rw [hsp]; exact MT.none
     ·rw [hsp]; exact h4.1
    ·have hsp : pm m (.mk name args) c = (.mk name (kg m args (c + 1)).1, (kg m args (c + 1)).2) := by simp only [pm, hx]; rw [if_neg (by omega)]
     rw [hsp] at hcl
     simp only at hcl
     refine aN fun b4 hb4 hd4 => ?_
     refine bT rfl (fun s1 _ _ => hrow.len cX s1) rfl ?_
     refine fv (fun j vs bs D U => ∃ (i c' : Nat) (l2 : List Ty) (o2 : Option Nat) (out2 : V) (G2 : List Nat), i ≤ args.length ∧ j = args.length - i ∧ vs = [mv, rw, .int .i64 ((cs.length : Nat) : Int), .int .i64 ((i : Nat) : Int), .int .i64 ((c' : Nat) : Int), .str [], .nilslice, .str name, out2] ∧ bs = [fc, b2, b4] ∧ D = G2 ++ o2.toList ∧ U = TL Ko G2 l2 o2 out2 ∧ out2.one = true ∧ l2.length = i ∧
      (∀ g ∈ G2 ++ o2.toList, s.next ≤ g) ∧ (kg m args (c + 1)).1 = l2 ++ (kg m (args.drop i) c').1 ∧ (kg m args (c + 1)).2 = (kg m (args.drop i) c').2)
      args.length ⟨0, c + 1, [], none, .nilslice, [], by omega, rfl, rfl, rfl, rfl, funext fun s => propext ⟨fun _ => TL.nil s, fun _ => trivial⟩, rfl, rfl, by simp, by simp, by simp⟩ am ?_
     rintro j _ _ _ _ ⟨i, c', l2, o2, out2, G2, hi, rfl, rfl, rfl, rfl, rfl, hone2, hl2, hfr, hs1, hs2⟩ - - -
     refine cP rfl rfl rfl ?_
     refine aP rfl (fun c4 => ?_) (fun c4 => ?_)
     ·obtain ⟨t', ht', hdr⟩ := bM (show i < args.length by omega)
      rw [hdr] at hs1 hs2
      simp only [kg] at hs1 hs2
      obtain ⟨nm3, rw3, hx3, hR3⟩ := hts.at ht'
      obtain ⟨p3, hp3, hld3⟩ := hrow.at cX dj hx3
      have ho3 := hR3.one
      have hsz3 := fT ht'
      refine ao (.ptr p3) rfl (fun _ _ _ _ _ => hp3) rfl ?_
      refine h_askN [nm3, rw3] (.agg [nm3, rw3]) rfl (by simp [au, ho3.1, ho3.2]) (fun a b _ _ _ => eM (hld3 a (hkf a b))) rfl ?_
      refine aN fun b5 hb5 hd5 => ?_
      refine cU fun s1 k1 k2 k3 k4 => ?_
      obtain ⟨v, s2, hcall, nm2, rw2, G, rfl, hM, hG, hc2, hf⟩ := ih t' c' nm3 rw3 s1 (by omega) (by omega) hR3 k2 (hkf s1 k1) (Nat.le_trans hn k1.next) k4.1 (by have := Cu (m := m) (args.drop (i + 1)) (pm m t' c').2; omega)
      have hoM := hM.one
      have hblk := k3.blk k2
      have hT2 : TL Ko G2 l2 o2 out2 s2 := k3.keep (KB.fw hf (fun g hgm hgf => by simp at hgf; have := hfr g hgm; omega)) hf.next
      refine .inl ⟨[.int .i64 (((pm m t' c').2 : Nat) : Int), nm2, rw2], _, s2, (G2 ++ o2.toList) ++ G, fun s => TL Ko G2 l2 o2 out2 s ∧ MT Ko G (pm m t' c').1 nm2 rw2 s, inferInstance, rfl, by simp [au, hoM.1, hoM.2, eA], hcall, hf.mono (by simp [eI]; exact .inl rfl), ⟨hc2, trivial⟩,
       fun a b ⟨h1, h2⟩ hk hn => ⟨h1.keep (fun g hg => hk g (List.mem_append_left _ hg)) hn, h2.keep (fun g hg => hk g (List.mem_append_right _ hg)) hn⟩, ⟨hT2, hM⟩, fun g hg => ?_, ?_⟩
      ·rcases List.mem_append.1 hg with hg | hg
       ·exact ⟨Nat.lt_of_lt_of_le (hblk g hg) hf.next, .inl hg⟩
       ·exact ⟨hM.2 g hg, .inr (hG g hg)⟩
      refine aN fun b6 hb6 hd6 => ?_
      refine gT fun s3 j1 j2 j3 j4 => ?_
      have hoG : ∀ g ∈ G, o2 ≠ some g := fun g hg ho2 => by
       have h1 := hblk g (by simp [ho2])
       have h2 := hG g hg
       omega
      obtain ⟨v', s4, X, hrun, hT4, hf4, hXl, hXo⟩ := j3.1.app j2 (b := b6) j4.1 j3.2 hoG (by have := wL args; omega)
      have hfrX : ∀ g ∈ (G2 ++ G) ++ (some X).toList, s.next ≤ g := fun g hg => by
       simp only [List.mem_append, Option.mem_toList, Option.some.injEq] at hg
       rcases hg with (hg | hg) | hg
       ·exact hfr g (by simp [hg])
       ·exact Nat.le_trans k1.next (hG g hg)
       ·subst hg
        rcases hXo with h | h
        ·exact hfr _ (by simp [h])
        ·exact Nat.le_trans j1.next h
      refine ⟨[v'], _, s4, (G2 ++ G) ++ (some X).toList, TL Ko (G2 ++ G) (l2 ++ [(pm m t' c').1]) (some X) v', inferInstance, rfl, by simp [au, hT4.one], hrun, hf4.mono (by intro g hg; simp at hg ⊢; simp [hg]), TL.stb, hT4, fun g hg => ⟨hT4.blk (hf4.wf j2) g hg, ?_⟩, ?_⟩
      ·simp only [List.mem_append, Option.mem_toList, Option.some.injEq] at hg ⊢
       rcases hg with (hg | hg) | hg
       ·exact .inl (.inl (.inl hg))
       ·exact .inl (.inr hg)
       ·subst hg
        rcases hXo with h | h
        ·exact .inl (.inl (.inr h))
        ·exact .inr h
      refine br (r := ((i + 1 : Nat) : Int)) rfl rfl (wI (by omega)) rfl ?_
      refine fx rfl TL.stb ⟨args.length - (i + 1), by omega, i + 1, (pm m t' c').2, l2 ++ [(pm m t' c').1], some X, v', G2 ++ G, by omega, rfl, rfl, rfl, rfl, rfl, hT4.one, by simp [hl2], hfrX, ?_, ?_⟩
      ·rw [hs1, List.append_assoc]; rfl
      ·exact hs2
     ·have : i = args.length := by omega
      subst this
      rw [List.drop_length] at hs1 hs2
      simp only [kg, List.append_nil] at hs1 hs2
      refine ak fun s1 h1 h2 h3 h4 => ⟨_, _, rfl, .str name, out2, G2 ++ o2.toList, rfl, ?_, hfr, ?_, h1⟩
      ·rw [hsp, hs1]
       exact TL.ty h3 h2 hb hbl (by omega)
      ·rw [hsp, hs2]; exact h4.1
  refine aN fun b1 hb1 hd1 => ?_
  refine aN fun b2 hb2 hd2 => ?_
  obtain ⟨nm', rw', hn1, hr1, hRl, hdo⟩ := hlk name hb
  refine h_askN [nm', rw', .bool (fI name m).isSome] (.tuple [.agg [nm', rw'], .bool (fI name m).isSome]) rfl (by simp [au, hn1, hr1]; rfl) (fun a b _ _ _ => hdo a (hkf a b)) rfl ?_
  refine aN fun b3 hb3 hd3 => ?_
  refine aB rfl (fun c4 => ?_) (fun c4 => ?_)
  ·refine bT rfl (fun s1 _ _ => hrow.len cX s1) rfl ?_
   refine cQ rfl rfl rfl ?_
   refine aK (key _ nm' rw' b1 b2 b3 _ hn1 hr1 (fun q => ?_) (fun q => ?_))
   ·have h0 : args.length = 0 := by have := of_decide_eq_true q; omega
    rw [if_pos h0]
    cases hx : fI name m with
    | none => rw [hx] at c4; cases c4
    | some x => exact ⟨x, rfl, hRl x hx, hsz _ _ hx, hnil _ _ hx⟩
   ·rw [if_neg]
    intro h0
    have := of_decide_eq_false q
    omega
  ·refine aK (key false nm' rw' b1 b2 b3 _ hn1 hr1 (fun q => by cases q) (fun q => ?_))
   cases hx : fI name m with
   | none => simp
   | some x => rw [hx] at c4; cases c4
end
theorem Oa : Tryz.prog.underlying 36 = some (.slice 56) := by kernel_rfl
theorem sw : size Tryz.prog 56 = some 3 := by kernel_rfl
theorem Oh : fK Tryz.prog 56 = some true := by kernel_rfl
theorem Xp (s : S) (a : Ad) : loadVar Tryz.prog s 56 a = (loadCells s a 3).map .agg := by simp only [loadVar, Oh, sw, Option.bind]
theorem UZ (f v c : Nat) : aQ Tryz.prog 56 (some (.ptr ⟨f, v, c⟩)) 0 = some (.ptr ⟨f, v, c + 0⟩) := by kernel_rfl
theorem UY (f v c : Nat) : aQ Tryz.prog 56 (some (.ptr ⟨f, v, c⟩)) 1 = some (.ptr ⟨f, v, c + 1⟩) := by kernel_rfl
theorem FZ (p : Ad) : aQ Tryz.prog 56 (some (.ptr p)) 0 = some (.ptr p) := UZ p.f p.v p.c
theorem FY (p : Ad) : aQ Tryz.prog 56 (some (.ptr p)) 1 = some (.ptr (dZ p 1)) := UY p.f p.v p.c
theorem BD {l : List V} {n : Nat} (h : n ≤ l.length) : aW n l = some (l.take n) := by
 induction n generalizing l with
 | zero => cases l <;> rfl
 | succ n ih => cases l with
  | nil => simp at h
  | cons x r => simp only [aW, ih (l := r) (by simpa using h), Option.map, List.take_succ_cons]
theorem Pr {s : S} {a : Ad} {n : Nat} {l : List V} (h : loadCells s a n = some l) {i k : Nat} (hik : i + k ≤ n) : loadCells s (dZ a i) k = some ((l.drop i).take k) := by
 have key : ∀ (u : nh), (bif Nat.ble u.lo a.c then aW n (u.cells.drop (a.c - u.lo)) else none) = some l → (bif Nat.ble u.lo (a.c + i) then aW k (u.cells.drop (a.c + i - u.lo)) else none) = some ((l.drop i).take k) := fun u hu => by
  cases hb : Nat.ble u.lo a.c with
  | false => rw [hb] at hu; cases hu
  | true =>
   rw [hb] at hu
   have hle := Nat.le_of_ble_eq_true hb
   obtain ⟨rfl, h2⟩ := ic hu
   rw [show Nat.ble u.lo (a.c + i) = true from Nat.ble_eq_true_of_le (by omega)]
   simp only [cond_true]
   rw [List.length_drop] at h2
   rw [BD (by rw [List.length_drop]; omega), List.drop_take, List.drop_drop, List.take_take, Nat.min_eq_left (by omega)]
   rw [show a.c + i - u.lo = a.c - u.lo + i by omega]
 unfold loadCells at h ⊢
 simp only [dZ]
 split at h
 ·rename_i e1 e2 e3 vers hg
  split at h
  ·rename_i u hu; exact key u h
  ·cases h
 ·rename_i vers hg
  split at h
  ·rename_i u hu; exact key u h
  ·cases h
 ·cases h
theorem oh {s : S} {p : Ad} {x nm rw : V} (h : loadCells s p 3 = some [x, nm, rw]) : gh (eQ Tryz.prog s 25 (some (.ptr (dZ p 1)))) = some (.agg [nm, rw]) := by
 rw [aZ, VP, Pr h (i := 1) (k := 2) (by omega)]; rfl
def fP (K : S → Prop) : List (List Nat × Ty) → List (List V) → Prop
 | [], cs => cs = []
 | (x, t) :: r, cs => ∃ nm rw cs', cs = [.str x, nm, rw] :: cs' ∧ Bytes x ∧ x.length < 4611686018427387904 ∧ ff K t nm rw ∧ fP K r cs'
theorem fP.mono {K K' : S → Prop} (h : ∀ s, K' s → K s) : ∀ {l : List (List Nat × Ty)} {cs : List (List V)}, fP K l cs → fP K' l cs
 | [], cs, r => r
 | (x, t) :: l, cs, r => by
  obtain ⟨nm, rw, cs', h1, h2, h3, h4, h5⟩ := r
  exact ⟨nm, rw, cs', h1, h2, h3, h4.mono h, fP.mono h h5⟩
theorem fP.len {K : S → Prop} : ∀ {l : List (List Nat × Ty)} {cs : List (List V)}, fP K l cs → cs.length = l.length
 | [], cs, r => by simp only [fP] at r; simp [r]
 | (x, t) :: l, cs, r => by
  obtain ⟨nm, rw, cs', rfl, h2, h3, h4, h5⟩ := r
  simp [fP.len h5]
theorem fP.at {K : S → Prop} : ∀ {l : List (List Nat × Ty)} {cs : List (List V)} {i : Nat} {x : List Nat} {t : Ty}, fP K l cs → l[i]? = some (x, t) → ∃ nm rw, cs[i]? = some [.str x, nm, rw] ∧ Bytes x ∧ x.length < 4611686018427387904 ∧ ff K t nm rw
 | [], cs, i, x, t, r, h => by simp at h
 | (x', t') :: l, cs, i, x, t, r, h => by
  obtain ⟨nm, rw, cs', rfl, h2, h3, h4, h5⟩ := r
  cases i with
  | zero => simp at h; obtain ⟨rfl, rfl⟩ := h; exact ⟨nm, rw, rfl, h2, h3, h4⟩
  | succ i => simpa using fP.at h5 (by simpa using h)
theorem fP.three {K : S → Prop} : ∀ {l : List (List Nat × Ty)} {cs : List (List V)}, fP K l cs → ∀ x ∈ cs, x.length = 3
 | [], cs, r, x, hx => by simp only [fP] at r; subst r; simp at hx
 | (y, t) :: l, cs, r, x, hx => by
  obtain ⟨nm, rw, cs', rfl, h2, h3, h4, h5⟩ := r
  rcases List.mem_cons.1 hx with rfl | hx
  ·rfl
  ·exact fP.three h5 x hx
theorem fP.app {K : S → Prop} : ∀ {l l' : List (List Nat × Ty)} {cs cs' : List (List V)}, fP K l cs → fP K l' cs' → fP K (l ++ l') (cs ++ cs')
 | [], l', cs, cs', r, r' => by simp only [fP] at r; subst r; exact r'
 | (x, t) :: l, l', cs, cs', r, r' => by
  obtain ⟨nm, rw, c2, rfl, h2, h3, h4, h5⟩ := r
  exact ⟨nm, rw, c2 ++ cs', rfl, h2, h3, h4, fP.app h5 r'⟩
def Hg (K : S → Prop) (l : List (List Nat × Ty)) (v : V) : Prop := ∃ cs, jO K 3 v cs ∧ fP K l cs
theorem Hg.mono {K K' : S → Prop} (h : ∀ s, K' s → K s) {l : List (List Nat × Ty)} {v : V} (r : Hg K l v) : Hg K' l v := by
 obtain ⟨cs, h1, h2⟩ := r; exact ⟨cs, h1.mono h, h2.mono h⟩
theorem Hg.one {K : S → Prop} {l : List (List Nat × Ty)} {v : V} (r : Hg K l v) : v.one = true := by obtain ⟨cs, h1, h2⟩ := r; exact h1.one
theorem Hg.lt {K : S → Prop} {l : List (List Nat × Ty)} {v : V} (r : Hg K l v) : l.length < 4611686018427387904 := by
 obtain ⟨cs, h1, h2⟩ := r; have := h1.lt; have := h2.len; omega
theorem Hg.len {K : S → Prop} {l : List (List Nat × Ty)} {v : V} (r : Hg K l v) (s : S) : lM Tryz.prog 36 s v = some (.int .i64 ((l.length : Nat) : Int)) := by
 obtain ⟨cs, h1, h2⟩ := r
 rw [h1.len Oa s, h2.len]
theorem Hg.at {K : S → Prop} {l : List (List Nat × Ty)} {v : V} (r : Hg K l v) {i : Nat} {x : List Nat} {t : Ty} (h : l[i]? = some (x, t)) :
 ∃ p nm rw, bJ Tryz.prog 36 (some v) (some i) = some (.ptr p) ∧ (∀ s, K s → loadCells s p 3 = some [.str x, nm, rw]) ∧ Bytes x ∧ x.length < 4611686018427387904 ∧ ff K t nm rw := by
 obtain ⟨cs, h1, h2⟩ := r
 obtain ⟨nm, rw, hx, h3, h4, h5⟩ := h2.at h
 obtain ⟨p, hp, hld⟩ := h1.at Oa sw hx
 exact ⟨p, nm, rw, hp, hld, h3, h4, h5⟩
theorem SI : Bd Tryz.prog 36 56 3 := ⟨by kernel_rfl, by kernel_rfl, by kernel_rfl, by kernel_rfl, by kernel_rfl⟩
def BL (K : S → Prop) (l : List (List Nat × Ty)) (o : Option Nat) (v : V) (s : S) : Prop := ∃ cs : List (List V), gQ 56 3 s v l.length cs.flatten o ∧ fP K l cs
theorem BL.nil (K : S → Prop) (s : S) : BL K [] none .nilslice s := ⟨[], gQ.nil, rfl⟩
theorem BL.one {K : S → Prop} {l : List (List Nat × Ty)} {o : Option Nat} {v : V} {s : S} (h : BL K l o v s) : v.one = true := by obtain ⟨cs, h1, _⟩ := h; exact h1.one
theorem BL.mono {K K' : S → Prop} {l : List (List Nat × Ty)} {o : Option Nat} {v : V} {s : S} (h : BL K l o v s) (hk : ∀ s, K' s → K s) : BL K' l o v s := by obtain ⟨cs, h1, h2⟩ := h; exact ⟨cs, h1, h2.mono hk⟩
theorem BL.keep {K : S → Prop} {l : List (List Nat × Ty)} {o : Option Nat} {v : V} {s s' : S} (h : BL K l o v s) (hk : KB o.toList s s') : BL K l o v s' := by
 obtain ⟨cs, h1, h2⟩ := h; exact ⟨cs, h1.keep (fun X B hX hB => hk X (by simp [hX]) B hB), h2⟩
theorem BL.stb {K : S → Prop} {l : List (List Nat × Ty)} {o : Option Nat} {v : V} : kz o.toList (BL K l o v) := fun _ _ h hk _ => h.keep hk
theorem BL.blk {K : S → Prop} {l : List (List Nat × Ty)} {o : Option Nat} {v : V} {s : S} (h : BL K l o v s) (hw : WF s) : ∀ g ∈ o.toList, g < s.next := fun g hg => by
 obtain ⟨cs, h1, _⟩ := h
 cases o with
 | none => simp at hg
 | some X => simp at hg; subst hg; exact h1.lt hw
theorem BL.app {K : S → Prop} {l : List (List Nat × Ty)} {x : List Nat} {t : Ty} {nm rw : V} {o : Option Nat} {v : V} {s : S} (h : BL K l o v s) (hw : WF s) {b : Nat} (hb : s.get b = some (.cells 56 false 1 [⟨0, 0, [.str x, nm, rw]⟩])) (hx : Bytes x) (hxl : x.length < 4611686018427387904) (ht : ff K t nm rw) (hl : l.length ≤ 999999) :
 ∃ v' s' X, yp.run Tryz.prog s (.bif .append #[36, 36] [v, .slice ⟨b, 0, 0⟩ 0 1 (some 1) 3]) = some (v', s') ∧ BL K (l ++ [(x, t)]) (some X) v' s' ∧ Fw o.toList s s' ∧ X < s'.next ∧ (o = some X ∨ s.next ≤ X) := by
 obtain ⟨cs, h1, h2⟩ := h
 have hone := ht.one
 obtain ⟨v', s', X, happ, hG2, hble, hor⟩ := gQ.app SI h1 hw (c := some 1) hb rfl (by simp [hone.1, hone.2, iW]) hl
 have hf : Fw o.toList s s' := by
  rcases hor with ⟨rfl, _, hf⟩ | ⟨rfl, hf⟩
  ·exact hf
  ·exact hf
 have hX : o = some X ∨ s.next ≤ X := by
  rcases hor with ⟨_, h, _⟩ | ⟨h, _⟩
  ·exact .inr (by omega)
  ·exact .inl h
 refine ⟨v', s', X, ?_, ⟨cs ++ [[.str x, nm, rw]], ?_, fP.app h2 ⟨nm, rw, [], rfl, hx, hxl, ht, rfl⟩⟩, hf, hG2.lt (hf.wf hw), hX⟩
 ·show io (fF (iZ Tryz.prog 36 36 s v (.slice ⟨b, 0, 0⟩ 0 1 (some 1) 3))) = _
  rw [happ]; rfl
 ·rw [List.length_append, List.flatten_append]
  simpa using hG2
theorem BL.rdb {K : S → Prop} {l : List (List Nat × Ty)} {o : Option Nat} {v : V} {s : S} (h : BL K l o v s) (hl : l.length < 4611686018427387904) : Hg (fun s' => K s' ∧ KB o.toList s s') l v := by
 obtain ⟨cs, h1, h2⟩ := h
 have hlen := h2.len
 exact ⟨cs, (ym (by rw [hlen]; exact h1) h2.three (by omega)).mono fun _ h => h.2, h2.mono fun _ h => h.1⟩
def uZ (K : S → Prop) : List (List Nat × V) → List (List Nat × Ty) → Prop
 | [], [] => True
 | (k, v) :: r, (k', t) :: r' => k = k' ∧ (∃ nm rw, v = .agg [nm, rw] ∧ ff K t nm rw) ∧ uZ K r r'
 | _, _ => False
theorem uZ.mono {K K' : S → Prop} (h : ∀ s, K' s → K s) : ∀ {M : List (List Nat × V)} {m : List (List Nat × Ty)}, uZ K M m → uZ K' M m
 | [], [], r => r
 | (k, v) :: r, (k', t) :: r', ⟨h1, ⟨nm, rw, h2, h3⟩, h4⟩ => ⟨h1, ⟨nm, rw, h2, h3.mono h⟩, uZ.mono h h4⟩
 | [], _ :: _, r => r.elim
 | _ :: _, [], r => r.elim
theorem uZ.get {K : S → Prop} (x : List Nat) : ∀ {M : List (List Nat × V)} {m : List (List Nat × Ty)}, uZ K M m → (∃ t nm rw, fH x M = some (.agg [nm, rw]) ∧ fI x m = some t ∧ ff K t nm rw) ∨ (fH x M = none ∧ fI x m = none)
 | [], [], _ => .inr ⟨rfl, rfl⟩
 | (k, v) :: r, (k', t) :: r', ⟨h1, ⟨nm, rw, h2, h3⟩, h4⟩ => by
  subst h1 h2
  by_cases hx : x = k
  ·subst hx; exact .inl ⟨t, nm, rw, by simp [fH], by simp [fI], h3⟩
  ·have := uZ.get x h4
   simp only [fH, fI, if_neg hx]; exact this
 | [], _ :: _, r => r.elim
 | _ :: _, [], r => r.elim
theorem uZ.snoc {K : S → Prop} {x : List Nat} {t : Ty} {nm rw : V} (hR : ff K t nm rw) : ∀ {M : List (List Nat × V)} {m : List (List Nat × Ty)}, uZ K M m → uZ K (M ++ [(x, .agg [nm, rw])]) (m ++ [(x, t)])
 | [], [], _ => ⟨rfl, ⟨nm, rw, rfl, hR⟩, trivial⟩
 | (k, v) :: r, (k', t') :: r', ⟨h1, h2, h4⟩ => ⟨h1, h2, uZ.snoc hR h4⟩
 | [], _ :: _, r => r.elim
 | _ :: _, [], r => r.elim
theorem Hk : rE Tryz.prog 25 true (some none) = some (.tuple [.agg [.str [], .nilslice], .bool false]) := by kernel_rfl
theorem uZ.lk {K K' : S → Prop} {mm : Nat} {M : List (List Nat × V)} {m : List (List Nat × Ty)} (h : uZ K M m) (hk : lY M) (hK : ∀ s, K' s → K s ∧ MP s mm M) : Lk (.map mm) m K' := by
 intro x hx
 have look : ∀ s, K' s → cp Tryz.prog s 78 (some (.map mm)) (some (.str x)) true = rE Tryz.prog 25 true (some (fH x M)) := fun s hs => by
  have h' : s.get mm = some (.map (ub M 0) M.length) := (hK s hs).2
  simp only [cp, Tryz.underlying78, oz, h', jF, cond_true, rG (fun a b ha hb => iO s a b ha hb) hx M 0 hk]
 rcases h.get x with ⟨t, nm, rw, h1, h2, h3⟩ | ⟨h1, h2⟩
 ·refine ⟨nm, rw, h3.one.1, h3.one.2, fun t' ht' => ?_, fun s hs => ?_⟩
  ·rw [h2] at ht'; cases ht'; exact h3.mono fun s hs => (hK s hs).1
  ·rw [look s hs, h1, h2]; rfl
 ·refine ⟨.str [], .nilslice, rfl, rfl, fun t' ht' => (by rw [h2] at ht'; cases ht'), fun s hs => ?_⟩
  rw [look s hs, h1, h2]; exact Hk
theorem IL {K : S → Prop} : Lk .nilmap [] K := by
 intro x hx
 refine ⟨.str [], .nilslice, rfl, rfl, fun t' ht' => (by cases ht'), fun s hs => ?_⟩
 have := Hk
 simp only [cp, Tryz.underlying78, oz, jF, cond_true, bX]
 exact this
theorem Ps {x : List Nat} : ∀ {m : List (List Nat × Ty)}, (fI x m).isSome = true ↔ x ∈ m.map (·.1)
 | [] => by simp [fI]
 | (k, t) :: r => by
  have := Ps (x := x) (m := r)
  by_cases hx : x = k
  ·subst hx; simp [fI]
  ·simp only [fI, if_neg hx, List.map_cons, List.mem_cons]
   rw [this]
   exact ⟨.inr, fun h => h.resolve_left hx⟩
theorem KD {t : Ty} (h : fR t = true) : cq t ≤ 99999 := by have := (bF h).1; omega
section
variable {K : S → Prop} {n : Nat} {l : List (List Nat × Ty)} {bv nm rw : V}
theorem gH {mm : Nat} {M : List (List Nat × V)} : kz [mm] fun s => MP s mm M := fun _ _ h hk _ => hk mm (by simp) _ h
end
mutual
def dP : Ty → Ty → Bool
 | .mk a l, .mk b q => decide (a = b) && decide (l.length = q.length) && fD l q
def fD : List Ty → List Ty → Bool
 | t :: r, u :: q => dP t u && fD r q
 | _, _ => true
end
mutual
theorem sI : ∀ (t u : Ty), dP t u = true ↔ t = u
 | .mk a l, .mk b q => by
  simp only [dP, Bool.and_eq_true, decide_eq_true_eq, Ty.mk.injEq]
  constructor
  ·rintro ⟨⟨h1, h2⟩, h3⟩; exact ⟨h1, (ql l q h2).1 h3⟩
  ·rintro ⟨h1, h2⟩; subst h2; exact ⟨⟨h1, rfl⟩, (ql l l rfl).2 rfl⟩
theorem ql : ∀ (l q : List Ty), l.length = q.length → (fD l q = true ↔ l = q)
 | [], [], _ => by simp only [fD]
 | [], _ :: _, h => by simp at h
 | _ :: _, [], h => by simp at h
 | t :: r, u :: q, h => by
  simp only [fD, Bool.and_eq_true, List.cons.injEq]
  rw [sI t u, ql r q (by simpa using h)]
end
theorem mG (t : Ty) : dP t t = true := (sI t t).2 rfl
mutual
def so (vs : List (List Nat)) : Ty → Ty → List (List Nat × Ty) → Option (List (List Nat × Ty))
 | .mk a l, u, m =>
  if a ∈ vs then (match fI a m with
   | some x => if dP x u = true then some m else none
   | none => some (m ++ [(a, u)]))
  else match u with
   | .mk b q => if a = b ∧ l.length = q.length then lL vs l q m else none
def lL (vs : List (List Nat)) : List Ty → List Ty → List (List Nat × Ty) → Option (List (List Nat × Ty))
 | t :: r, u :: q, m => match so vs t u m with
  | some m' => lL vs r q m'
  | none => none
 | _, _, m => some m
end
theorem pg {α : Type} {l : List α} {i : Nat} {x : α} (h : l[i]? = some x) : l.drop i = x :: l.drop (i + 1) := by
 obtain ⟨y, h1, h2⟩ := bM (List.getElem?_eq_some_iff.1 h).1
 rw [h] at h1; cases h1; exact h2
section
variable {K : S → Prop}
theorem Ww {Kq : S → Prop} {D : List Nat} (hK : ∀ s s', Fw D s s' → Kq s → Kq s') (hKq : ∀ s, Kq s → K s) {l q : List Ty} {v w : V} {cs cs' : List (List V)} (hrow : jO K 2 v cs) (hts : ea K l cs) (hrow' : jO K 2 w cs') (hts' : ea K q cs') {f : V} (hf1 : f.one = true) (P : Nat → S → Prop) (hP : ∀ i, kz D (P i)) (N : Prop)
 (hN : l.length ≠ q.length → N) {s : S}
 (step : ∀ i t u nm rw nm' rw' s1, l[i]? = some t → q[i]? = some u → ff K t nm rw → ff K u nm' rw' → WF s1 → Kq s1 → P i s1 → Fw D s s1 → ∃ b s2, Hj aq f [.agg [nm, rw], .agg [nm', rw']] s1 (.bool b) s2 ∧ Fw D s1 s2 ∧ (∃ P', kz D P' ∧ P' s2 ∧ ((b = true ∧ ∀ s, P' s → P (i + 1) s) ∨ (b = false ∧ N))))
 (hw : WF s) (hk : Kq s) (hp : P 0 s) (hD : ∀ g ∈ D, g < s.next) : Cw aq 75 [v, w, f] s fun r s' => ∃ b, r = .bool b ∧ Fw D s s' ∧ (b = true → P l.length s' ∧ l.length = q.length) ∧ (b = false → N) := by
 have hlt := hrow.lt
 have hlen := hts.len
 have hlt' := hrow'.lt
 have hlen' := hts'.len
 refine ay (aI (C := GI) (e := ⟨[v, w, f], []⟩) (F := D) (D := D) (U := P 0) (bE rfl rfl rfl) Tryz.func75 rfl (by kernel_rfl) OL rfl ⟨rfl, by simp [au, hrow.one, hrow'.one, hf1], rfl⟩ rfl hw rfl (by simp) trivial (hP 0) hp (fun g hg => ⟨hD g hg, hg, by simp⟩) ?_)
 refine bT rfl (fun s1 _ _ => hrow.len cX s1) rfl ?_
 refine bT rfl (fun s1 _ _ => hrow'.len cX s1) rfl ?_
 refine iv rfl rfl rfl ?_
 refine aP rfl (fun c1 => ?_) (fun c1 => ?_)
 ·exact ak fun s1 h1 h2 h3 h4 => ⟨_, _, rfl, false, rfl, h1, fun h => (by cases h), fun _ => hN (fun h => c1 (by rw [hlen, hlen', h]))⟩
 ·have hll : l.length = q.length := by omega
  refine bT rfl (fun s1 _ _ => hrow.len cX s1) rfl ?_
  refine fv (fun j vs bs D' U' => ∃ i, i ≤ l.length ∧ j = l.length - i ∧ vs = [w, f, v, .int .i64 ((cs.length : Nat) : Int), .int .i64 ((i : Nat) : Int)] ∧ bs = [] ∧ D = D' ∧ U' = P i) l.length ⟨0, by omega, rfl, rfl, rfl, rfl, rfl⟩ (hP 0) ?_
  rintro j _ _ _ _ ⟨i, hi, rfl, rfl, rfl, rfl, rfl⟩ - - -
  refine cP rfl rfl rfl ?_
  refine aP rfl (fun c2 => ?_) (fun c2 => ?_)
  ·obtain ⟨x, hx, hd⟩ := bM (show i < l.length by omega)
   obtain ⟨y, hy, hd'⟩ := bM (show i < q.length by omega)
   obtain ⟨nm1, rw1, hx1, hR1⟩ := hts.at hx
   obtain ⟨p, hp, hld⟩ := hrow.at cX dj hx1
   obtain ⟨nm2, rw2, hx2, hR2⟩ := hts'.at hy
   obtain ⟨p', hp', hld'⟩ := hrow'.at cX dj hx2
   have ho1 := hR1.one
   have ho2 := hR2.one
   refine ao (.ptr p) rfl (fun _ _ _ _ _ => hp) rfl ?_
   refine h_askN [nm1, rw1] (.agg [nm1, rw1]) rfl (by simp [au, ho1.1, ho1.2]) (fun a b _ _ _ => eM (hld a (hKq _ (hK _ _ b hk)))) rfl ?_
   refine aN fun b1 hb1 hd1 => ?_
   refine ao (.ptr p') rfl (fun _ _ _ _ _ => hp') rfl ?_
   refine h_askN [nm2, rw2] (.agg [nm2, rw2]) rfl (by simp [au, ho2.1, ho2.2]) (fun a b _ _ _ => eM (hld' a (hKq _ (hK _ _ b hk)))) rfl ?_
   refine aN fun b2 hb2 hd2 => ?_
   refine Lo fun s1 k1 k2 k3 k4 => ?_
   obtain ⟨b, s2, hcall, hf, P', hst, hp2, hor⟩ := step i x y nm1 rw1 nm2 rw2 s1 hx hy hR1 hR2 k2 (hK _ _ k1 hk) k3 k1
   refine ⟨[.bool b], _, s2, D, P', inferInstance, rfl, rfl, hcall, hf, hst, hp2, fun g hg => ⟨Nat.lt_of_lt_of_le (hD g hg) (Nat.le_trans k1.next hf.next), .inl hg⟩, ?_⟩
   refine dR rfl rfl ?_
   refine aB rfl (fun c3 => ?_) (fun c3 => ?_)
   ·have hb0 : b = false := by simpa using c3
    subst hb0
    rcases hor with ⟨h, _⟩ | ⟨_, h⟩
    ·cases h
    ·exact ak fun s1 h1 h2 h3 h4 => ⟨_, _, rfl, false, rfl, h1, fun h => (by cases h), fun _ => h⟩
   ·have hb0 : b = true := by simpa using c3
    subst hb0
    rcases hor with ⟨_, h⟩ | ⟨h, _⟩
    ·refine br (r := ((i + 1 : Nat) : Int)) rfl rfl (wI (by omega)) rfl ?_
     exact ⟨_, P (i + 1), rfl, hP (i + 1), fun _ _ _ hs => h _ hs, ⟨l.length - (i + 1), by omega, i + 1, by omega, rfl, rfl, rfl, rfl, rfl⟩⟩
    ·cases h
  ·have hil : i = l.length := by omega
   subst hil
   exact ak fun s1 h1 h2 h3 h4 => ⟨_, _, rfl, true, rfl, h1, fun _ => ⟨h3, hll⟩, fun h => by cases h⟩
theorem Xt (args : List V) (s : S) : gc aq 74 args s = some (.enter 74 args s) := by kernel_rfl
theorem Wz (args : List V) (s : S) : gc aq 76 args s = some (.enter 76 args s) := by kernel_rfl
theorem TE (hK : ep K) : ∀ (N : Nat) (t u : Ty) (nm rw nm' rw' : V) (s : S), cq t ≤ N → ff K t nm rw → ff K u nm' rw' → WF s → K s → Cw aq 74 [.agg [nm, rw], .agg [nm', rw']] s fun v s' => v = .bool (dP t u) ∧ Fw [] s s' := by
 intro N
 induction N with
 | zero => intro t u nm rw nm' rw' s h; cases t; simp only [cq] at h; omega
 | succ N ih =>
  intro t u nm rw nm' rw' s hN hR hR' hw hk
  have ho := hR.one
  have ho' := hR'.one
  refine ay (aI (C := AK) (e := ⟨[nm, rw, nm', rw'], []⟩) (F := []) (bE rfl rfl rfl) Tryz.func74 rfl (by kernel_rfl) Mq rfl ⟨rfl, by simp [au, ho.1, ho.2, ho'.1, ho'.2], rfl⟩ rfl hw rfl (by simp) trivial am trivial (by simp) ?_)
  obtain ⟨name, args⟩ := t
  obtain ⟨name', args'⟩ := u
  simp only [ff] at hR hR'
  obtain ⟨rfl, hb, hbl, cs, hrow, hts⟩ := hR
  obtain ⟨rfl, hb', hbl', cs', hrow', hts'⟩ := hR'
  simp only [cq] at hN
  refine aN fun b1 hb1 hd1 => ?_
  refine aN fun b2 hb2 hd2 => ?_
  refine gi rfl rfl hb hb' rfl ?_
  refine aP rfl (fun c1 => ?_) (fun c1 => ?_)
  ·subst c1
   refine aj (.bool (dP (.mk name args) (.mk name args'))) (fun s1 h1 h2 h3 h4 => ?_) rfl rfl ?_
   ·refine (Ww (K := K) (Kq := K) (D := []) hK (fun _ h => h) hrow hts hrow' hts' (f := .func (.func 74) [] []) rfl (fun i _ => args.length = args'.length → fD (args.drop i) (args'.drop i) = fD args args') (fun i => fun _ _ h _ _ => h) (dP (.mk name args) (.mk name args') = false)
     (fun h => ?_) (fun i x y n1 r1 n2 r2 s3 hx hy hR1 hR2 hw3 hk3 hp3 hf3 => ?_) h2 (hK _ _ h1 hk) (fun _ => by simp) (by simp)).mono fun v s' ⟨b, hv, hf, ht, hn⟩ => ?_
    ·simp only [dP, decide_eq_false h, Bool.and_false, Bool.false_and]
    ·have hsz := fT hx
     obtain ⟨v3, s4, hcall, rfl, hf4⟩ := ih x y n1 r1 n2 r2 s3 (by omega) hR1 hR2 hw3 hk3
     have hd := pg hx
     have hd' := pg hy
     refine ⟨_, s4, .inl ⟨74, [], [], rfl, Xt _ _, hcall⟩, hf4, (fun _ => args.length = args'.length → fD (args.drop i) (args'.drop i) = fD args args'), fun _ _ h _ _ => h, hp3, ?_⟩
     cases hxy : dP x y with
     | true =>
      refine .inl ⟨rfl, fun _ h hl => ?_⟩
      have := h hl
      rw [hd, hd'] at this
      simpa only [fD, hxy, Bool.true_and] using this
     | false =>
      refine .inr ⟨rfl, ?_⟩
      by_cases hl : args.length = args'.length
      ·have := hp3 hl
       rw [hd, hd'] at this
       simp only [fD, hxy, Bool.false_and] at this
       simp only [dP, ← this, Bool.and_false]
      ·simp only [dP, decide_eq_false hl, Bool.and_false, Bool.false_and]
    ·subst hv
     refine ⟨?_, hf⟩
     cases b with
     | true =>
      obtain ⟨h5, h6⟩ := ht rfl
      have := h5 h6
      rw [h6, List.drop_length, ← h6, List.drop_length] at this
      simp only [fD] at this
      simp only [dP, ← this, h6, decide_true, Bool.and_self]
     | false => rw [hn rfl]
   exact ak fun s1 h1 h2 h3 h4 => ⟨_, _, rfl, rfl, h1⟩
  ·exact ak fun s1 h1 h2 h3 h4 => ⟨_, _, rfl, by simp only [dP, decide_eq_false c1, Bool.false_and]; rfl, h1⟩
end
theorem uZ.lk2 {K K' : S → Prop} {mm : Nat} {M : List (List Nat × V)} {m : List (List Nat × Ty)} (h : uZ K M m) (hk : lY M) (hK : ∀ s, K' s → MP s mm M) (x : List Nat) (hx : Bytes x) : ∃ nm rw : V, nm.one = true ∧ rw.one = true ∧ (∀ t, fI x m = some t → ff K t nm rw) ∧
 ∀ s, K' s → cp Tryz.prog s 78 (some (.map mm)) (some (.str x)) true = some (.tuple [.agg [nm, rw], .bool (fI x m).isSome]) := by
 have look : ∀ s, K' s → cp Tryz.prog s 78 (some (.map mm)) (some (.str x)) true = rE Tryz.prog 25 true (some (fH x M)) := fun s hs => by
  have h' : s.get mm = some (.map (ub M 0) M.length) := hK s hs
  simp only [cp, Tryz.underlying78, oz, h', jF, cond_true, rG (fun a b ha hb => iO s a b ha hb) hx M 0 hk]
 rcases h.get x with ⟨t, nm, rw, h1, h2, h3⟩ | ⟨h1, h2⟩
 ·refine ⟨nm, rw, h3.one.1, h3.one.2, fun t' ht' => ?_, fun s hs => ?_⟩
  ·rw [h2] at ht'; cases ht'; exact h3
  ·rw [look s hs, h1, h2]; rfl
 ·refine ⟨.str [], .nilslice, rfl, rfl, fun t' ht' => (by rw [h2] at ht'; cases ht'), fun s hs => ?_⟩
  rw [look s hs, h1, h2]; exact Hk
structure XG (vs : List (List Nat)) (Mo : List (List Nat × V)) : Prop where
 keys : lY Mo
 get : ∀ x, (fH x Mo).getD (.int .i64 0) = .int .i64 (if x ∈ vs then 1 else 0)
def QG (K : S → Prop) (vs : List (List Nat)) (mo mm nn N : Nat) : Prop := ∀ (t u : Ty) (m : List (List Nat × Ty)) (M : List (List Nat × V)) (nm rw nm' rw' : V) (s : S), cq t ≤ N → ff K t nm rw → ff K u nm' rw' → WF s → K s → nn ≤ s.next → MP s mm M → uZ K M m → lY M →
 Cw aq 51 [.map mo, .map mm, .agg [nm, rw], .agg [nm', rw']] s fun v s' => Fw [mm] s s' ∧ ((∃ m' M', so vs t u m = some m' ∧ v = .bool true ∧ MP s' mm M' ∧ uZ K M' m' ∧ lY M') ∨ (so vs t u m = none ∧ v = .bool false))
section
variable {K : S → Prop} {vs : List (List Nat)} {mo mm nn : Nat} {Mo : List (List Nat × V)}
theorem Rz {N : Nat} (ih : QG K vs mo mm nn N) {t u : Ty} {m : List (List Nat × Ty)} {M : List (List Nat × V)} {nm rw nm' rw' : V} {b1 b2 : Nat} {s : S} (hN : cq t ≤ N) (hR : ff K t nm rw) (hR' : ff K u nm' rw') (hw : WF s) (hK : Kf K mm nn) (hn : nn ≤ s.next) (hb1 : nn ≤ b1) (hb2 : nn ≤ b2) (hk : K s) (hm : MP s mm M) (hM : uZ K M m) (hkm : lY M)
 (g1 : s.get b1 = some (.cells 86 false 1 [⟨0, 0, [.map mo]⟩])) (g2 : s.get b2 = some (.cells 78 false 1 [⟨0, 0, [.map mm]⟩])) :
 Cw aq 76 [.agg [nm, rw], .agg [nm', rw'], .ptr ⟨b1, 0, 0⟩, .ptr ⟨b2, 0, 0⟩] s fun v s' => Fw [mm] s s' ∧ ((∃ m' M', so vs t u m = some m' ∧ v = .bool true ∧ MP s' mm M' ∧ uZ K M' m' ∧ lY M') ∨ (so vs t u m = none ∧ v = .bool false)) := by
 have ho := hR.one
 have ho' := hR'.one
 have hml : mm < s.next := hw mm _ hm
 have hb12 : b1 ≠ b2 := fun h => by subst h; rw [g1] at g2; cases g2
 have hb1m : b1 ≠ mm := fun h => by subst h; have : s.get b1 = some (.map (ub M 0) M.length) := hm; rw [g1] at this; cases this
 have hb2m : b2 ≠ mm := fun h => by subst h; have : s.get b2 = some (.map (ub M 0) M.length) := hm; rw [g2] at this; cases this
 refine ay (aI (C := uw) (e := ⟨[nm, rw, nm', rw', .map mo, .map mm], [b1, b2]⟩) (F := [b1, b2, mm]) (D := [mm]) (U := fun s => MP s mm M) (bE rfl rfl rfl) Tryz.func76 rfl (by kernel_rfl) EY rfl ⟨rfl, by simp [au, ho.1, ho.2, ho'.1, ho'.2]; exact ⟨rfl, rfl⟩, rfl⟩ rfl hw (by simp [jk, hb12]) (by simp) ⟨g1, g2, trivial⟩ gH hm (fun g hg => by simp at hg; subst hg; exact ⟨hml, by simp, by simp [Ne.symm hb1m, Ne.symm hb2m]⟩) ?_)
 have fin : ∀ s', Fw [b1, b2, mm] s s' → s'.get b1 = some (.cells 86 false 1 [⟨0, 0, [.map mo]⟩]) → s'.get b2 = some (.cells 78 false 1 [⟨0, 0, [.map mm]⟩]) → Fw [mm] s s' := fun s' hf h1 h2 =>
  (hf.strike (fun B hB => by rw [g1] at hB; cases hB; exact h1)).strike (fun B hB => by rw [g2] at hB; cases hB; exact h2)
 refine aN fun b3 hb3 hd3 => ?_
 refine aN fun b4 hb4 hd4 => ?_
 refine cU fun s1 k1 k2 k3 k4 => ?_
 have hk1 : K s1 := hK _ _ _ (by simp [hb1, hb2]) k1 hk
 obtain ⟨v, s2, hcall, hf, hor⟩ := ih t u m M nm rw nm' rw' s1 hN hR hR' k2 hk1 (Nat.le_trans hn k1.next) k3 hM hkm
 rcases hor with ⟨m', M', e1, rfl, e3, e4, e5⟩ | ⟨e1, rfl⟩
 ·refine .inl ⟨[.bool true], _, s2, [mm], fun s => MP s mm M', inferInstance, rfl, rfl, hcall, hf.mono (by simp [eI]), trivial, gH, e3, fun g hg => ?_, ?_⟩
  ·simp at hg; subst hg; exact ⟨Nat.lt_of_lt_of_le hml (Nat.le_trans k1.next hf.next), .inl (by simp)⟩
  exact ak fun s3 h1 h2 h3 h4 => ⟨_, _, rfl, fin s3 h1 h4.1 h4.2.1, .inl ⟨m', M', e1, rfl, h3, e4, e5⟩⟩
 ·refine .inl ⟨[.bool false], _, s2, [], T0, inferInstance, rfl, rfl, hcall, hf.mono (by simp [eI]), trivial, am, trivial, by simp, ?_⟩
  exact ak fun s3 h1 h2 h3 h4 => ⟨_, _, rfl, fin s3 h1 h4.1 h4.2.1, .inr ⟨e1, rfl⟩⟩
theorem TW (hK : Kf K mm nn) (hmn : mm ≠ mo) (hO : XG vs Mo) (hKo : ∀ s, K s → MP s mo Mo) : ∀ N, QG K vs mo mm nn N := by
 intro N
 induction N with
 | zero => intro t u m M nm rw nm' rw' s h; cases t; simp only [cq] at h; omega
 | succ N ih =>
  intro t u m M nm rw nm' rw' s hN hR hR' hw hk hn hm hM hkm
  have ho := hR.one
  have ho' := hR'.one
  have hml : mm < s.next := hw mm _ hm
  have hRu := hR'
  refine ay (aI (C := xK) (e := ⟨[.map mo, .map mm, nm, rw, nm', rw'], []⟩) (F := [mm]) (D := [mm]) (U := fun s => MP s mm M) (bE rfl rfl rfl) Tryz.func51 rfl (by kernel_rfl) Ir rfl ⟨rfl, by simp [au, ho.1, ho.2, ho'.1, ho'.2]; exact ⟨rfl, rfl⟩, rfl⟩ rfl hw rfl (by simp) trivial gH hm (fun g hg => by simp at hg; subst hg; exact ⟨hml, by simp, by simp⟩) ?_)
  have hkk : ∀ s1, Fw [mm] s s1 → K s1 := fun s1 h1 => hK _ _ _ (by simp) h1 hk
  obtain ⟨name, args⟩ := t
  obtain ⟨name', args'⟩ := u
  simp only [ff] at hR hR'
  obtain ⟨rfl, hb, hbl, cs, hrow, hts⟩ := hR
  obtain ⟨rfl, hb', hbl', cs', hrow', hts'⟩ := hR'
  simp only [cq] at hN
  refine aN fun b1 hb1 hd1 => ?_
  refine aN fun b2 hb2 hd2 => ?_
  refine aN fun b3 hb3 hd3 => ?_
  refine aN fun b4 hb4 hd4 => ?_
  refine ao (.int .i64 (if name ∈ vs then 1 else 0)) rfl (fun s1 h1 h2 h3 h4 => ?_) rfl ?_
  ·show cp Tryz.prog s1 86 (some (.map mo)) (some (.str name)) false = _
   rw [(hKo s1 (hkk s1 h1)).look hO.keys hb, hO.get]
  refine gp rfl rfl rfl ?_
  refine aP rfl (fun c1 => ?_) (fun c1 => ?_)
  ·have hin : name ∈ vs := by
    by_cases h : name ∈ vs
    ·exact h
    ·rw [if_neg h] at c1; omega
   obtain ⟨nx, rx, hn1, hr1, hRl, hdo⟩ := hM.lk2 (mm := mm) (K' := fun s => MP s mm M) hkm (fun _ h => h) name hb
   refine h_askN [nx, rx, .bool (fI name m).isSome] (.tuple [.agg [nx, rx], .bool (fI name m).isSome]) rfl (by simp [au, hn1, hr1]; rfl) (fun a _ _ b _ => hdo a (b rfl)) rfl ?_
   refine aN fun b5 hb5 hd5 => ?_
   refine dR rfl rfl ?_
   refine aB rfl (fun c2 => ?_) (fun c2 => ?_)
   ·have hno : fI name m = none := by
     cases hx : fI name m with
     | none => rfl
     | some x => rw [hx] at c2; cases c2
    have hsp : so vs (.mk name args) (.mk name' args') m = some (m ++ [(name, .mk name' args')]) := by simp only [so]; rw [if_pos hin, hno]
    refine gT fun s4 k1 k2 k3 k4 => ?_
    obtain ⟨s5, hrun, hmp, hf, hml2⟩ := MP.upd k3 k2 hkm hb (.agg [.str name', rw']) Tryz.underlying78
    have hnew : ir name (.agg [.str name', rw']) M = M ++ [(name, .agg [.str name', rw'])] := by
     refine rq _ ?_
     rcases hM.get name with ⟨t', n1, r1, h1, h2, h3⟩ | ⟨h1, h2⟩
     ·rw [hno] at h2; cases h2
     ·exact h1
    refine ⟨[], _, s5, [mm], fun s => MP s mm (ir name (.agg [.str name', rw']) M), inferInstance, rfl, rfl, hrun, hf, gH, hmp, fun g hg => ?_, ?_⟩
    ·simp at hg; subst hg; exact ⟨hml2, .inl (by simp)⟩
    exact ak fun s3 h1 h2 h3 h4 => ⟨_, _, rfl, h1, .inl ⟨_, _, hsp, rfl, h3, by rw [hnew]; exact uZ.snoc hRu hM, hkm.set hb _⟩⟩
   ·cases hx : fI name m with
    | none => rw [hx] at c2; cases c2
    | some x =>
     have hRx := hRl x hx
     refine aj (.bool (dP x (.mk name' args'))) (fun s1 h1 h2 h3 h4 => ?_) rfl rfl ?_
     ·exact TE (fun a b hf hk => hK _ _ _ (by simp) hf hk) (cq x) x _ nx rx _ _ s1 (Nat.le_refl _) hRx hRu h2 (hkk s1 h1)
     refine ak fun s3 h1 h2 h3 h4 => ⟨_, _, rfl, h1, ?_⟩
     cases hs : dP x (.mk name' args') with
     | true => exact .inl ⟨m, M, by simp only [so]; rw [if_pos hin, hx]; simp only [hs, if_true], rfl, h3, hM, hkm⟩
     | false => exact .inr ⟨by simp only [so]; rw [if_pos hin, hx]; simp only [hs]; rfl, rfl⟩
  ·have hin : name ∉ vs := fun h => by rw [if_pos h] at c1; omega
   have hsp : so vs (.mk name args) (.mk name' args') m = if name = name' ∧ args.length = args'.length then lL vs args args' m else none := by simp only [so]; rw [if_neg hin]
   refine gi rfl rfl hb hb' rfl ?_
   refine aP rfl (fun c3 => ?_) (fun c3 => ?_)
   ·refine cU fun s1 k1 k2 k3 k4 => ?_
    have hne1 : b1 ≠ mm := fun h => hd1 (by simp [h])
    have hne2 : b2 ≠ mm := fun h => hd2 (by simp [h])
    have hn1 := k1.next
    obtain ⟨v, s2, hcall, b, rfl, hf, htr, hfl⟩ := Ww (K := K) (Kq := fun s => K s ∧ s.get b1 = some (.cells 86 false 1 [⟨0, 0, [.map mo]⟩]) ∧ s.get b2 = some (.cells 78 false 1 [⟨0, 0, [.map mm]⟩])) (D := [mm])
     (fun a b hf ⟨h1, h2, h3⟩ => ⟨hK _ _ _ (by simp) hf h1, hf.keep _ _ (by simp [hne1]) h2, hf.keep _ _ (by simp [hne2]) h3⟩) (fun _ h => h.1) hrow hts hrow' hts'
     (f := .func (.func 76) [] [.ptr ⟨b1, 0, 0⟩, .ptr ⟨b2, 0, 0⟩]) rfl (fun i s => ∃ m' M', (args.length = args'.length → lL vs (args.drop i) (args'.drop i) m' = lL vs args args' m) ∧ MP s mm M' ∧ uZ K M' m' ∧ lY M')
     (fun i a b ⟨m', M', e1, e2, e3, e4⟩ hk _ => ⟨m', M', e1, hk mm (by simp) _ e2, e3, e4⟩) (so vs (.mk name args) (.mk name' args') m = none) (fun h => by rw [hsp, if_neg (fun hh => h hh.2)])
     (fun i x y n1 r1 n2 r2 s3 hx hy hR1 hR2 hw3 hk3 hp3 hf3 => by
      obtain ⟨m', M', e1, e2, e3, e4⟩ := hp3
      have hsz := fT hx
      have hd := pg hx
      have hd' := pg hy
      obtain ⟨v3, s4, hcall3, hf4, hor⟩ := Rz ih (t := x) (u := y) (m := m') (M := M') (by omega) hR1 hR2 hw3 hK (by have := hf3.next; omega) (Nat.le_trans hn hb1) (Nat.le_trans hn hb2) hk3.1 e2 e3 e4 hk3.2.1 hk3.2.2
      rcases hor with ⟨m2, M2, f1, rfl, f3, f4, f5⟩ | ⟨f1, rfl⟩
      ·refine ⟨true, s4, .inl ⟨76, [], [.ptr ⟨b1, 0, 0⟩, .ptr ⟨b2, 0, 0⟩], rfl, Wz _ _, hcall3⟩, hf4, (fun s => MP s mm M2), gH, f3, .inl ⟨rfl, fun s hs => ⟨m2, M2, fun hl => ?_, hs, f4, f5⟩⟩⟩
       have := e1 hl
       rw [hd, hd'] at this
       simpa only [lL, f1] using this
      ·refine ⟨false, s4, .inl ⟨76, [], [.ptr ⟨b1, 0, 0⟩, .ptr ⟨b2, 0, 0⟩], rfl, Wz _ _, hcall3⟩, hf4, T0, (fun _ _ _ _ _ => trivial), trivial, .inr ⟨rfl, ?_⟩⟩
       rw [hsp]
       split
       ·rename_i hh
        have := e1 hh.2
        rw [hd, hd'] at this
        simp only [lL, f1] at this
        exact this.symm
       ·rfl)
     k2 ⟨hkk s1 k1, k4.1, k4.2.1⟩ ⟨m, M, fun _ => by simp, k3, hM, hkm⟩ (by simp; exact Nat.lt_of_lt_of_le hml hn1)
    cases b with
    | true =>
     obtain ⟨⟨m', M', e1, e2, e3, e4⟩, hl⟩ := htr rfl
     have e1 := e1 hl
     rw [List.drop_length] at e1
     simp only [lL] at e1
     refine .inl ⟨[.bool true], _, s2, [mm], fun s => MP s mm M', inferInstance, rfl, rfl, hcall, hf.mono (by simp [eI]), trivial, gH, e2, fun g hg => ?_, ?_⟩
     ·simp at hg; subst hg; exact ⟨Nat.lt_of_lt_of_le hml (Nat.le_trans k1.next hf.next), .inl (by simp)⟩
     exact ak fun s3 h1 h2 h3 h4 => ⟨_, _, rfl, h1, .inl ⟨m', M', by rw [hsp, if_pos ⟨c3, hl⟩, ← e1], rfl, h3, e3, e4⟩⟩
    | false =>
     refine .inl ⟨[.bool false], _, s2, [], T0, inferInstance, rfl, rfl, hcall, hf.mono (by simp [eI]), trivial, am, trivial, by simp, ?_⟩
     exact ak fun s3 h1 h2 h3 h4 => ⟨_, _, rfl, h1, .inr ⟨hfl rfl, rfl⟩⟩
   ·exact ak fun s3 h1 h2 h3 h4 => ⟨_, _, rfl, h1, .inr ⟨by rw [hsp, if_neg (fun h => c3 h.1)], rfl⟩⟩
end
section
variable {K : S → Prop}
theorem If (hK : ep K) : ∀ (N : Nat) (t u : Ty) (nm rw nm' rw' : V) (s : S), cq t ≤ N → ff K t nm rw → ff K u nm' rw' → WF s → K s → Cw aq 19 [.agg [nm, rw], .agg [nm', rw']] s fun v s' => v = .bool (dP t u) ∧ Fw [] s s' := by
 intro N
 induction N with
 | zero => intro t u nm rw nm' rw' s h; cases t; simp only [cq] at h; omega
 | succ N ih =>
  intro t u nm rw nm' rw' s hN hR hR' hw hk
  have ho := hR.one
  have ho' := hR'.one
  refine ay (aI (C := AJ) (e := ⟨[nm, rw, nm', rw'], []⟩) (F := []) (bE rfl rfl rfl) Tryz.func19 rfl (by kernel_rfl) Mp rfl ⟨rfl, by simp [au, ho.1, ho.2, ho'.1, ho'.2], rfl⟩ rfl hw rfl (by simp) trivial am trivial (by simp) ?_)
  obtain ⟨name, args⟩ := t
  obtain ⟨name', args'⟩ := u
  simp only [ff] at hR hR'
  obtain ⟨rfl, hb, hbl, cs, hrow, hts⟩ := hR
  obtain ⟨rfl, hb', hbl', cs', hrow', hts'⟩ := hR'
  have hlen := hts.len
  have hlt := hrow.lt
  have hlen' := hts'.len
  have hlt' := hrow'.lt
  simp only [cq] at hN
  have key : ∀ (q : Bool) (b1 b2 : Nat) (L : List bS), (q = false ↔ name = name' ∧ args.length = args'.length) → ai aq [] s (sq fun v s' => v = .bool (dP (.mk name args) (.mk name' args')) ∧ Fw [] s s') qf ⟨[.bool q, .str name, rw, .str name', rw'], [b1, b2]⟩ [] T0 L := by
   intro q b1 b2 L hq
   refine aB rfl (fun c1 => ?_) (fun c1 => ?_)
   ·refine ak fun s1 h1 h2 h3 h4 => ⟨_, _, rfl, ?_, h1⟩
    have hno : ¬ (name = name' ∧ args.length = args'.length) := fun h => by rw [hq.2 h] at c1; cases c1
    show V.bool false = _
    congr 1
    cases hs : dP (.mk name args) (.mk name' args') with
    | false => rfl
    | true => have := (sI _ _).1 hs; simp only [Ty.mk.injEq] at this; exact absurd ⟨this.1, by rw [this.2]⟩ hno
   ·obtain ⟨hn, hl⟩ := hq.1 c1
    subst hn
    have hsp : dP (.mk name args) (.mk name args') = fD args args' := by simp only [dP, hl, decide_true, Bool.true_and]
    rw [hsp]
    refine ej (fun j vs bs => ∃ i, i ≤ args.length ∧ j = args.length - i ∧ vs = [.int .i64 ((i : Nat) : Int), .str name, rw, .str name, rw'] ∧ bs = [b1, b2] ∧ fD (args.drop i) (args'.drop i) = fD args args') args.length ⟨0, by omega, rfl, rfl, rfl, by simp⟩ ?_
    rintro j _ _ ⟨i, hi, rfl, rfl, rfl, hf⟩
    refine bT rfl (fun s1 _ _ => hrow.len cX s1) rfl ?_
    refine cP rfl rfl rfl ?_
    refine aP rfl (fun c2 => ?_) (fun c2 => ?_)
    ·obtain ⟨x, hx, hd⟩ := bM (show i < args.length by omega)
     obtain ⟨y, hy, hd'⟩ := bM (show i < args'.length by omega)
     rw [hd, hd'] at hf
     simp only [fD] at hf
     obtain ⟨nm1, rw1, hx1, hR1⟩ := hts.at hx
     obtain ⟨p, hp, hld⟩ := hrow.at cX dj hx1
     obtain ⟨nm2, rw2, hx2, hR2⟩ := hts'.at hy
     obtain ⟨p', hp', hld'⟩ := hrow'.at cX dj hx2
     have ho1 := hR1.one
     have ho2 := hR2.one
     have hsz := fT hx
     refine ao (.ptr p) rfl (fun _ _ _ _ _ => hp) rfl ?_
     refine h_askN [nm1, rw1] (.agg [nm1, rw1]) rfl (by simp [au, ho1.1, ho1.2]) (fun a b _ _ _ => eM (hld a (hK _ _ b hk))) rfl ?_
     refine ao (.ptr p') rfl (fun _ _ _ _ _ => hp') rfl ?_
     refine h_askN [nm2, rw2] (.agg [nm2, rw2]) rfl (by simp [au, ho2.1, ho2.2]) (fun a b _ _ _ => eM (hld' a (hK _ _ b hk))) rfl ?_
     refine aj (.bool (dP x y)) (fun a b c _ _ => ih x y nm1 rw1 nm2 rw2 a (by omega) hR1 hR2 c (hK _ _ b hk)) rfl rfl ?_
     refine dR rfl rfl ?_
     refine aB rfl (fun c3 => ?_) (fun c3 => ?_)
     ·have h0 : dP x y = false := by simpa using c3
      exact ak fun s1 h1 h2 h3 h4 => ⟨_, _, rfl, by rw [← hf, h0]; rfl, h1⟩
     ·have h0 : dP x y = true := by simpa using c3
      rw [h0, Bool.true_and] at hf
      refine br (r := ((i + 1 : Nat) : Int)) rfl rfl (wI (by omega)) rfl ?_
      exact eJ (args.length - (i + 1)) rfl (by omega) ⟨i + 1, by omega, rfl, rfl, rfl, hf⟩
    ·have : i = args.length := by omega
     subst this
     rw [List.drop_length] at hf
     simp only [fD] at hf
     exact ak fun s1 h1 h2 h3 h4 => ⟨_, _, rfl, by rw [← hf]; rfl, h1⟩
  refine aN fun b1 hb1 hd1 => ?_
  refine aN fun b2 hb2 hd2 => ?_
  refine wY rfl rfl hb hb' rfl ?_
  refine aB rfl (fun c4 => ?_) (fun c4 => ?_)
  ·have hne : name ≠ name' := by simpa using c4
   exact aK (key true _ _ _ ⟨fun h => (by cases h), fun h => absurd h.1 hne⟩)
  ·have heq : name = name' := by simpa using c4
   refine bT rfl (fun s1 _ _ => hrow.len cX s1) rfl ?_
   refine bT rfl (fun s1 _ _ => hrow'.len cX s1) rfl ?_
   refine iv rfl rfl rfl ?_
   exact aK (key _ _ _ _ ⟨fun h => ⟨heq, by have := of_decide_eq_false h; omega⟩, fun h => decide_eq_false (by omega)⟩)
end
section
variable {m : List (List Nat × Ty)}
mutual
theorem TK : ∀ (t : Ty) (c : Nat), c ≤ (sM m t c).2
 | .mk name args, c => by
  simp only [sM]
  split
  ·exact Nat.le_refl _
  ·split
   ·simp only; omega
   ·have := Cv args (c + 1); simp only; omega
theorem Cv : ∀ (l : List Ty) (c : Nat), c ≤ (mN m l c).2
 | [], c => by simp [mN]
 | t :: r, c => by
  simp only [mN]
  exact Nat.le_trans (TK t c) (Cv r _)
end
end
theorem CK {x : List Nat} : ∀ {m : List (List Nat × Ty)} {i : Nat} {y : List Nat} {t : Ty}, m[i]? = some (y, t) → fI x (m.drop i) = if x = y then some t else fI x (m.drop (i + 1))
 | [], i, y, t, h => by simp at h
 | (y', t') :: r, 0, y, t, h => by simp at h; obtain ⟨rfl, rfl⟩ := h; simp only [List.drop_zero, fI, List.drop_succ_cons]
 | (y', t') :: r, i + 1, y, t, h => by
  have := CK (x := x) (m := r) (i := i) (y := y) (t := t) (by simpa using h)
  simpa only [List.drop_succ_cons] using this
section
variable {K : S → Prop} {fc n : Nat} {m : List (List Nat × Ty)} {mv : V}
theorem VK (hK : Kf K fc n) (hB : Hg K m mv) : ∀ N, QE 46 (sM m) mv K K fc n N := by
 intro N
 induction N with
 | zero => intro t c nm rw s h; cases t; simp only [cq] at h; omega
 | succ N ih =>
  intro t c nm rw s hN hs9 hR hw hk hn hg hcl
  have ho := hR.one
  have hmv := hB.one
  have hmlt := hB.lt
  have hfcl : fc < s.next := hw fc _ hg
  refine ay (aI (C := GE) (e := ⟨[mv, nm, rw, .int .i64 ((c : Nat) : Int)], [fc]⟩) (F := [fc]) (bE rfl rfl rfl) Tryz.func46 rfl (by kernel_rfl) OH rfl ⟨rfl, by simp [au, ho.1, ho.2, hmv, eA], rfl⟩ rfl hw rfl (by simp) ⟨hg, trivial⟩ am trivial (by simp) ?_)
  obtain ⟨name, args⟩ := t
  simp only [ff] at hR
  obtain ⟨rfl, hb, hbl, cs, hrow, hts⟩ := hR
  have hlen := hts.len
  have hlt := hrow.lt
  simp only [cq] at hN hs9
  have hkk : ∀ F s1, Fw F s s1 → (∀ b ∈ F, b = fc ∨ s.next ≤ b) → K s1 := fun F s1 h1 hF => hK F s s1 (fun b hb => (hF b hb).imp id (fun h => Nat.le_trans hn h)) h1 hk
  have hkf : ∀ s1, Fw [fc] s s1 → K s1 := fun s1 h1 => hkk [fc] s1 h1 (by simp)
  have key : ∀ (b1 b2 : Nat) (L : List bS), ¬ 2000 < c → (if CN name = true then fI name m else none) = none →
   ai aq [fc] s (sq fun v s' => ∃ nm' rw' G, v = .agg [nm', rw'] ∧ MT K G (sM m (.mk name args) c).1 nm' rw' s' ∧ (∀ g ∈ G, s.next ≤ g) ∧ s'.get fc = some (tC (sM m (.mk name args) c).2) ∧ Fw [fc] s s') sD ⟨[mv, .int .i64 ((c : Nat) : Int), .str name, rw, .str [], .nilslice], [fc, b1, b2]⟩ [] T0 L := by
   intro b1 b2 L h2000 hx
   have hsp : sM m (.mk name args) c = (.mk name (mN m args (c + 1)).1, (mN m args (c + 1)).2) := by simp only [sM, hx]; rw [if_neg h2000]
   rw [hsp] at hcl
   simp only at hcl
   refine br (r := ((c + 1 : Nat) : Int)) rfl rfl (wI (by omega)) rfl ?_
   refine aN fun b4 hb4 hd4 => ?_
   refine fv (fun j vs bs D U => ∃ (i c' : Nat) (l2 : List Ty) (o2 : Option Nat) (out2 : V) (G2 : List Nat), i ≤ args.length ∧ j = args.length - i ∧ vs = [mv, .int .i64 ((i : Nat) : Int), .int .i64 ((c' : Nat) : Int), .str name, rw, .str [], .nilslice, .str name, out2] ∧ bs = [fc, b1, b2, b4] ∧ D = G2 ++ o2.toList ∧ U = TL K G2 l2 o2 out2 ∧ out2.one = true ∧ l2.length = i ∧
    (∀ g ∈ G2 ++ o2.toList, s.next ≤ g) ∧ (mN m args (c + 1)).1 = l2 ++ (mN m (args.drop i) c').1 ∧ (mN m args (c + 1)).2 = (mN m (args.drop i) c').2)
    args.length ⟨0, c + 1, [], none, .nilslice, [], by omega, rfl, rfl, rfl, rfl, funext fun s => propext ⟨fun _ => TL.nil s, fun _ => trivial⟩, rfl, rfl, by simp, by simp, by simp⟩ am ?_
   rintro j _ _ _ _ ⟨i, c', l2, o2, out2, G2, hi, rfl, rfl, rfl, rfl, rfl, hone2, hl2, hfr, hs1, hs2⟩ - - -
   refine bT rfl (fun s1 _ _ => hrow.len cX s1) rfl ?_
   refine cP rfl rfl rfl ?_
   refine aP rfl (fun c4 => ?_) (fun c4 => ?_)
   ·obtain ⟨t', ht', hdr⟩ := bM (show i < args.length by omega)
    rw [hdr] at hs1 hs2
    simp only [mN] at hs1 hs2
    obtain ⟨nm3, rw3, hx3, hR3⟩ := hts.at ht'
    obtain ⟨p3, hp3, hld3⟩ := hrow.at cX dj hx3
    have ho3 := hR3.one
    have hsz3 := fT ht'
    refine ao (.ptr p3) rfl (fun _ _ _ _ _ => hp3) rfl ?_
    refine h_askN [nm3, rw3] (.agg [nm3, rw3]) rfl (by simp [au, ho3.1, ho3.2]) (fun a b _ _ _ => eM (hld3 a (hkf a b))) rfl ?_
    refine cU fun s1 k1 k2 k3 k4 => ?_
    obtain ⟨v, s2, hcall, nm2, rw2, G, rfl, hM, hG, hc2, hf⟩ := ih t' c' nm3 rw3 s1 (by omega) (by omega) hR3 k2 (hkf s1 k1) (Nat.le_trans hn k1.next) k4.1 (by have := Cv (m := m) (args.drop (i + 1)) (sM m t' c').2; omega)
    have hoM := hM.one
    have hblk := k3.blk k2
    have hT2 : TL K G2 l2 o2 out2 s2 := k3.keep (KB.fw hf (fun g hgm hgf => by simp at hgf; have := hfr g hgm; omega)) hf.next
    refine .inl ⟨[.int .i64 (((sM m t' c').2 : Nat) : Int), nm2, rw2], _, s2, (G2 ++ o2.toList) ++ G, fun s => TL K G2 l2 o2 out2 s ∧ MT K G (sM m t' c').1 nm2 rw2 s, inferInstance, rfl, by simp [au, hoM.1, hoM.2, eA], hcall, hf.mono (by simp [eI]; exact .inl rfl), ⟨hc2, trivial⟩,
     fun a b ⟨h1, h2⟩ hk hn => ⟨h1.keep (fun g hg => hk g (List.mem_append_left _ hg)) hn, h2.keep (fun g hg => hk g (List.mem_append_right _ hg)) hn⟩, ⟨hT2, hM⟩, fun g hg => ?_, ?_⟩
    ·rcases List.mem_append.1 hg with hg | hg
     ·exact ⟨Nat.lt_of_lt_of_le (hblk g hg) hf.next, .inl hg⟩
     ·exact ⟨hM.2 g hg, .inr (hG g hg)⟩
    refine aN fun b6 hb6 hd6 => ?_
    refine gT fun s3 j1 j2 j3 j4 => ?_
    have hoG : ∀ g ∈ G, o2 ≠ some g := fun g hg ho2 => by
     have h1 := hblk g (by simp [ho2])
     have h2 := hG g hg
     omega
    obtain ⟨v', s4, X, hrun, hT4, hf4, hXl, hXo⟩ := j3.1.app j2 (b := b6) j4.1 j3.2 hoG (by have := wL args; omega)
    have hfrX : ∀ g ∈ (G2 ++ G) ++ (some X).toList, s.next ≤ g := fun g hg => by
     simp only [List.mem_append, Option.mem_toList, Option.some.injEq] at hg
     rcases hg with (hg | hg) | hg
     ·exact hfr g (by simp [hg])
     ·exact Nat.le_trans k1.next (hG g hg)
     ·subst hg
      rcases hXo with h | h
      ·exact hfr _ (by simp [h])
      ·exact Nat.le_trans j1.next h
    refine ⟨[v'], _, s4, (G2 ++ G) ++ (some X).toList, TL K (G2 ++ G) (l2 ++ [(sM m t' c').1]) (some X) v', inferInstance, rfl, by simp [au, hT4.one], hrun, hf4.mono (by intro g hg; simp at hg ⊢; simp [hg]), TL.stb, hT4, fun g hg => ⟨hT4.blk (hf4.wf j2) g hg, ?_⟩, ?_⟩
    ·simp only [List.mem_append, Option.mem_toList, Option.some.injEq] at hg ⊢
     rcases hg with (hg | hg) | hg
     ·exact .inl (.inl (.inl hg))
     ·exact .inl (.inr hg)
     ·subst hg
      rcases hXo with h | h
      ·exact .inl (.inl (.inr h))
      ·exact .inr h
    refine br (r := ((i + 1 : Nat) : Int)) rfl rfl (wI (by omega)) rfl ?_
    refine fx rfl TL.stb ⟨args.length - (i + 1), by omega, i + 1, (sM m t' c').2, l2 ++ [(sM m t' c').1], some X, v', G2 ++ G, by omega, rfl, rfl, rfl, rfl, rfl, hT4.one, by simp [hl2], hfrX, ?_, ?_⟩
    ·rw [hs1, List.append_assoc]; rfl
    ·exact hs2
   ·have : i = args.length := by omega
    subst this
    rw [List.drop_length] at hs1 hs2
    simp only [mN, List.append_nil] at hs1 hs2
    refine ak fun s1 h1 h2 h3 h4 => ⟨_, _, rfl, .str name, out2, G2 ++ o2.toList, rfl, ?_, hfr, ?_, h1⟩
    ·rw [hsp, hs1]
     exact TL.ty h3 h2 hb hbl (by omega)
    ·rw [hsp, hs2]; exact h4.1
  refine aN fun b1 hb1 hd1 => ?_
  refine aN fun b2 hb2 hd2 => ?_
  refine gp rfl rfl rfl ?_
  refine aP rfl (fun c2 => ?_) (fun c2 => ?_)
  ·have hsp : sM m (.mk name args) c = (.mk [73, 110, 116] [], c) := by simp only [sM]; rw [if_pos (by omega)]
   refine ak fun s1 h1 h2 h3 h4 => ⟨_, _, rfl, .str [73, 110, 116], .nilslice, [], rfl, ?_, by simp, ?_, h1⟩
   ·rw [hsp]
    refine MT.of ?_
    simp only [ff]
    exact ⟨trivial, Ua (by omega) (by omega) (by omega), by simp, [], .nil, by simp only [ea]⟩
   ·rw [hsp]; exact h4.1
  ·refine aj (.bool (CN name)) (fun _ _ a _ _ => CM hb hbl ho.2 a) rfl rfl ?_
   refine aB rfl (fun c3 => ?_) (fun c3 => ?_)
   ·refine ej (fun j vs bs => ∃ i, i ≤ m.length ∧ j = m.length - i ∧ vs = [mv, .int .i64 ((i : Nat) : Int), .int .i64 ((c : Nat) : Int), .str name, rw, .str [], .nilslice] ∧ bs = [fc, b1, b2] ∧ fI name (m.drop i) = fI name m) m.length ⟨0, by omega, rfl, rfl, rfl, by simp⟩ ?_
    rintro j _ _ ⟨i, hi, rfl, rfl, rfl, hf⟩
    refine bT rfl (fun s1 _ _ => hB.len s1) rfl ?_
    refine cP rfl rfl rfl ?_
    refine aP rfl (fun c4 => ?_) (fun c4 => ?_)
    ·obtain ⟨⟨y, t'⟩, hy, hd⟩ := bM (show i < m.length by omega)
     rw [CK hy] at hf
     obtain ⟨p, nm1, rw1, hp, hld, hyb, hyl, hR1⟩ := hB.at hy
     have ho1 := hR1.one
     refine ao (.ptr p) rfl (fun _ _ _ _ _ => hp) rfl ?_
     refine ao (.ptr p) rfl (fun _ _ _ _ _ => FZ p) rfl ?_
     refine ao (.str y) rfl (fun a b _ _ _ => fo (p := p) (i := 0) (hld a (hkf a b)) rfl CF) rfl ?_
     refine gi rfl rfl hyb hb rfl ?_
     refine aP rfl (fun c5 => ?_) (fun c5 => ?_)
     ·subst c5
      rw [if_pos rfl] at hf
      have hsp : sM m (.mk y args) c = (t', c + um t' 2000) := by simp only [sM]; rw [if_neg (by omega), if_pos c3, ← hf]
      rw [hsp] at hcl
      simp only at hcl
      refine ao (.ptr p) rfl (fun _ _ _ _ _ => hp) rfl ?_
      refine ao (.ptr (dZ p 1)) rfl (fun _ _ _ _ _ => FY p) rfl ?_
      refine h_askN [nm1, rw1] (.agg [nm1, rw1]) rfl (by simp [au, ho1.1, ho1.2]) (fun a b _ _ _ => oh (hld a (hkf a b))) rfl ?_
      refine aj (.int .i64 ((um t' 2000 : Nat) : Int)) (fun c d e _ _ => PY (fun a b hf hk => hK [] a b (by simp) hf hk) (cq t') t' 2000 nm1 rw1 c (Nat.le_refl _) hR1 (by omega) e (hkf c d)) rfl rfl ?_
      refine br (r := ((c + um t' 2000 : Nat) : Int)) rfl rfl (by rw [show ((c : Nat) : Int) + ((um t' 2000 : Nat) : Int) = ((c + um t' 2000 : Nat) : Int) by omega]; exact aY _ ⟨by omega, by omega⟩) rfl ?_
      refine ao (.ptr p) rfl (fun _ _ _ _ _ => hp) rfl ?_
      refine ao (.ptr (dZ p 1)) rfl (fun _ _ _ _ _ => FY p) rfl ?_
      refine h_askN [nm1, rw1] (.agg [nm1, rw1]) rfl (by simp [au, ho1.1, ho1.2]) (fun a b _ _ _ => oh (hld a (hkf a b))) rfl ?_
      refine ak fun s1 h1 h2 h3 h4 => ⟨_, _, rfl, nm1, rw1, [], rfl, ?_, by simp, ?_, h1⟩
      ·rw [hsp]; exact MT.of hR1
      ·rw [hsp]; exact h4.1
     ·rw [if_neg (fun h => c5 h.symm)] at hf
      refine br (r := ((i + 1 : Nat) : Int)) rfl rfl (wI (by omega)) rfl ?_
      exact eJ (m.length - (i + 1)) rfl (by omega) ⟨i + 1, by omega, rfl, rfl, rfl, hf⟩
    ·have : i = m.length := by omega
     subst this
     rw [List.drop_length] at hf
     exact aK (key b1 b2 _ (by omega) (by rw [if_pos c3, ← hf]; rfl))
   ·exact aK (key b1 b2 _ (by omega) (by rw [c3]; rfl))
end
end Go.AI.Lx
