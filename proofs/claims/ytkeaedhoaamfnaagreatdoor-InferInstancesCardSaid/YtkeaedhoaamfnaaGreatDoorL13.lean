/- What the functions answer in the evaluator: part 13. No conditions beyond those of the row. -/
import Derived.Test.YtkeaedhoaamfnaaGreatDoorL12
set_option linter.unusedVariables false
set_option linter.unusedSimpArgs false
noncomputable section
namespace Go.AI.Lx
open Go.Proofs Go.Proofs.YtkeaedhoaamfnaaGreatDoor
set_option maxRecDepth 10000
theorem mf {x : List Nat} {g : Ty → Ty} : ∀ {m : List (List Nat × Ty)}, bX x (m.map fun p => (p.1, g p.2)) = (bX x m).map g
 | [] => rfl
 | (k, t) :: r => by
  simp only [List.map_cons, bX]
  split
  ·rfl
  ·exact mf
theorem pY (m : List (List Nat × Ty)) : ∀ (l : List Ty), (dj m l).length = l.length
 | [] => rfl
 | t :: r => by simp only [dj, List.length_cons, pY m r]
mutual
theorem Qe {vs : List (List Nat)} : ∀ (t u : Ty) (m m' : List (List Nat × Ty)), uT vs t u m = some m' → ∀ x y, bX x m = some y → bX x m' = some y
 | .mk a l, u, m, m', h, x, y, hx => by
  simp only [uT] at h
  split at h
  ·split at h
   ·split at h
    ·cases h; exact hx
    ·cases h
   ·cases h; rw [rz, hx]
  ·obtain ⟨b, q⟩ := u
   simp only at h
   split at h
   ·exact Aq l q m m' h x y hx
   ·cases h
theorem Aq {vs : List (List Nat)} : ∀ (l q : List Ty) (m m' : List (List Nat × Ty)), lj vs l q m = some m' → ∀ x y, bX x m = some y → bX x m' = some y
 | [], q, m, m', h, x, y, hx => by simp only [lj] at h; cases h; exact hx
 | t :: r, [], m, m', h, x, y, hx => by simp only [lj] at h; cases h; exact hx
 | t :: r, u :: q, m, m', h, x, y, hx => by
  simp only [lj] at h
  split at h
  ·rename_i m2 h2
   exact Aq r q m2 m' h x y (Qe t u m m2 h2 x y hx)
  ·cases h
end
theorem nU {a : List Nat} {l : List Ty} (hf : nu (.mk a l) = true) (hk : aK a = 4) : l = [] := by
 simp only [nu, Bool.and_eq_true] at hf
 exact List.eq_nil_of_length_eq_zero ((uS hf.2).2 hk)
theorem jv {a : List Nat} {l : List Ty} (hf : nu (.mk a l) = true) : eX l = true := by
 simp only [nu, Bool.and_eq_true] at hf; exact hf.1
theorem fP {m : List (List Nat × Ty)} {a : List Nat} {y : Ty} (h : bX a m = some y) : fO m (.mk a []) = y := by
 simp only [fO, List.length_nil, if_true, h]
theorem iD {m : List (List Nat × Ty)} {a : List Nat} {l : List Ty} (h : bX a m = none) : fO m (.mk a l) = .mk a (dj m l) := by
 simp only [fO, h, ite_self]
theorem BX {m : List (List Nat × Ty)} {a : List Nat} {l : List Ty} (h : l.length ≠ 0) : fO m (.mk a l) = .mk a (dj m l) := by
 simp only [fO, if_neg h]
mutual
theorem OY {vs : List (List Nat)} (hk : ∀ v ∈ vs, aK v = 4) {M : List (List Nat × Ty)} (hM : ∀ x, x ∉ vs → bX x M = none) : ∀ (t u : Ty) (m m' : List (List Nat × Ty)), uT vs t u m = some m' → nu t = true → (∀ x y, bX x m' = some y → bX x M = some y) → fO M t = u
 | .mk a l, u, m, m', h, hf, he => by
  simp only [uT] at h
  split at h
  ·rename_i hin
   have hnil := nU hf (hk a hin)
   subst hnil
   split at h
   ·rename_i x hx
    split at h
    ·rename_i hs
     cases h
     have := (nY _ _).1 hs
     subst this
     exact fP (he _ _ hx)
    ·cases h
   ·rename_i hx
    cases h
    exact fP (he _ _ (by rw [rz, hx]; simp [bX]))
  ·rename_i hin
   obtain ⟨b, q⟩ := u
   simp only at h
   split at h
   ·rename_i hh
    rw [iD (hM a hin), Ln hk hM l q m m' h (jv hf) he hh.2, hh.1]
   ·cases h
theorem Ln {vs : List (List Nat)} (hk : ∀ v ∈ vs, aK v = 4) {M : List (List Nat × Ty)} (hM : ∀ x, x ∉ vs → bX x M = none) : ∀ (l q : List Ty) (m m' : List (List Nat × Ty)), lj vs l q m = some m' → eX l = true → (∀ x y, bX x m' = some y → bX x M = some y) → l.length = q.length → dj M l = q
 | [], [], m, m', h, hf, he, hl => by simp only [dj]
 | [], _ :: _, m, m', h, hf, he, hl => by simp at hl
 | t :: r, [], m, m', h, hf, he, hl => by simp at hl
 | t :: r, u :: q, m, m', h, hf, he, hl => by
  simp only [eX, Bool.and_eq_true] at hf
  simp only [lj] at h
  split at h
  ·rename_i m2 h2
   simp only [dj]
   rw [OY hk hM t u m m2 h2 hf.1 (fun x y hx => he x y (Aq r q m2 m' h x y hx)), Ln hk hM r q m2 m' h hf.2 he (by simpa using hl)]
  ·cases h
end
mutual
theorem Pa {vs : List (List Nat)} (hk : ∀ v ∈ vs, aK v = 4) {M : List (List Nat × Ty)} (hM : ∀ x, x ∉ vs → bX x M = none) (hS : ∀ x ∈ vs, ∃ y, bX x M = some y) : ∀ (t : Ty) (m : List (List Nat × Ty)), nu t = true → (∀ x y, bX x m = some y → bX x M = some y) → ∃ m', uT vs t (fO M t) m = some m' ∧ ∀ x y, bX x m' = some y → bX x M = some y
 | .mk a l, m, hf, he => by
  by_cases hin : a ∈ vs
  ·have hnil := nU hf (hk a hin)
   subst hnil
   obtain ⟨y, hy⟩ := hS a hin
   rw [fP hy]
   simp only [uT, if_pos hin]
   cases hx : bX a m with
   | some x =>
    have := he _ _ hx
    rw [hy] at this; cases this
    exact ⟨m, by simp [pg], he⟩
   | none =>
    refine ⟨m ++ [(a, y)], rfl, fun x z hz => ?_⟩
    rw [rz] at hz
    split at hz
    ·rename_i w hw; cases hz; exact he _ _ hw
    ·simp only [bX] at hz
     split at hz
     ·rename_i hxa; cases hz; rw [hxa]; exact hy
     ·cases hz
  ·rw [iD (hM a hin)]
   obtain ⟨m', h1, h2⟩ := Lq hk hM hS l m (jv hf) he
   refine ⟨m', ?_, h2⟩
   simp only [uT, if_neg hin, pY, and_self, if_true]
   exact h1
theorem Lq {vs : List (List Nat)} (hk : ∀ v ∈ vs, aK v = 4) {M : List (List Nat × Ty)} (hM : ∀ x, x ∉ vs → bX x M = none) (hS : ∀ x ∈ vs, ∃ y, bX x M = some y) : ∀ (l : List Ty) (m : List (List Nat × Ty)), eX l = true → (∀ x y, bX x m = some y → bX x M = some y) → ∃ m', lj vs l (dj M l) m = some m' ∧ ∀ x y, bX x m' = some y → bX x M = some y
 | [], m, hf, he => ⟨m, by simp only [lj], he⟩
 | t :: r, m, hf, he => by
  simp only [eX, Bool.and_eq_true] at hf
  obtain ⟨m1, h1, h2⟩ := Pa hk hM hS t m hf.1 he
  obtain ⟨m2, h3, h4⟩ := Lq hk hM hS r m1 hf.2 h2
  exact ⟨m2, by simp only [dj, lj, h1, h3], h4⟩
end
mutual
theorem KA {m : List (List Nat × Ty)} (h : ∀ x y, bX x m = some y → y = .mk x []) : ∀ (t : Ty), fO m t = t
 | .mk a l => by
  simp only [fO]
  cases hl : (if l.length = 0 then bX a m else none) with
  | some x =>
   split at hl
   ·rename_i h0
    have := List.eq_nil_of_length_eq_zero h0
    subst this
    exact h a x hl
   ·cases hl
  | none => simp only [Ky h l]
theorem Ky {m : List (List Nat × Ty)} (h : ∀ x y, bX x m = some y → y = .mk x []) : ∀ (l : List Ty), dj m l = l
 | [] => by simp only [dj]
 | t :: r => by simp only [dj, KA h t, Ky h r]
end
mutual
def xH (P : List Nat → Prop) : Ty → Prop
 | .mk a l => (aK a = 4 → P a) ∧ jB P l
def jB (P : List Nat → Prop) : List Ty → Prop
 | [] => True
 | t :: r => xH P t ∧ jB P r
end
mutual
theorem Ec {P : List Nat → Prop} : ∀ (t : Ty) (acc : List (List Nat)), (∀ x ∈ er t acc, P x) → xH P t
 | .mk a l, acc, h => by
  simp only [er] at h
  simp only [xH]
  refine ⟨fun hk => ?_, GN l _ h⟩
  refine h a (pN l _ a ?_)
  split
  ·simp
  ·rename_i hh
   by_cases ha : a ∈ acc
   ·exact ha
   ·exact absurd ⟨hk, ha⟩ hh
theorem GN {P : List Nat → Prop} : ∀ (l : List Ty) (acc : List (List Nat)), (∀ x ∈ fL l acc, P x) → jB P l
 | [], acc, h => by simp only [jB]
 | t :: r, acc, h => by
  simp only [fL] at h
  simp only [jB]
  exact ⟨Ec t acc fun x hx => h x (pN r _ x hx), GN r _ h⟩
end
mutual
theorem tB {P Q : List Nat → Prop} (h : ∀ x, P x → Q x) : ∀ (t : Ty), xH P t → xH Q t
 | .mk a l, hp => by
  simp only [xH] at hp ⊢
  exact ⟨fun hk => h a (hp.1 hk), BB h l hp.2⟩
theorem BB {P Q : List Nat → Prop} (h : ∀ x, P x → Q x) : ∀ (l : List Ty), jB P l → jB Q l
 | [], hp => by simp only [jB]
 | t :: r, hp => by
  simp only [jB] at hp ⊢
  exact ⟨tB h t hp.1, BB h r hp.2⟩
end
mutual
theorem GO : ∀ (t : Ty) (acc : List (List Nat)) (P : List Nat → Prop), xH P t → (∀ x ∈ acc, P x) → ∀ x ∈ er t acc, P x
 | .mk a l, acc, P, hv, ha => by
  simp only [xH] at hv
  simp only [er]
  refine BA l _ P hv.2 ?_
  split
  ·rename_i hh
   intro y hy
   rcases List.mem_append.1 hy with hy | hy
   ·exact ha y hy
   ·simp at hy; subst hy; exact hv.1 hh.1
  ·exact ha
theorem BA : ∀ (l : List Ty) (acc : List (List Nat)) (P : List Nat → Prop), jB P l → (∀ x ∈ acc, P x) → ∀ x ∈ fL l acc, P x
 | [], acc, P, hv, ha => by simpa only [fL] using ha
 | t :: r, acc, P, hv, ha => by
  simp only [jB] at hv
  simp only [fL]
  exact BA r _ P hv.2 (GO t acc P hv.1 ha)
end
theorem lc (t : Ty) : xH (· ∈ er t []) t := Ec t [] fun _ h => h
def Kd (m : List (List Nat × Ty)) : Prop := ∀ x, aK x ≠ 4 → bX x m = none
mutual
theorem Ha {m n : List (List Nat × Ty)} (hm : Kd m) (hn : Kd n) : ∀ (t : Ty), nu t = true → xH (fun x => ∃ y, bX x m = some y) t → fO n (fO m t) = fO (m.map fun p => (p.1, fO n p.2)) t
 | .mk a l, hf, hv => by
  simp only [xH] at hv
  by_cases hk : aK a = 4
  ·have := nU hf hk
   subst this
   obtain ⟨y, hy⟩ := hv.1 hk
   rw [fP hy, fP (y := fO n y) (by rw [mf, hy]; rfl)]
  ·rw [iD (hm a hk), iD (hn a hk), iD (by rw [mf, hm a hk]; rfl), GX hm hn l (jv hf) hv.2]
theorem GX {m n : List (List Nat × Ty)} (hm : Kd m) (hn : Kd n) : ∀ (l : List Ty), eX l = true → jB (fun x => ∃ y, bX x m = some y) l → dj n (dj m l) = dj (m.map fun p => (p.1, fO n p.2)) l
 | [], hf, hv => by simp only [dj]
 | t :: r, hf, hv => by
  simp only [eX, Bool.and_eq_true] at hf
  simp only [jB] at hv
  simp only [dj, Ha hm hn t hf.1 hv.1, GX hm hn r hf.2 hv.2]
end
mutual
theorem EL {p q : List (List Nat × Ty)} (hp : Kd p) (hq : Kd q) : ∀ (t : Ty), xH (fun x => bX x p = bX x q) t → fO p t = fO q t
 | .mk a l, hv => by
  simp only [xH] at hv
  have hl : bX a p = bX a q := by
   by_cases hk : aK a = 4
   ·exact hv.1 hk
   ·rw [hp a hk, hq a hk]
  simp only [fO, hl, GZ hp hq l hv.2]
theorem GZ {p q : List (List Nat × Ty)} (hp : Kd p) (hq : Kd q) : ∀ (l : List Ty), jB (fun x => bX x p = bX x q) l → dj p l = dj q l
 | [], hv => by simp only [dj]
 | t :: r, hv => by
  simp only [jB] at hv
  simp only [dj, EL hp hq t hv.1, GZ hp hq r hv.2]
end
mutual
theorem KC {p : List (List Nat × Ty)} : ∀ (t : Ty), nu t = true → fO p t = t → xH (fun x => ∀ y, bX x p = some y → y = .mk x []) t
 | .mk a l, hf, h => by
  simp only [xH]
  refine ⟨fun hk y hy => ?_, ?_⟩
  ·have := nU hf hk
   subst this
   rw [fP hy] at h; exact h
  ·by_cases h0 : l.length = 0
   ·have := List.eq_nil_of_length_eq_zero h0
    subst this; simp only [jB]
   ·rw [BX h0] at h
    simp only [Ty.mk.injEq, true_and] at h
    exact GY l (jv hf) h
theorem GY {p : List (List Nat × Ty)} : ∀ (l : List Ty), eX l = true → dj p l = l → jB (fun x => ∀ y, bX x p = some y → y = .mk x []) l
 | [], hf, h => by simp only [jB]
 | t :: r, hf, h => by
  simp only [eX, Bool.and_eq_true] at hf
  simp only [dj, List.cons.injEq] at h
  simp only [jB]
  exact ⟨KC t hf.1 h.1, GY r hf.2 h.2⟩
end
structure Pw (m : List (List Nat × Ty)) (f : List Nat → List Nat) (P : List Nat → Prop) : Prop where
 kd : Kd m
 at_ : ∀ x, P x → bX x m = some (.mk (f x) [])
 k4 : ∀ x, P x → aK (f x) = 4
 inj : ∀ x y, P x → P y → f x = f y → x = y
theorem Ff {x : List Nat} (h : aK x = 4) : ek x 0 = true := by
 have h1 : x ≠ [45, 62] := fun e => by rw [e, pu] at h; cases h
 have h2 : x ≠ [44] := fun e => by rw [e, pt] at h; cases h
 have h3 : x ≠ [73, 110, 116] := fun e => by rw [e, vz] at h; cases h
 simp [ek, h1, h2, h3, h]
section
variable {m : List (List Nat × Ty)} {f : List Nat → List Nat} {P : List Nat → Prop}
mutual
theorem KP (h : Pw m f P) : ∀ (t : Ty) (acc : List (List Nat)), nu t = true → xH P t → (∀ x ∈ acc, P x) → er (fO m t) (acc.map f) = (er t acc).map f ∧ ∀ x ∈ er t acc, P x
 | .mk a l, acc, hf, hv, ha => by
  simp only [xH] at hv
  by_cases hk : aK a = 4
  ·have := nU hf hk
   subst this
   have hP := hv.1 hk
   rw [fP (h.at_ a hP)]
   have hiff : f a ∈ acc.map f ↔ a ∈ acc := by
    rw [List.mem_map]
    constructor
    ·rintro ⟨y, hy, he⟩
     have := h.inj y a (ha y hy) hP he
     rwa [this] at hy
    ·intro hh; exact ⟨a, hh, rfl⟩
   simp only [er, fL, h.k4 a hP, hk, true_and]
   by_cases hm : a ∈ acc
   ·rw [if_neg (fun hh => hh (hiff.2 hm)), if_neg (fun hh => hh hm)]
    exact ⟨rfl, ha⟩
   ·rw [if_pos (fun hh => hm (hiff.1 hh)), if_pos hm]
    refine ⟨by rw [List.map_append]; rfl, fun x hx => ?_⟩
    rcases List.mem_append.1 hx with hx | hx
    ·exact ha x hx
    ·simp at hx; subst hx; exact hP
  ·rw [iD (h.kd a hk)]
   simp only [er, hk, false_and, if_false]
   exact KN h l acc (jv hf) hv.2 ha
theorem KN (h : Pw m f P) : ∀ (l : List Ty) (acc : List (List Nat)), eX l = true → jB P l → (∀ x ∈ acc, P x) → fL (dj m l) (acc.map f) = (fL l acc).map f ∧ ∀ x ∈ fL l acc, P x
 | [], acc, hf, hv, ha => by simp only [dj, fL]; exact ⟨trivial, ha⟩
 | t :: r, acc, hf, hv, ha => by
  simp only [eX, Bool.and_eq_true] at hf
  simp only [jB] at hv
  obtain ⟨h1, h2⟩ := KP h t acc hf.1 hv.1 ha
  simp only [dj, fL, h1]
  exact KN h r _ hf.2 hv.2 h2
end
mutual
theorem OS (h : Pw m f P) : ∀ (t : Ty), nu t = true → xH P t → cY (fO m t) = cY t ∧ dp (fO m t) = dp t ∧ nu (fO m t) = true
 | .mk a l, hf, hv => by
  simp only [xH] at hv
  by_cases hk : aK a = 4
  ·have := nU hf hk
   subst this
   have hP := hv.1 hk
   rw [fP (h.at_ a hP)]
   exact ⟨by simp only [cY], by simp only [dp], by simp only [nu, eX, List.length_nil, Ff (h.k4 a hP), Bool.and_self]⟩
  ·rw [iD (h.kd a hk)]
   obtain ⟨h1, h2, h3⟩ := KO h l (jv hf) hv.2
   simp only [nu, Bool.and_eq_true] at hf
   refine ⟨by simp only [cY, h1], by simp only [dp, h2 0], ?_⟩
   simp only [nu, pY, h3, hf.2, Bool.and_self]
theorem KO (h : Pw m f P) : ∀ (l : List Ty), eX l = true → jB P l → cR (dj m l) = cR l ∧ (∀ n, FF (dj m l) n = FF l n) ∧ eX (dj m l) = true
 | [], hf, hv => by simp only [dj]; exact ⟨trivial, fun _ => trivial, hf⟩
 | t :: r, hf, hv => by
  simp only [eX, Bool.and_eq_true] at hf
  simp only [jB] at hv
  obtain ⟨h1, h2, h3⟩ := OS h t hf.1 hv.1
  obtain ⟨h4, h5, h6⟩ := KO h r hf.2 hv.2
  refine ⟨by simp only [dj, cR, h1, h4], fun n => by simp only [dj, FF, h2, h5], by simp only [dj, eX, h3, h6, Bool.and_self]⟩
end
end
theorem PG {t u : Ty} (hv : gt t = true) (h1 : cY u = cY t) (h2 : dp u = dp t) (h3 : nu u = true) : gt u = true := by
 obtain ⟨a, b, c⟩ := bu hv
 unfold gt
 simp only [h1, h2, h3, Bool.and_eq_true, decide_eq_true_eq]
 exact ⟨⟨a, b⟩, trivial⟩
theorem Ll {α : Type} [DecidableEq α] : ∀ {l1 l2 : List α}, l1.Nodup → (∀ x ∈ l1, x ∈ l2) → l1.length ≤ l2.length
 | [], l2, _, _ => by simp
 | a :: r, l2, hn, hs => by
  rw [List.nodup_cons] at hn
  have ha := hs a (by simp)
  have := Ll (l1 := r) (l2 := l2.erase a) hn.2 fun x hx => by
   have hne : x ≠ a := fun h => by subst h; exact hn.1 hx
   exact (List.mem_erase_of_ne hne).2 (hs x (List.mem_cons_of_mem _ hx))
  rw [List.length_erase_of_mem ha] at this
  have := List.length_pos_of_mem ha
  simp only [List.length_cons]; omega
theorem RR {α : Type} [DecidableEq α] {l1 l2 : List α} (hn : l1.Nodup) (hs : ∀ x ∈ l1, x ∈ l2) (hl : l1.length = l2.length) : ∀ x ∈ l2, x ∈ l1 := fun x hx => by
 by_cases h : x ∈ l1
 ·exact h
 ·have := Ll (l1 := x :: l1) (l2 := l2) (List.nodup_cons.2 ⟨h, hn⟩) (fun y hy => by
   rcases List.mem_cons.1 hy with rfl | hy
   ·exact hx
   ·exact hs y hy)
  simp only [List.length_cons] at this; omega
theorem GW {l : List (List Nat)} : ∀ {vs seen : List (List Nat)}, vs.Nodup → (∀ v ∈ vs, v ∉ seen) → (∀ v ∈ vs, v ∈ l) → rk l seen vs = true
 | [], _, _, _, _ => rfl
 | a :: r, seen, hn, hs, hl => by
  rw [List.nodup_cons] at hn
  simp only [rk, Bool.and_eq_true, decide_eq_true_eq]
  refine ⟨⟨hs a (by simp), hl a (by simp)⟩, GW hn.2 (fun v hv hm => ?_) fun v hv => hl v (List.mem_cons_of_mem _ hv)⟩
  rcases List.mem_append.1 hm with hm | hm
  ·exact hs v (List.mem_cons_of_mem _ hv) hm
  ·simp at hm; subst hm; exact hn.1 hv
theorem Ks {vs : List (List Nat)} {t : Ty} (h : gv vs t = true) : vs.Nodup := by
 unfold gv at h
 simp only [Bool.and_eq_true] at h
 exact (zP h.2).1
theorem eS {vs : List (List Nat)} {t : Ty} (h : fq vs t = true) : gv vs t = true ∧ vs.length = (er t []).length ∧ ∀ x, x ∈ er t [] ↔ x ∈ vs := by
 unfold fq at h
 simp only [Bool.and_eq_true, decide_eq_true_eq] at h
 obtain ⟨h1, h2, h3, h4⟩ := fA h.1
 exact ⟨h.1, h.2, fun x => ⟨RR (Ks h.1) h3 h.2 x, h3 x⟩⟩
structure xD (vs : List (List Nat)) (t u : Ty) (M : List (List Nat × Ty)) : Prop where
 sch : gv vs t = true
 vu : gt u = true
 yes : ∀ x ∈ vs, ∃ y, bX x M = some y
 no : ∀ x, x ∉ vs → bX x M = none
 eq : fO M t = u
theorem xD.kd {vs : List (List Nat)} {t u : Ty} {M : List (List Nat × Ty)} (h : xD vs t u M) : Kd M := fun x hx => h.no x fun hm => hx ((fA h.sch).2.2.2 x hm)
theorem ym {vs : List (List Nat)} {t u : Ty} {m : List (List Nat × Ty)} (h : wD vs t u = some m) : xD vs t u m := by
 have hh : gv vs t = true ∧ gt u = true := by
  unfold wD at h; split at h
  ·assumption
  ·cases h
 obtain ⟨h1, h2, h3, h4, h5⟩ := Fg h
 obtain ⟨p1, p2, p3, p4⟩ := fA hh.1
 unfold wD at h
 rw [if_pos hh] at h
 have hno : ∀ x, x ∉ vs → bX x m = none := fun x hx => eV.2 fun hm => hx (h4 x hm)
 exact ⟨hh.1, hh.2, fun x hx => od (h3 x hx), hno, OY p4 hno t u [] m h (bu p1).2.2 fun _ _ h => h⟩
theorem HD {vs : List (List Nat)} {t u : Ty} {M : List (List Nat × Ty)} (h : xD vs t u M) : (wD vs t u).isSome = true := by
 obtain ⟨p1, p2, p3, p4⟩ := fA h.sch
 obtain ⟨m', h1, h2⟩ := Pa p4 h.no h.yes t [] (bu p1).2.2 (fun x y hx => by cases hx)
 rw [h.eq] at h1
 unfold wD
 rw [if_pos ⟨h.sch, h.vu⟩, h1]; rfl
theorem Lw (vs : List (List Nat)) (x : List Nat) : bX x (vs.map fun x => (x, Ty.mk x [])) = if x ∈ vs then some (.mk x []) else none := by
 induction vs with
 | nil => rfl
 | cons a r ih =>
  simp only [List.map_cons, bX, List.mem_cons]
  by_cases h : x = a
  ·subst h; simp
  ·rw [if_neg h, ih]; simp [h]
theorem CW (vs : List (List Nat)) (t : Ty) : fG vs t vs t = fq vs t := by
 unfold fG
 cases h : fq vs t with
 | false => rfl
 | true =>
  have hs := (eS h).1
  rw [HD (M := vs.map fun x => (x, Ty.mk x [])) ⟨hs, gE hs, fun x hx => ⟨_, by rw [Lw, if_pos hx]⟩, fun x hx => by rw [Lw, if_neg hx], KA (fun x y hy => by
   rw [Lw] at hy
   split at hy
   ·cases hy; rfl
   ·cases hy) t⟩]
  rfl
theorem ju {va vb : List (List Nat)} {ta tb : Ty} (h : fG va ta vb tb = true) : fq va ta = true ∧ fq vb tb = true ∧ ∃ M, xD va ta tb M := by
 unfold fG at h
 simp only [Bool.and_eq_true] at h
 obtain ⟨m, hm⟩ := Option.isSome_iff_exists.1 h.2
 exact ⟨h.1.1, h.1.2, m, ym hm⟩
theorem Fu {va vb : List (List Nat)} {ta tb : Ty} {M : List (List Nat × Ty)} (ha : fq va ta = true) (hb : fq vb tb = true) (h : xD va ta tb M) : fG va ta vb tb = true := by
 unfold fG; rw [ha, hb, HD h]; rfl
theorem GP {vs : List (List Nat)} {t u : Ty} {M : List (List Nat × Ty)} (hc : fq vs t = true) (h : xD vs t u M) : xH (fun x => ∃ y, bX x M = some y) t :=
 tB (fun x hx => h.yes x (((eS hc).2.2 x).1 hx)) t (lc t)
theorem yn {va vb : List (List Nat)} {ta tb tc : Ty} {M N : List (List Nat × Ty)} (hc : fq va ta = true) (h : xD va ta tb M) (h' : xD vb tb tc N) : xD va ta tc (M.map fun p => (p.1, fO N p.2)) :=
 ⟨h.sch, h'.vu, fun x hx => by obtain ⟨y, hy⟩ := h.yes x hx; exact ⟨_, by rw [mf, hy]; rfl⟩, fun x hx => by rw [mf, h.no x hx]; rfl, by
  rw [← Ha h.kd h'.kd ta (bu (gE h.sch)).2.2 (GP hc h), h.eq, h'.eq]⟩
theorem IZ {va vb vc : List (List Nat)} {ta tb tc : Ty} (h : fG va ta vb tb = true) (h' : fG vb tb vc tc = true) : fG va ta vc tc = true := by
 obtain ⟨a1, a2, M, a3⟩ := ju h
 obtain ⟨b1, b2, N, b3⟩ := ju h'
 exact Fu a1 b2 (yn a1 a3 b3)
theorem Rm : ∀ a, a < 100 → ∀ b, b < 100 → dg a = dg b → a = b := by decide +kernel
theorem Li (k : Nat) : qm k = [39, 97 + k % 26] ++ dg (k / 26) := by
 unfold qm
 by_cases h : 26 ≤ k
 ·rw [if_pos h]
 ·rw [if_neg h, Nat.div_eq_of_lt (by omega)]; rfl
theorem NL {i j : Nat} (hi : i < 2600) (hj : j < 2600) (h : qm i = qm j) : i = j := by
 rw [Li, Li] at h
 simp only [List.cons_append, List.nil_append, List.cons.injEq, true_and] at h
 have h2 := Rm (i / 26) (by omega) (j / 26) (by omega) h.2
 omega
theorem KS {x : List Nat} {t : Ty} : ∀ {l : List (List Nat)} {k : Nat}, bX x (oE l k) = some t → ∃ i, l[i]? = some x ∧ t = .mk (qm (k + i)) []
 | [], k, h => by cases h
 | y :: r, k, h => by
  simp only [oE, bX] at h
  split at h
  ·rename_i he
   cases h; exact ⟨0, by rw [he]; rfl, rfl⟩
  ·obtain ⟨i, h1, h2⟩ := KS h
   exact ⟨i + 1, by simpa using h1, by rw [h2, show k + 1 + i = k + (i + 1) by omega]⟩
theorem Qd {α : Type} {l : List α} (hn : l.Nodup) {i j : Nat} {x : α} (hi : l[i]? = some x) (hj : l[j]? = some x) : i = j := by
 obtain ⟨h1, h2⟩ := List.getElem?_eq_some_iff.1 hi
 obtain ⟨h3, h4⟩ := List.getElem?_eq_some_iff.1 hj
 have hp := List.pairwise_iff_getElem.1 (List.nodup_iff_pairwise_ne.1 hn)
 rcases Nat.lt_trichotomy i j with h | h | h
 ·exact absurd (h2.trans h4.symm) (hp i j h1 h3 h)
 ·exact h
 ·exact absurd (h4.trans h2.symm) (hp j i h3 h1 h)
theorem tD {l : List (List Nat)} (hn : l.Nodup) {i k : Nat} {x : List Nat} (hx : l[i]? = some x) : bX x (oE l k) = some (.mk (qm (k + i)) []) := by
 cases h : bX x (oE l k) with
 | none =>
  rw [eV, ng] at h
  exact absurd (List.mem_of_getElem? hx) h
 | some t =>
  obtain ⟨j, h1, rfl⟩ := KS h
  rw [Qd hn h1 hx]
theorem Ht : ∀ {n i : Nat}, i < n → (DU n)[i]? = some (qm i)
 | n + 1, i, h => by
  simp only [DU]
  by_cases hi : i < n
  ·rw [List.getElem?_append_left (by rw [mc]; exact hi)]
   exact Ht hi
  ·have : i = n := by omega
   subst this
   rw [List.getElem?_append_right (by rw [mc]; omega), mc, Nat.sub_self]; rfl
def RN (l : List (List Nat)) (x : List Nat) : List Nat := match bX x (oE l 0) with
 | some (.mk n _) => n
 | none => x
theorem uI {l : List (List Nat)} (hn : l.Nodup) {i : Nat} {x : List Nat} (hx : l[i]? = some x) : RN l x = qm i := by
 unfold RN; rw [tD hn hx, Nat.zero_add]
theorem NE {l : List (List Nat)} (hn : l.Nodup) : l.map (RN l) = DU l.length := by
 apply List.ext_getElem?
 intro i
 rw [List.getElem?_map]
 by_cases hi : i < l.length
 ·rw [Ht hi, List.getElem?_eq_getElem hi]
  show some (RN l l[i]) = _
  rw [uI hn (List.getElem?_eq_getElem hi)]
 ·rw [List.getElem?_eq_none (by omega), List.getElem?_eq_none (by rw [mc]; omega)]; rfl
theorem PR {l : List (List Nat)} (hn : l.Nodup) (hl : l.length ≤ 2000) (hk : ∀ x ∈ l, aK x = 4) : Pw (oE l 0) (RN l) (· ∈ l) := by
 refine ⟨fun x hx => eV.2 fun hm => by rw [ng] at hm; exact hx (hk x hm), fun x hx => ?_, fun x hx => ?_, fun x y hx hy he => ?_⟩
 ·obtain ⟨i, hi, he⟩ := List.mem_iff_getElem.1 hx
  have hx' : l[i]? = some x := by rw [List.getElem?_eq_getElem hi, he]
  rw [tD hn hx', uI hn hx', Nat.zero_add]
 ·obtain ⟨i, hi, he⟩ := List.mem_iff_getElem.1 hx
  rw [uI hn (i := i) (by rw [List.getElem?_eq_getElem hi, he])]
  exact CG i (by omega)
 ·obtain ⟨i, hi, hei⟩ := List.mem_iff_getElem.1 hx
  obtain ⟨j, hj, hej⟩ := List.mem_iff_getElem.1 hy
  have hx' : l[i]? = some x := by rw [List.getElem?_eq_getElem hi, hei]
  have hy' : l[j]? = some y := by rw [List.getElem?_eq_getElem hj, hej]
  rw [uI hn hx', uI hn hy'] at he
  have := NL (by omega) (by omega) he
  subst this
  rw [hx'] at hy'; exact Option.some.inj hy'
theorem ND {m : List (List Nat × Ty)} {f : List Nat → List Nat} {vs us : List (List Nat)} {t : Ty} (hc : fq vs t = true) (h : Pw m f (· ∈ er t [])) (hu : us = (er t []).map f) : fq us (fO m t) = true ∧ er (fO m t) [] = us := by
 obtain ⟨c1, c2, c3⟩ := eS hc
 have hv := gE c1
 obtain ⟨p1, p2, p3⟩ := bu hv
 obtain ⟨r1, r2, r3⟩ := OS h t p3 (lc t)
 have hvu := PG hv r1 r2 r3
 have hvs := (KP h t [] p3 (lc t) (by simp)).1
 simp only [List.map_nil] at hvs
 rw [← hu] at hvs
 have hl := ki t []
 simp only [List.length_nil] at hl
 have hvT : RA (fO m t) = us := by unfold RA; rw [if_pos hvu]; exact hvs
 refine ⟨?_, hvs⟩
 unfold fq gv
 simp only [hvu, hvT, hvs, Bool.true_and, Bool.and_eq_true, decide_eq_true_eq]
 refine ⟨⟨?_, GW ?_ (by simp) fun _ h => h⟩, trivial⟩
 ·rw [hu, List.length_map]; omega
 ·rw [← hvs]; exact ra _ [] (by simp)
theorem Lv {f : List Nat → List Nat} {P : List Nat → Prop} (hinj : ∀ x y, P x → P y → f x = f y → x = y) : ∀ {l : List (List Nat)}, (∀ x ∈ l, P x) → ∀ x ∈ l, bX (f x) (l.map fun x => (f x, Ty.mk x [])) = some (.mk x [])
 | [], _, x, h => by cases h
 | a :: r, hp, x, h => by
  simp only [List.map_cons, bX]
  by_cases he : f x = f a
  ·rw [if_pos he]
   have := hinj x a (hp x h) (hp a (by simp)) he
   subst this; rfl
  ·rw [if_neg he]
   rcases List.mem_cons.1 h with rfl | h
   ·exact absurd rfl he
   ·exact Lv hinj (fun y hy => hp y (List.mem_cons_of_mem _ hy)) x h
theorem QB {m : List (List Nat × Ty)} {f : List Nat → List Nat} {vs us : List (List Nat)} {t : Ty} (hc : fq vs t = true) (h : Pw m f (· ∈ er t [])) (hno : ∀ x, x ∉ er t [] → bX x m = none) (hu : us = (er t []).map f) : fG vs t us (fO m t) = true ∧ fG us (fO m t) vs t = true := by
 obtain ⟨d1, d2⟩ := ND hc h hu
 obtain ⟨c1, c2, c3⟩ := eS hc
 obtain ⟨e1, e2, e3⟩ := eS d1
 have hv := gE c1
 have p3 := (bu hv).2.2
 refine ⟨Fu hc d1 ⟨c1, gE e1, fun x hx => ⟨_, h.at_ x ((c3 x).2 hx)⟩, fun x hx => hno x fun hh => hx ((c3 x).1 hh), rfl⟩, ?_⟩
 have hks : tJ ((er t []).map fun x => (f x, Ty.mk x [])) = us := by
  show ((er t []).map fun x => (f x, Ty.mk x [])).map (fun p => p.1) = us
  rw [hu, List.map_map]; rfl
 have hinv := Lv h.inj (l := er t []) fun _ h => h
 refine Fu d1 hc (M := (er t []).map fun x => (f x, Ty.mk x [])) ⟨e1, hv, fun x hx => od (by rw [hks]; exact hx), fun x hx => eV.2 (by rw [hks]; exact hx), ?_⟩
 have hkd : Kd ((er t []).map fun x => (f x, Ty.mk x [])) := fun x hx => eV.2 (by
  rw [hks, hu, List.mem_map]
  rintro ⟨y, hy, rfl⟩
  exact hx (h.k4 y hy))
 rw [Ha h.kd hkd t p3 (tB (fun x hx => ⟨_, h.at_ x hx⟩) t (lc t))]
 refine KA (fun x y hy => ?_) t
 rw [mf] at hy
 by_cases hx : x ∈ er t []
 ·rw [h.at_ x hx] at hy
  have : fO ((er t []).map fun x => (f x, Ty.mk x [])) (.mk (f x) []) = .mk x [] := fP (hinv x hx)
  simp only [Option.map_some, this] at hy
  exact (Option.some.inj hy).symm
 ·rw [hno x hx] at hy; cases hy
theorem PT {vs : List (List Nat)} {t : Ty} (hc : fq vs t = true) : fG vs t (Bq vs t) (Br vs t) = true ∧ fG (Bq vs t) (Br vs t) vs t = true := by
 obtain ⟨c1, c2, c3⟩ := eS hc
 have hv := gE c1
 have hl := ki t []
 have hsz := (bu hv).1
 simp only [List.length_nil] at hl
 have hnd := ra t [] (by simp)
 have hr := PR hnd (by omega) (jA t [] fun x hx => by cases hx)
 unfold Bq Br
 rw [if_pos hc, if_pos hc]
 exact QB hc hr (fun x hx => eV.2 (by rw [ng]; exact hx)) (NE hnd).symm
theorem LQ {va vb : List (List Nat)} {ta tb : Ty} (h : fG va ta vb tb = true) (h' : fG vb tb va ta = true) : Bq va ta = Bq vb tb ∧ Br va ta = Br vb tb := by
 obtain ⟨a1, a2, M, a3⟩ := ju h
 obtain ⟨_, _, N, b3⟩ := ju h'
 have hc := yn a1 a3 b3
 obtain ⟨c1, c2, c3⟩ := eS a1
 obtain ⟨d1, d2, d3⟩ := eS a2
 have hv := gE c1
 have p3 := (bu hv).2.2
 have hkb := (fA d1).2.2.2
 have hka := (fA c1).2.2.2
 have key : ∀ x, x ∈ er ta [] → ∃ g, bX x M = some (.mk g []) ∧ aK g = 4 ∧ fO N (.mk g []) = .mk x [] := fun x hx => by
  have hxa := (c3 x).1 hx
  obtain ⟨⟨g, l⟩, hy⟩ := a3.yes x hxa
  have hfx : fO N (.mk g l) = .mk x [] := by
   have hq : ∀ y, bX x (M.map fun p => (p.1, fO N p.2)) = some y → y = .mk x [] := by
    have hvin := KC ta p3 hc.eq
    exact GO ta [] _ hvin (by simp) x hx
   exact hq _ (by rw [mf, hy]; rfl)
  have hl0 : l.length = 0 := by
   by_cases h0 : l.length = 0
   ·exact h0
   ·rw [BX h0] at hfx
    simp only [Ty.mk.injEq] at hfx
    have := congrArg List.length hfx.2
    rw [pY] at this
    exact absurd this h0
  have := List.eq_nil_of_length_eq_zero hl0
  subst this
  refine ⟨g, hy, ?_, hfx⟩
  cases hg : bX g N with
  | some z =>
   by_cases hgb : g ∈ vb
   ·exact hkb g hgb
   ·rw [b3.no g hgb] at hg; cases hg
  | none =>
   rw [iD hg] at hfx
   simp only [Ty.mk.injEq] at hfx
   rw [hfx.1]; exact hka x hxa
 have hr : Pw M (fun x => match bX x M with | some (.mk n _) => n | none => x) (· ∈ er ta []) := by
  refine ⟨a3.kd, fun x hx => ?_, fun x hx => ?_, fun x y hx hy he => ?_⟩
  ·obtain ⟨g, h1, h2, h3⟩ := key x hx
   simp only [h1]
  ·obtain ⟨g, h1, h2, h3⟩ := key x hx
   simp only [h1]; exact h2
  ·obtain ⟨g, h1, h2, h3⟩ := key x hx
   obtain ⟨g', h1', h2', h3'⟩ := key y hy
   simp only [h1, h1'] at he
   subst he
   rw [h3] at h3'
   simp only [Ty.mk.injEq] at h3'
   exact h3'.1
 generalize (fun x => match bX x M with | some (.mk n _) => n | none => x) = f at hr
 have hvb : er tb [] = (er ta []).map f := by
  have := (KP hr ta [] p3 (lc ta) (by simp)).1
  rw [a3.eq] at this; exact this
 have hna := ra ta [] (by simp)
 have hnb := ra tb [] (by simp)
 unfold Bq Br
 rw [if_pos a1, if_pos a2, if_pos a1, if_pos a2]
 refine ⟨by rw [hvb, List.length_map], ?_⟩
 have hkdB : Kd (oE (er tb []) 0) := fun x hx => eV.2 (by rw [ng]; exact fun hm => hx (jA tb [] (fun x hx => by cases hx) x hm))
 have hkdA : Kd (oE (er ta []) 0) := fun x hx => eV.2 (by rw [ng]; exact fun hm => hx (jA ta [] (fun x hx => by cases hx) x hm))
 have he : fO (oE (er tb []) 0) tb = fO (oE (er tb []) 0) (fO M ta) := by rw [a3.eq]
 rw [he, Ha a3.kd hkdB ta p3 (GP a1 a3)]
 refine EL hkdA (fun x hx => by rw [mf, a3.kd x hx]; rfl) ta (tB (fun x hx => ?_) ta (lc ta))
 obtain ⟨i, hi, hei⟩ := List.mem_iff_getElem.1 hx
 have hx' : (er ta [])[i]? = some x := by rw [List.getElem?_eq_getElem hi, hei]
 rw [tD hna hx', mf, hr.at_ x hx]
 show _ = some (fO (oE (er tb []) 0) (.mk (f x) []))
 rw [fP (tD hnb (i := i) (x := f x) (by rw [hvb, List.getElem?_map, hx']; rfl))]
theorem Lu {vs : List (List Nat)} {m : List (List Nat × Ty)} {x : List Nat} : bX x (ji vs m) = if x ∈ vs then some ((bX x m).getD (.mk [] [])) else none := by
 unfold ji
 induction vs with
 | nil => rfl
 | cons a r ih =>
  simp only [List.map_cons, bX, List.mem_cons]
  by_cases h : x = a
  ·subst h; simp
  ·rw [if_neg h, ih]; simp [h]
theorem HV {m : List (List Nat × Ty)} (hp : rY m) : ∀ {vs seen : List (List Nat)}, vs.Nodup → (∀ v ∈ vs, aK v = 4) → (∀ v ∈ vs, v ∈ tJ m) → (∀ v ∈ vs, v ∉ seen) → MA (ji vs m) seen = true
 | [], _, _, _, _, _ => rfl
 | a :: r, seen, hn, hk, hm, hs => by
  rw [List.nodup_cons] at hn
  obtain ⟨y, hy⟩ := od (hm a (by simp))
  have ih := HV hp (vs := r) (seen := seen ++ [a]) hn.2 (fun v hv => hk v (List.mem_cons_of_mem _ hv)) (fun v hv => hm v (List.mem_cons_of_mem _ hv)) (fun v hv hh => by
   rcases List.mem_append.1 hh with hh | hh
   ·exact hs v (List.mem_cons_of_mem _ hv) hh
   ·simp at hh; subst hh; exact hn.1 hv)
  unfold ji at ih ⊢
  simp only [List.map_cons, MA, hy, Option.getD_some, hk a (by simp), hp a y hy, hs a (by simp), not_false_eq_true, decide_true, Bool.true_and]
  exact ih
theorem ME {vs : List (List Nat)} {t u : Ty} {m : List (List Nat × Ty)} (h : wD vs t u = some m) : HX (mA vs t u) t = (u, 0) := by
 have hi := ym h
 obtain ⟨h1, h2, h3, h4, h5⟩ := Fg h
 obtain ⟨p1, p2, p3, p4⟩ := fA hi.sch
 have hv := bu p1
 have hu := bu hi.vu
 have ho : mA vs t u = ji vs m := by unfold mA; rw [h]
 have hkd : Kd (ji vs m) := fun x hx => by rw [Lu, if_neg (fun hm => hx (p4 x hm))]
 have hsb : fO (ji vs m) t = u := by
  rw [← hi.eq]
  have hx : ∀ x, bX x (ji vs m) = bX x m := fun x => by
   rw [Lu]
   by_cases hx : x ∈ vs
   ·obtain ⟨y, hy⟩ := hi.yes x hx
    rw [if_pos hx, hy]; rfl
   ·rw [if_neg hx, hi.no x hx]
  exact EL hkd hi.kd t (Ec t [] fun x _ => hx x)
 have hpt := (Aj (m := ji vs m) t 0).1 (by rw [hsb]; omega)
 have hol : ¬ 2000 < (ji vs m).length := by unfold ji; rw [List.length_map]; omega
 unfold HX
 rw [ho, if_pos p1, if_neg hol, if_pos (HV h1 (Ks hi.sch) p4 h3 (by simp)), hpt, hsb, if_pos hi.vu]
end Go.AI.Lx
namespace Go.AI.Lx
open Go.Proofs Go.Proofs.YtkeaedhoaamfnaaGreatDoor
def wq : List aH := []
def vX : Code := match Tryz.f6.body with | some c => c | none => .skip
def oQ : gX := ⟨au, Tryz.f6, wq, [(7, ⟨[], false⟩), (28, ⟨[], false⟩), (21, ⟨[], false⟩), (25, ⟨[], false⟩), (23, ⟨[], false⟩), (17, ⟨[], false⟩), (19, ⟨[], false⟩)], [⟨100006, [(3, false), (4, false), (5, false), (8, false), (10, false), (55, true)], []⟩, ⟨100009, [(3, false), (4, false), (5, false), (8, false), (11, false), (79, true)], []⟩, ⟨14, [(3, false), (5, false)], []⟩, ⟨100011, [(3, false), (4, false), (5, false), (11, false), (85, true)], []⟩, ⟨100013, [(3, false), (5, false), (98, true)], []⟩], 0⟩
def jG : aB := .call 23 [.agg [0, 1, 2], .agg [4, 5]] [] [] 2 (.tuple [6, 7]) false (aT (.un .not 7) 8 (.cond 8 (rT (.bool true)) (.call 17 [6, .agg [1, 2]] [] [] 3 (.tuple [.agg [9, 10], 11]) false (.new (aT (.bin .eql 31 true 11 (iV 0)) 12 (.cond 12 (cT 19 [.agg [9, 10], .agg [4, 5]] 13 (rT 13)) (rT (.bool false))))))))
def jF : aB := .cond 0 (rT (.bool false)) (.cut 6 [1, 2, 3, 4, 5, 6] [0, 1] [cB 27 [0, 1, 2], cB 27 [3, 4, 5]] jG)
def gC : aB := .cond 0 (.call 21 [.agg [4, 5, 6]] [] [] 4 (.tuple [.agg [13, 14, 15], 16]) false (.new (aT (.bin .neq 31 true 16 (iV 0)) 17 (.cond 17 (.cut 7 [.bool true, 1, 2, 3, 7, 8, 9] [0, 2] [cB 27 [1, 2, 3], cB 27 [4, 5, 6]] jF) (cT 25 [.agg [10, 11, 12], .agg [13, 14, 15]] 18 (aT (.un .not 18) 19 (.cut 7 [19, 1, 2, 3, 7, 8, 9] [0, 2] [cB 27 [1, 2, 3], cB 27 [4, 5, 6]] jF))))))) (.cut 6 [1, 2, 3, 7, 8, 9] [0, 2] [cB 27 [0, 1, 2], cB 27 [3, 4, 5]] jG)
def ew : aB := .cond 1 (rT (.bool false)) (.cond 0 (cT 28 [.agg [5, 6, 7], .agg [2, 3, 4]] 14 (.cut 13 [14, 2, 3, 4, 5, 6, 7, 8, 9, 10, 11, 12, 13] [0, 1, 2, 3] [cB 27 [1, 2, 3], cB 27 [4, 5, 6], cB 27 [7, 8, 9], cB 27 [10, 11, 12]] gC)) (.cut 13 [.bool false, 2, 3, 4, 5, 6, 7, 8, 9, 10, 11, 12, 13] [0, 1, 2, 3] [cB 27 [1, 2, 3], cB 27 [4, 5, 6], cB 27 [7, 8, 9], cB 27 [10, 11, 12]] gC))
def ci : aB := .cond 2 (rT (.bool false)) (.call 21 [.agg [3, 4, 5]] [] [] 4 (.tuple [.agg [12, 13, 14], 15]) false (.new (aT (.bin .eql 31 true 15 (iV 0)) 16 (aT (.bin .neq 4 false 1 16) 17 (.cond 17 (.cut 14 [0, .bool true, 3, 4, 5, 6, 7, 8, 9, 10, 11, 12, 13, 14] [0, 1, 2, 3] [cB 27 [2, 3, 4], cB 27 [5, 6, 7], cB 27 [8, 9, 10], cB 27 [11, 12, 13]] ew) (.cond 1 (cT 28 [.agg [3, 4, 5], .agg [12, 13, 14]] 18 (aT (.un .not 18) 19 (.cond 19 (.cut 14 [0, .bool true, 3, 4, 5, 6, 7, 8, 9, 10, 11, 12, 13, 14] [0, 1, 2, 3] [cB 27 [2, 3, 4], cB 27 [5, 6, 7], cB 27 [8, 9, 10], cB 27 [11, 12, 13]] ew) (cT 28 [.agg [12, 13, 14], .agg [3, 4, 5]] 20 (aT (.un .not 20) 21 (.cut 14 [0, 21, 3, 4, 5, 6, 7, 8, 9, 10, 11, 12, 13, 14] [0, 1, 2, 3] [cB 27 [2, 3, 4], cB 27 [5, 6, 7], cB 27 [8, 9, 10], cB 27 [11, 12, 13]] ew)))))) (.cut 14 [0, .bool false, 3, 4, 5, 6, 7, 8, 9, 10, 11, 12, 13, 14] [0, 1, 2, 3] [cB 27 [2, 3, 4], cB 27 [5, 6, 7], cB 27 [8, 9, 10], cB 27 [11, 12, 13]] ew)))))))
def uh : aB := .new (.new (.new (cT 7 [] 9 (cT 28 [.agg [0, 1, 2], .agg [3, 4, 5]] 10 (cT 28 [.agg [3, 4, 5], .agg [6, 7, 8]] 11 (cT 28 [.agg [0, 1, 2], .agg [0, 1, 2]] 12 (aT (.un .not 9) 13 (.cond 13 (.cut 12 [10, 12, .bool true, 0, 1, 2, 3, 4, 5, 6, 7, 8] [0, 1, 2] [cB 27 [3, 4, 5], cB 27 [6, 7, 8], cB 27 [9, 10, 11]] ci) (.cond 10 (aT (.un .not 12) 14 (.cond 14 (.cut 12 [10, 12, .bool true, 0, 1, 2, 3, 4, 5, 6, 7, 8] [0, 1, 2] [cB 27 [3, 4, 5], cB 27 [6, 7, 8], cB 27 [9, 10, 11]] ci) (cT 28 [.agg [3, 4, 5], .agg [3, 4, 5]] 15 (aT (.un .not 15) 16 (.cond 16 (.cut 12 [10, 12, .bool true, 0, 1, 2, 3, 4, 5, 6, 7, 8] [0, 1, 2] [cB 27 [3, 4, 5], cB 27 [6, 7, 8], cB 27 [9, 10, 11]] ci) (.cond 10 (.cond 11 (cT 28 [.agg [0, 1, 2], .agg [6, 7, 8]] 17 (aT (.un .not 17) 18 (.cut 12 [10, 12, 18, 0, 1, 2, 3, 4, 5, 6, 7, 8] [0, 1, 2] [cB 27 [3, 4, 5], cB 27 [6, 7, 8], cB 27 [9, 10, 11]] ci))) (.cut 12 [10, 12, .bool false, 0, 1, 2, 3, 4, 5, 6, 7, 8] [0, 1, 2] [cB 27 [3, 4, 5], cB 27 [6, 7, 8], cB 27 [9, 10, 11]] ci)) (.cut 12 [10, 12, .bool false, 0, 1, 2, 3, 4, 5, 6, 7, 8] [0, 1, 2] [cB 27 [3, 4, 5], cB 27 [6, 7, 8], cB 27 [9, 10, 11]] ci))))))) (.cond 10 (.cond 11 (cT 28 [.agg [0, 1, 2], .agg [6, 7, 8]] 14 (aT (.un .not 14) 15 (.cut 12 [10, 12, 15, 0, 1, 2, 3, 4, 5, 6, 7, 8] [0, 1, 2] [cB 27 [3, 4, 5], cB 27 [6, 7, 8], cB 27 [9, 10, 11]] ci))) (.cut 12 [10, 12, .bool false, 0, 1, 2, 3, 4, 5, 6, 7, 8] [0, 1, 2] [cB 27 [3, 4, 5], cB 27 [6, 7, 8], cB 27 [9, 10, 11]] ci)) (.cut 12 [10, 12, .bool false, 0, 1, 2, 3, 4, 5, 6, 7, 8] [0, 1, 2] [cB 27 [3, 4, 5], cB 27 [6, 7, 8], cB 27 [9, 10, 11]] ci)))))))))))
theorem wS : cb oQ 400 [] [.code vX] (bi [.agg [.atom 0, .atom 1, .atom 2], .agg [.atom 3, .atom 4, .atom 5], .agg [.atom 6, .atom 7, .atom 8]] 0 .leaf id) (br ⟨.leaf, 0⟩ []) 9 = some uh := by kernel_rfl
end Go.AI.Lx
namespace Go.AI.Lx
open Go.Proofs Go.Proofs.YtkeaedhoaamfnaaGreatDoor
set_option maxRecDepth 10000
theorem xO {K K' : S → Prop} (h : fJ K) (h' : fJ K') : fJ fun s => K s ∧ K' s := fun a b hf hk => ⟨h a b hf hk.1, h' a b hf hk.2⟩
theorem BS {K : S → Prop} {G : List Nat} {s : S} (h : fJ K) : fJ fun s' => K s' ∧ KB G s s' ∧ s.next ≤ s'.next := fun a b hf hk => ⟨h a b hf hk.1, hk.2.1.trans (KB.fw hf (by simp)), Nat.le_trans hk.2.2 hf.next⟩
theorem Ke {K : S → Prop} {G : List Nat} {s : S} (h : fJ K) : fJ fun s' => K s' ∧ KB G s s' := fun a b hf hk => ⟨h a b hf hk.1, hk.2.trans (KB.fw hf (by simp))⟩
theorem ut : fJ T0 := fun _ _ _ _ => trivial
theorem IS (vs : List (List Nat)) (t u : Ty) : (mA vs t u).length ≤ vs.length := by
 unfold mA
 split
 ·unfold ji; rw [List.length_map]; exact Nat.le_refl _
 ·simp
theorem Tq {s : S} (b : Bool) : (mt.bin .neq 4 false (.bool b) (.bool b)).run Tryz.prog s = some (.bool false) := by
 cases b <;> rfl
theorem NC {K K' : S → Prop} (hK : fJ K) (hK' : fJ K') {vs us : List (List Nat)} {t u : Ty} {G G' : List Nat} {o o' : Option Nat} {vr nm rw vr' nm' rw' : V} {s : S} (h : MS K vs t G o vr nm rw s) (h' : MS K' us u G' o' vr' nm' rw' s) (hw : WF s) (hk : K s) (hk' : K' s) :
 Cw au 25 [.agg [vr, nm, rw], .agg [vr', nm', rw']] s fun v s' => v = .bool (decide (vs = us) && ep t u) ∧ Fw [] s s' := by
 have h1 := h.rds
 have h2 := h'.rds
 exact BY (xO (BS hK) (BS hK')) ⟨h1.vars.mono fun _ h => h.1, h1.ty.mono fun _ h => h.1⟩ ⟨h2.vars.mono fun _ h => h.2, h2.ty.mono fun _ h => h.2⟩ hw ⟨⟨hk, KB.refl _ _, Nat.le_refl _⟩, ⟨hk', KB.refl _ _, Nat.le_refl _⟩⟩
section
variable {K : S → Prop} {n : Nat}
end
theorem Pd {G : List Nat} {s : S} (h : ∀ g ∈ G, g < s.next) : Kn (fun s' => T0 s' ∧ KB G s s' ∧ s.next ≤ s'.next) s.next := fun F a b hF hf hk => ⟨trivial, LG h F a b hF hf hk.2.1, Nat.le_trans hk.2.2 hf.next⟩
theorem NF (vs : List (List Nat)) (t : Ty) : decide (KQ vs t = 0) = fq vs t := by
 unfold KQ
 cases hc : fq vs t with
 | true => rw [(eS hc).1]; rfl
 | false => cases hs : gv vs t <;> rfl
section
variable {K : S → Prop} {n : Nat}
theorem Fq (hK : Kn K n) {va vb vc : List (List Nat)} {ta tb tc : Ty} {vra nma rwa vrb nmb rwb vrc nmc rwc : V} {s : S} (hn : n ≤ s.next) (hA : DW K va ta vra nma rwa) (hB : DW K vb tb vrb nmb rwb) (hC : DW K vc tc vrc nmc rwc) (hw : WF s) (hG : cF s) (hk : K s) :
 Cw au 6 [.agg [vra, nma, rwa], .agg [vrb, nmb, rwb], .agg [vrc, nmc, rwc]] s fun v s' => v = .bool true ∧ Fw [] s s' := by
 have hoa := hA.ty.one
 have hova := hA.vars.row.one
 have hob := hB.ty.one
 have hovb := hB.vars.row.one
 have hoc := hC.ty.one
 have hovc := hC.vars.row.one
 have hkk : ∀ s1, Fw [] s s1 → K s1 := fun s1 h1 => hK.still _ _ h1 hk
 refine aL (bb (C := oQ) (e := ⟨[vra, nma, rwa, vrb, nmb, rwb, vrc, nmc, rwc], []⟩) (F := []) (dn rfl rfl rfl) Tryz.func6 rfl (by kernel_rfl) wS rfl ⟨rfl, by simp [aA, hoa.1, hoa.2, hova, hob.1, hob.2, hovb, hoc.1, hoc.2, hovc], rfl⟩ rfl hw rfl (by simp) trivial ay trivial (by simp) ?_)
 have gen : ∀ {vs us : List (List Nat)} {t u : Ty} {x1 x2 x3 y1 y2 y3 : V} (s1 : S), Fw [] s s1 → WF s1 → DW K vs t x1 x2 x3 → DW K us u y1 y2 y3 → Cw au 28 [.agg [x1, x2, x3], .agg [y1, y2, y3]] s1 fun v s' => v = .bool (fG vs t us u) ∧ Fw [] s1 s' := fun s1 h1 h2 r1 r2 => rO hK (Nat.le_trans hn h1.next) r1 r2 h2 (hG.keep h1.ro) (hkk s1 h1)
 have key0 : ∀ (bs : List Nat) (D : List Nat) (U : S → Prop) (L : List ck), bs.length = 2 → iA D U → Bl D U → ah au [] s (tW fun v s' => v = .bool true ∧ Fw [] s s') jG ⟨[vra, nma, rwa, vrc, nmc, rwc], bs⟩ D U L := by
  intro bs D U L hbs hst hbl
  obtain ⟨p1, p2, rfl⟩ : ∃ p1 p2, bs = [p1, p2] := by
   match bs, hbs with
   | [p1, p2], _ => exact ⟨p1, p2, rfl⟩
  refine kB hst hbl fun s1 k1 k2 k3 k4 => ?_
  obtain ⟨v, s2, hcall, G, o, lv, rfl, hM, hN, hf⟩ := Hw hK (Nat.le_trans hn k1.next) hA hC.ty k2 (hG.keep k1.ro) (hkk s1 k1)
  refine ⟨[lv, .bool (wD va ta tc).isSome], _, s2, _, _, inferInstance, rfl, by simp [aA, hM.one]; rfl, hcall, hf, BM.stb, Mt, hM, hN, ?_⟩
  have st2 := gD hst (@BM.stb T0 G (mA va ta tc) o lv)
  have bl2 := pH hbl (@Mt T0 G (mA va ta tc) o lv)
  refine fl rfl rfl ?_
  refine aI rfl (fun c1 => ?_) (fun c1 => ?_)
  ·exact aE fun s1 h1 h2 h3 h4 => ⟨_, _, rfl, rfl, h1⟩
  have hsome : (wD va ta tc).isSome = true := by simpa using c1
  obtain ⟨m, hm⟩ := Option.isSome_iff_exists.1 hsome
  have hap := ME hm
  refine kB st2 bl2 fun s3 j1 j2 j3 j4 => ?_
  have hol := IS va ta tc
  have hal := hA.vars.lt
  have hkn := j3.2.kn j2 Pc (Nat.zero_le _)
  obtain ⟨v2, s4, hcall2, nm2, rw2, G2, rfl, hM2, hN2, hf2⟩ := OH (vp (CO hK (Nat.le_trans hn j1.next)) hkn) (Nat.le_refl _) ((j3.2.rdb (by omega)).mono fun _ h => h.2) (hA.ty.mono fun _ h => h.1) j2 (hG.keep j1.ro) ⟨hkk s3 j1, trivial, KB.refl _ _⟩
  rw [hap] at hM2 hcall2
  have ho2 := hM2.one
  refine ⟨[nm2, rw2, .int .i64 0], _, s4, G2, MT T0 G2 tc nm2 rw2, inferInstance, rfl, by simp [aA, ho2.1, ho2.2, fD], hcall2, hf2, MT.stb, fun _ _ h => h.2, hM2, hN2, ?_⟩
  refine bd fun b1 hb1 hd1 => ?_
  refine gP rfl rfl rfl ?_
  refine dA rfl (fun _ => ?_) (fun h => absurd rfl h)
  refine ax (.bool true) (fun s5 h1 h2 h3 h4 => ?_) rfl rfl ?_
  ·have := KD (xO (Ke (G := G2) (s := s5) ut) hK.still) (cY tc) tc tc nm2 rw2 nmc rwc s5 (Nat.le_refl _) (h3.2.1.mono fun _ h => h.1) (hC.ty.mono fun _ h => h.2) h2 ⟨⟨trivial, KB.refl _ _⟩, hkk s5 h1⟩
   rwa [pg] at this
  exact aE fun s1 h1 h2 h3 h4 => ⟨_, _, rfl, rfl, h1⟩
 have key1 : ∀ (bs : List Nat) (D : List Nat) (U : S → Prop) (L : List ck), bs.length = 2 → iA D U → Bl D U → ah au [] s (tW fun v s' => v = .bool true ∧ Fw [] s s') jF ⟨[.bool false, vra, nma, rwa, vrc, nmc, rwc], bs⟩ D U L := by
  intro bs D U L hbs hst hbl
  obtain ⟨p1, p2, rfl⟩ : ∃ p1 p2, bs = [p1, p2] := by
   match bs, hbs with
   | [p1, p2], _ => exact ⟨p1, p2, rfl⟩
  refine aI (q := false) rfl (fun h => by cases h) (fun _ => ?_)
  refine ib (fun vs' bs' D' U' => vs' = [vra, nma, rwa, vrc, nmc, rwc] ∧ bs'.length = 2 ∧ iA D' U' ∧ Bl D' U') ⟨rfl, rfl, hst, hbl⟩ hst ?_
  rintro _ bs' D' U' ⟨rfl, hl, hst, hbl⟩ - - -
  exact key0 bs' D' U' _ hl hst hbl
 have key2 : ∀ (G : List Nat) (o : Option Nat) (vr nm rw : V) (q : Bool) (bs : List Nat) (D : List Nat) (U : S → Prop) (L : List ck), bs.length = 4 → iA D U → Bl D U → (∀ s, U s → MS T0 (Bq va ta) (Br va ta) G o vr nm rw s) → (q = true → fG va ta vb tb = true ∧ fG vb tb va ta = true) →
  ah au [] s (tW fun v s' => v = .bool true ∧ Fw [] s s') gC ⟨[.bool q, vra, nma, rwa, vrb, nmb, rwb, vrc, nmc, rwc, vr, nm, rw], bs⟩ D U L := by
  intro G o vr nm rw q bs D U L hbs hst hbl hU hq
  obtain ⟨p1, p2, p3, p4, rfl⟩ : ∃ p1 p2 p3 p4, bs = [p1, p2, p3, p4] := by
   match bs, hbs with
   | [p1, p2, p3, p4], _ => exact ⟨p1, p2, p3, p4, rfl⟩
  refine aI rfl (fun c1 => ?_) (fun c1 => ?_)
  ·obtain ⟨q1, q2⟩ := hq c1
   obtain ⟨e1, e2⟩ := LQ q1 q2
   have hcb := (ju q1).2.1
   have hre : KQ vb tb = 0 := by unfold KQ; rw [(eS hcb).1, hcb]; rfl
   refine kB hst hbl fun s1 k1 k2 k3 k4 => ?_
   obtain ⟨v, s2, hcall, vr2, nm2, rw2, G2, o2, rfl, hM2, hN2, hf2⟩ := Cr hK (Nat.le_trans hn k1.next) hB k2 (hG.keep k1.ro) (hkk s1 k1)
   have hq2 := hM2.one
   rw [hre] at hcall
   refine ⟨[vr2, nm2, rw2, .int .i64 0], _, s2, _, _, inferInstance, rfl, by simp [aA, hq2.1, hq2.2.1, hq2.2.2, fD], hcall, hf2, MS.stb, MS.bl, hM2, hN2, ?_⟩
   have st2 := gD hst (@MS.stb T0 (Bq vb tb) (Br vb tb) G2 o2 vr2 nm2 rw2)
   have bl2 := pH hbl (@MS.bl T0 (Bq vb tb) (Br vb tb) G2 o2 vr2 nm2 rw2)
   refine bd fun b1 hb1 hd1 => ?_
   refine sG rfl rfl rfl ?_
   refine dA rfl (fun h => absurd rfl h) (fun _ => ?_)
   refine ax (.bool true) (fun s5 h1 h2 h3 h4 => ?_) rfl rfl ?_
   ·have := NC ut ut (hU s5 h3.1) h3.2 h2 trivial trivial
    rwa [e1, e2, pg, decide_eq_true rfl] at this
   refine fl rfl rfl ?_
   refine ib (fun vs' bs' D' U' => vs' = [.bool false, vra, nma, rwa, vrc, nmc, rwc] ∧ bs'.length = 2 ∧ iA D' U' ∧ Bl D' U') ⟨rfl, rfl, st2, bl2⟩ st2 ?_
   rintro _ bs' D' U' ⟨rfl, hl, hst, hbl⟩ - - -
   exact key1 bs' D' U' _ hl hst hbl
  ·refine ib (fun vs' bs' D' U' => vs' = [vra, nma, rwa, vrc, nmc, rwc] ∧ bs'.length = 2 ∧ iA D' U' ∧ Bl D' U') ⟨rfl, rfl, hst, hbl⟩ hst ?_
   rintro _ bs' D' U' ⟨rfl, hl, hst, hbl⟩ - - -
   exact key0 bs' D' U' _ hl hst hbl
 have key3 : ∀ (G : List Nat) (o : Option Nat) (vr nm rw : V) (bs : List Nat) (D : List Nat) (U : S → Prop) (L : List ck), bs.length = 4 → iA D U → Bl D U → (∀ s, U s → MS T0 (Bq va ta) (Br va ta) G o vr nm rw s) →
  ah au [] s (tW fun v s' => v = .bool true ∧ Fw [] s s') ew ⟨[.bool (fG va ta vb tb), .bool false, vra, nma, rwa, vrb, nmb, rwb, vrc, nmc, rwc, vr, nm, rw], bs⟩ D U L := by
  intro G o vr nm rw bs D U L hbs hst hbl hU
  obtain ⟨p1, p2, p3, p4, rfl⟩ : ∃ p1 p2 p3 p4, bs = [p1, p2, p3, p4] := by
   match bs, hbs with
   | [p1, p2, p3, p4], _ => exact ⟨p1, p2, p3, p4, rfl⟩
  refine aI (q := false) rfl (fun h => by cases h) (fun _ => ?_)
  have cut : ∀ (q : Bool), (q = true → fG va ta vb tb = true ∧ fG vb tb va ta = true) → ∀ vs' bs' D' U', (vs' = [.bool q, vra, nma, rwa, vrb, nmb, rwb, vrc, nmc, rwc, vr, nm, rw] ∧ bs'.length = 4 ∧ iA D' U' ∧ Bl D' U' ∧ (∀ s, U' s → MS T0 (Bq va ta) (Br va ta) G o vr nm rw s)) → vs'.length = 13 → aA vs' → bs'.length = [0, 1, 2, 3].length →
   ah au [] s (tW fun v s' => v = .bool true ∧ Fw [] s s') gC ⟨vs', bs'⟩ D' U' L := by
   rintro q hq _ bs' D' U' ⟨rfl, hl, hst, hbl, hU⟩ - - -
   exact key2 G o vr nm rw q bs' D' U' L hl hst hbl hU hq
  refine aI rfl (fun c1 => ?_) (fun c1 => ?_)
  ·refine ax (.bool (fG vb tb va ta)) (fun a b c _ _ => gen a b c hB hA) rfl rfl ?_
   exact ib _ ⟨rfl, rfl, hst, hbl, hU⟩ hst (cut _ fun h => ⟨c1, h⟩)
  ·exact ib _ ⟨rfl, rfl, hst, hbl, hU⟩ hst (cut false fun h => by cases h)
 have key4 : ∀ (bs : List Nat) (L : List ck), bs.length = 3 → ah au [] s (tW fun v s' => v = .bool true ∧ Fw [] s s') ci ⟨[.bool (fG va ta vb tb), .bool (fq va ta), .bool false, vra, nma, rwa, vrb, nmb, rwb, vrc, nmc, rwc], bs⟩ [] T0 L := by
  intro bs L hbs
  obtain ⟨p1, p2, p3, rfl⟩ : ∃ p1 p2 p3, bs = [p1, p2, p3] := by
   match bs, hbs with
   | [p1, p2, p3], _ => exact ⟨p1, p2, p3, rfl⟩
  refine aI (q := false) rfl (fun h => by cases h) (fun _ => ?_)
  refine kB ay Mv fun s1 k1 k2 k3 k4 => ?_
  obtain ⟨v, s2, hcall, vr, nm, rw, G, o, rfl, hM, hN, hf⟩ := Cr hK (Nat.le_trans hn k1.next) hA k2 (hG.keep k1.ro) (hkk s1 k1)
  have hq := hM.one
  refine ⟨[vr, nm, rw, .int .i64 (KQ va ta)], _, s2, _, _, inferInstance, rfl, by simp [aA, hq.1, hq.2.1, hq.2.2, fD], hcall, hf, MS.stb, MS.bl, hM, hN, ?_⟩
  have st2 := gD ay (@MS.stb T0 (Bq va ta) (Br va ta) G o vr nm rw)
  have bl2 := pH Mv (@MS.bl T0 (Bq va ta) (Br va ta) G o vr nm rw)
  refine bd fun b1 hb1 hd1 => ?_
  refine gP rfl rfl rfl ?_
  rw [NF]
  refine aD (.bool false) rfl (fun _ _ _ _ _ => Tq _) rfl ?_
  refine aI (q := false) rfl (fun h => by cases h) (fun _ => ?_)
  have cut : ∀ vs' bs' D' U', (vs' = [.bool (fG va ta vb tb), .bool false, vra, nma, rwa, vrb, nmb, rwb, vrc, nmc, rwc, vr, nm, rw] ∧ bs'.length = 4 ∧ iA D' U' ∧ Bl D' U' ∧ (∀ s, U' s → MS T0 (Bq va ta) (Br va ta) G o vr nm rw s)) → vs'.length = 14 → aA vs' → bs'.length = [0, 1, 2, 3].length →
   ah au [] s (tW fun v s' => v = .bool true ∧ Fw [] s s') ew ⟨vs', bs'⟩ D' U' L := by
   rintro _ bs' D' U' ⟨rfl, hl, hst, hbl, hU⟩ - - -
   exact key3 G o vr nm rw bs' D' U' L hl hst hbl hU
  refine aI rfl (fun c1 => ?_) (fun c1 => ?_)
  ·obtain ⟨g1, g2⟩ := PT c1
   refine ax (.bool true) (fun s5 h1 h2 h3 h4 => ?_) rfl rfl ?_
   ·have hkn := Pd (G := G ++ o.toList) (s := s5) (MS.bl s5 h2 h3.2)
    have hr := h3.2.rds
    have := rO (vp (CO hK (Nat.le_trans hn h1.next)) hkn) (Nat.le_refl _) ⟨hA.vars.mono fun _ h => h.1, hA.ty.mono fun _ h => h.1⟩ ⟨hr.vars.mono fun _ h => h.2, hr.ty.mono fun _ h => h.2⟩ h2 (hG.keep h1.ro) ⟨hkk s5 h1, trivial, KB.refl _ _, Nat.le_refl _⟩
    rwa [g1] at this
   refine fl rfl rfl ?_
   refine aI (q := false) rfl (fun h => by cases h) (fun _ => ?_)
   refine ax (.bool true) (fun s5 h1 h2 h3 h4 => ?_) rfl rfl ?_
   ·have hkn := Pd (G := G ++ o.toList) (s := s5) (MS.bl s5 h2 h3.2)
    have hr := h3.2.rds
    have := rO (vp (CO hK (Nat.le_trans hn h1.next)) hkn) (Nat.le_refl _) ⟨hr.vars.mono fun _ h => h.2, hr.ty.mono fun _ h => h.2⟩ ⟨hA.vars.mono fun _ h => h.1, hA.ty.mono fun _ h => h.1⟩ h2 (hG.keep h1.ro) ⟨hkk s5 h1, trivial, KB.refl _ _, Nat.le_refl _⟩
    rwa [g2] at this
   refine fl rfl rfl ?_
   exact ib _ ⟨rfl, rfl, st2, bl2, fun _ h => h.2⟩ st2 cut
  ·exact ib _ ⟨rfl, rfl, st2, bl2, fun _ h => h.2⟩ st2 cut
 refine bd fun b1 hb1 hd1 => ?_
 refine bd fun b2 hb2 hd2 => ?_
 refine bd fun b3 hb3 hd3 => ?_
 refine ax (.bool true) (fun a _ _ _ _ => lr (RJ a)) rfl rfl ?_
 refine ax (.bool (fG va ta vb tb)) (fun a b c _ _ => gen a b c hA hB) rfl rfl ?_
 refine ax (.bool (fG vb tb vc tc)) (fun a b c _ _ => gen a b c hB hC) rfl rfl ?_
 refine ax (.bool (fq va ta)) (fun a b c _ _ => by have := gen a b c hA hA; rwa [CW] at this) rfl rfl ?_
 refine fl rfl rfl ?_
 refine aI (q := false) rfl (fun h => by cases h) (fun _ => ?_)
 refine aI rfl (fun c1 => ?_) (fun c1 => ?_)
 ·obtain ⟨g1, g2, -⟩ := ju c1
  refine fl rfl rfl ?_
  refine aI rfl (fun c2 => ?_) (fun c2 => ?_)
  ·rw [g1] at c2; cases c2
  refine ax (.bool true) (fun a b c _ _ => by have := gen a b c hB hB; rwa [CW, g2] at this) rfl rfl ?_
  refine fl rfl rfl ?_
  refine aI (q := false) rfl (fun h => by cases h) (fun _ => ?_)
  refine aI rfl (fun c3 => ?_) (fun c3 => ?_)
  ·refine aI rfl (fun c4 => ?_) (fun c4 => ?_)
   ·refine ax (.bool true) (fun a b c _ _ => by have := gen a b c hA hC; rwa [IZ c1 c4] at this) rfl rfl ?_
    refine fl rfl rfl ?_
    exact bI (key4 _ _ rfl)
   ·exact bI (key4 _ _ rfl)
  ·exact bI (key4 _ _ rfl)
 ·refine aI rfl (fun c3 => ?_) (fun c3 => ?_)
  ·rw [c1] at c3; cases c3
  ·exact bI (key4 _ _ rfl)
end
end Go.AI.Lx
