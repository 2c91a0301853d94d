/- What the functions answer in the evaluator: part 14. No conditions beyond those of the row. -/
import Derived.Test.YtkeaedhoaamfnaaGreatDoorL13
set_option linter.unusedVariables false
set_option linter.unusedSimpArgs false
noncomputable section
namespace Go.AI.Lx
open Go.Proofs Go.Proofs.YtkeaedhoaamfnaaGreatDoor
set_option maxRecDepth 10000
def PU : Nat → Nat → List Nat
 | 0, _ => []
 | f + 1, n => if n = 0 then [] else PU f (n / 10) ++ [48 + n % 10]
def dg (n : Nat) : List Nat := PU 2 n
def qM (k : Nat) : List Nat := [39, 97 + k % 26] ++ (if 26 ≤ k then dg (k / 26) else [])
theorem vE : ∀ (f n : Nat), (PU f n).length ≤ f
 | 0, n => by simp [PU]
 | f + 1, n => by
  simp only [PU]
  split
  ·simp
  ·have := vE f (n / 10); simp only [List.length_append, List.length_cons, List.length_nil]; omega
theorem Ni : ∀ n, n < 128 → (Utf8.encode ((n : Nat) : Int)).data.toList.map UInt8.toNat = [n] := by decide +kernel
theorem tq {s : S} {n : Nat} (h : n < 128) : (lE.conv 21 9 (.int .i32 ((n : Nat) : Int))).run Tryz.prog s = some (.str [n]) := by
 have h1 := Ni n h
 simp only [lE.run, jm, Tryz.underlying21, Tryz.underlying9, zC, h1]
 rfl
theorem Nn : ∀ n, n < 10 → 1 ≤ n → ((Wx.drop n).take (n + 1 - n)) = dg n := by decide +kernel
theorem Nm : ∀ n, n < 77 → 10 ≤ n → ((VC.drop (n * 2)).take (n * 2 + 2 - n * 2)) = dg n := by decide +kernel
section
variable {s : S}
theorem TC {n : Nat} (h1 : 1 ≤ n) (h2 : n < 77) (hw : WF s) : Cw aq 247 [.int .i64 ((n : Nat) : Int)] s fun v s' => v = .str (dg n) ∧ Fw [] s s' := by
 refine ay (aI (C := xG) (e := ⟨[.int .i64 ((n : Nat) : Int)], []⟩) (F := []) (bE rfl rfl rfl) Tryz.func247 rfl (by kernel_rfl) In rfl ⟨rfl, rfl, rfl⟩ rfl hw rfl (by simp) trivial am trivial (by simp) ?_)
 refine cP rfl rfl rfl ?_
 refine aP rfl (fun c1 => ?_) (fun c1 => ?_)
 ·have hn : n < 10 := by have : ((n : Nat) : Int) < 10 := c1; omega
  refine br (r := ((n + 1 : Nat) : Int)) rfl rfl (wI (by omega)) rfl ?_
  refine lP (l := Wx) (n := n) (m := n + 1) Tryz.underlying9 rfl rfl rfl (by omega) (by show n + 1 ≤ 36; omega) rfl ?_
  exact ak fun s1 h1' h2' h3 h4 => ⟨_, _, rfl, by rw [← Nn n hn h1]; rfl, h1'⟩
 ·have hn : 10 ≤ n := by have : ¬ ((n : Nat) : Int) < 10 := c1; omega
  refine PE (r := ((n * 2 : Nat) : Int)) rfl rfl (by rw [show ((n : Nat) : Int) * 2 = ((n * 2 : Nat) : Int) by omega]; exact aY _ ⟨by omega, by omega⟩) rfl ?_
  refine PE (r := ((n * 2 : Nat) : Int)) rfl rfl (by rw [show ((n : Nat) : Int) * 2 = ((n * 2 : Nat) : Int) by omega]; exact aY _ ⟨by omega, by omega⟩) rfl ?_
  refine br (r := ((n * 2 + 2 : Nat) : Int)) rfl rfl (by rw [show ((n * 2 : Nat) : Int) + 2 = ((n * 2 + 2 : Nat) : Int) by omega]; exact aY _ ⟨by omega, by omega⟩) rfl ?_
  refine lP (l := VC) (n := n * 2) (m := n * 2 + 2) Tryz.underlying9 rfl rfl rfl (by omega) (by show n * 2 + 2 ≤ 200; omega) rfl ?_
  exact ak fun s1 h1' h2' h3 h4 => ⟨_, _, rfl, by rw [← Nm n h2 hn]; rfl, h1'⟩
def Ol (n : Nat) : ax := .call 247 [.int .i64 ((n : Nat) : Int)] [] [] 1 (.atom 0) false (.ret (.atom 0) [])
theorem OJ : (List.range 77).map (fun n => bu GG 400 [] [.code Ns] (aO [.int .i64 ((n : Nat) : Int), .int .i64 10] 0 .leaf id) (aR ⟨.leaf, 0⟩ []) 0) = (List.range 77).map fun n => some (Ol n) := by kernel_rfl
theorem Xs {n : Nat} (h1 : 1 ≤ n) (h2 : n < 77) (hw : WF s) : Cw aq 205 [.int .i64 ((n : Nat) : Int), .int .i64 10] s fun v s' => v = .str (dg n) ∧ Fw [] s s' := by
 have hrun := List.map_inj_left.1 OJ n (List.mem_range.2 h2)
 refine ay (aI (C := GG) (e := ⟨[], []⟩) (F := []) (bE rfl rfl rfl) Tryz.func205 rfl (by kernel_rfl) hrun rfl ⟨rfl, rfl, rfl⟩ rfl hw rfl (by simp) trivial am trivial (by simp) ?_)
 refine aj (.str (dg n)) (fun s1 h1' h2' h3 h4 => TC h1 h2 h2') rfl rfl ?_
 exact ak fun s1 h1 h2 h3 h4 => ⟨_, _, rfl, rfl, h1⟩
theorem Ug {n : Nat} (h1 : 1 ≤ n) (h2 : n < 77) (hw : WF s) : Cw aq 157 [.int .i64 ((n : Nat) : Int)] s fun v s' => v = .str (dg n) ∧ Fw [] s s' := by
 refine ay (aI (C := AS) (e := ⟨[.int .i64 ((n : Nat) : Int)], []⟩) (F := []) (bE rfl rfl rfl) Tryz.func157 rfl (by kernel_rfl) My rfl ⟨rfl, rfl, rfl⟩ rfl hw rfl (by simp) trivial am trivial (by simp) ?_)
 refine aj (.str (dg n)) (fun s1 h1' h2' h3 h4 => Xs h1 h2 h2') rfl rfl ?_
 exact ak fun s1 h1 h2 h3 h4 => ⟨_, _, rfl, rfl, h1⟩
theorem Wg {n : Nat} (h1 : 1 ≤ n) (h2 : n < 77) (hw : WF s) : Cw aq 112 [.int .i64 ((n : Nat) : Int)] s fun v s' => v = .str (dg n) ∧ Fw [] s s' := by
 refine ay (aI (C := AT) (e := ⟨[.int .i64 ((n : Nat) : Int)], []⟩) (F := []) (bE rfl rfl rfl) Tryz.func112 rfl (by kernel_rfl) Mz rfl ⟨rfl, rfl, rfl⟩ rfl hw rfl (by simp) trivial am trivial (by simp) ?_)
 refine aj (.str (dg n)) (fun s1 h1' h2' h3 h4 => Ug h1 h2 h2') rfl rfl ?_
 exact ak fun s1 h1 h2 h3 h4 => ⟨_, _, rfl, rfl, h1⟩
theorem PT : ∀ (f : Nat), PU f 0 = []
 | 0 => rfl
 | f + 1 => rfl
theorem Sa {n : Nat} (h1 : 1 ≤ n) (h2 : n < 77) (hw : WF s) : Cw aq 73 [.int .i64 ((n : Nat) : Int)] s fun v s' => v = .str (dg n) ∧ Fw [] s s' := by
 refine ay (aI (C := uy) (e := ⟨[.int .i64 ((n : Nat) : Int)], []⟩) (F := []) (bE rfl rfl rfl) Tryz.func73 rfl (by kernel_rfl) Fb rfl ⟨rfl, rfl, rfl⟩ rfl hw rfl (by simp) trivial am trivial (by simp) ?_)
 refine cQ rfl rfl rfl ?_
 refine aP rfl (fun c3 => ?_) (fun c3 => ?_)
 ·have : ((n : Nat) : Int) = 0 := c3
  omega
 refine gp rfl rfl rfl ?_
 refine aP rfl (fun c4 => ?_) (fun c4 => ?_)
 ·refine ST (r := -((n : Nat) : Int)) rfl (by rw [show (0 : Int) - ((n : Nat) : Int) = -((n : Nat) : Int) by omega]; exact aY _ ⟨by omega, by omega⟩) rfl ?_
  refine aK ?_
  refine ej (fun j vs bs => ∃ (f r : Nat) (out : List Nat), j = r ∧ r < 10 ^ f ∧ r < 77 ∧ out.length + f ≤ 2 ∧ vs = [.int .i64 ((n : Nat) : Int), .int .i64 (-((r : Nat) : Int)), .str out] ∧ bs = [] ∧ dg n = PU f r ++ out) n ⟨2, n, [], rfl, by omega, h2, by simp, rfl, rfl, by unfold dg; simp⟩ ?_
  rintro j _ _ ⟨f, r, out, rfl, hrf, hr7, hol, rfl, rfl, hd⟩
  refine iv rfl rfl rfl ?_
  refine aP rfl (fun c1 => ?_) (fun c1 => ?_)
  ·have hr0 : j ≠ 0 := fun h => by subst h; exact c1 rfl
   obtain ⟨f, rfl⟩ : ∃ f', f = f' + 1 := by
    cases f with
    | zero => simp at hrf; omega
    | succ f => exact ⟨f, rfl⟩
   simp only [PU, if_neg hr0] at hd
   have hm : (-((j : Nat) : Int)).tmod 10 = -(((j % 10 : Nat)) : Int) := by rw [Int.neg_tmod]; rfl
   have hq : (-((j : Nat) : Int)).tdiv 10 = -(((j / 10 : Nat)) : Int) := by rw [Int.neg_tdiv]; rfl
   refine jA (op := .rem) (w := .int .i64 (-((j % 10 : Nat) : Int))) rfl rfl rfl ⟨rfl, by show some (V.int .i64 _) = _; rw [hm]⟩ rfl ?_
   refine Aa (r := ((48 + j % 10 : Nat) : Int)) rfl rfl (by rw [show (48 : Int) - -((j % 10 : Nat) : Int) = ((48 + j % 10 : Nat) : Int) by omega]; exact aY _ ⟨by omega, by omega⟩) rfl ?_
   refine vA (r := ((48 + j % 10 : Nat) : Int)) (by show (Tryz.prog.underlying 3).isSome = true; rw [Tryz.underlying3]; rfl) Tryz.underlying21 rfl (IntWalk.i32_in _ ⟨by omega, by omega⟩) rfl ?_
   refine ao (.str [48 + j % 10]) rfl (fun _ _ _ _ _ => tq (by omega)) rfl ?_
   refine mT (op := .add) (w := .str ([48 + j % 10] ++ out)) rfl rfl rfl (by simp only [lG]; rw [Nat.ble_eq_true_of_le (by simp; omega)]; rfl) rfl ?_
   refine jA (op := .quo) (w := .int .i64 (-((j / 10 : Nat) : Int))) rfl rfl rfl ⟨rfl, by show some (V.int .i64 (IntKind.wrap .i64 _)) = _; rw [hq, aY _ ⟨by omega, by omega⟩]⟩ rfl ?_
   refine eJ (j / 10) rfl (by omega) ⟨f, j / 10, _, rfl, ?_, by omega, by simp; omega, rfl, rfl, by rw [hd, List.append_assoc]⟩
   rw [Nat.pow_succ] at hrf
   exact Nat.div_lt_of_lt_mul (by omega)
  ·have hr0 : j = 0 := by
    by_cases h : j = 0
    ·exact h
    ·exact absurd (by omega) c1
   subst hr0
   rw [PT] at hd
   refine cP rfl rfl rfl ?_
   refine aP rfl (fun c2 => ?_) (fun c2 => ?_)
   ·have : ((n : Nat) : Int) < 0 := c2
    omega
   ·exact ak fun s1 h1 h2 h3 h4 => ⟨_, _, rfl, by rw [hd]; rfl, h1⟩
 ·have : ¬ ((n : Nat) : Int) > 0 := c4
  omega
theorem Pl {k : Nat} (hk : k < 2002) (hw : WF s) : Cw aq 72 [.int .i64 ((k : Nat) : Int)] s fun v s' => v = .str (qM k) ∧ Fw [] s s' := by
 refine ay (aI (C := AO) (e := ⟨[.int .i64 ((k : Nat) : Int)], []⟩) (F := []) (bE rfl rfl rfl) Tryz.func72 rfl (by kernel_rfl) Mu rfl ⟨rfl, rfl, rfl⟩ rfl hw rfl (by simp) trivial am trivial (by simp) ?_)
 refine jA (op := .rem) (w := .int .i64 ((k % 26 : Nat) : Int)) rfl rfl rfl ⟨rfl, rfl⟩ rfl ?_
 refine br (r := ((97 + k % 26 : Nat) : Int)) rfl rfl (by rw [show (97 : Int) + ((k % 26 : Nat) : Int) = ((97 + k % 26 : Nat) : Int) by omega]; exact aY _ ⟨by omega, by omega⟩) rfl ?_
 refine vA (r := ((97 + k % 26 : Nat) : Int)) (by show (Tryz.prog.underlying 3).isSome = true; rw [Tryz.underlying3]; rfl) Tryz.underlying21 rfl (IntWalk.i32_in _ ⟨by omega, by omega⟩) rfl ?_
 refine ao (.str [97 + k % 26]) rfl (fun _ _ _ _ _ => tq (by omega)) rfl ?_
 refine mT (op := .add) (w := .str [39, 97 + k % 26]) rfl rfl rfl rfl rfl ?_
 refine xa rfl rfl rfl ?_
 refine aP rfl (fun c1 => ?_) (fun c1 => ?_)
 ·have hk2 : 26 ≤ k := by have : ((k : Nat) : Int) ≥ 26 := c1; omega
  refine jA (op := .quo) (w := .int .i64 ((k / 26 : Nat) : Int)) rfl rfl rfl ⟨rfl, by show some (V.int .i64 (IntKind.wrap .i64 ((k / 26 : Nat) : Int))) = _; rw [aY _ ⟨by omega, by omega⟩]⟩ rfl ?_
  refine aj (.str (dg (k / 26))) (fun _ _ a _ _ => Wg (by omega) (by omega) a) rfl rfl ?_
  refine mT (op := .add) (w := .str ([39, 97 + k % 26] ++ dg (k / 26))) rfl rfl rfl (by simp only [lG]; rw [Nat.ble_eq_true_of_le (by have := vE 2 (k / 26); unfold dg; simp; omega)]; rfl) rfl ?_
  exact ak fun s1 h1 h2 h3 h4 => ⟨_, _, rfl, by unfold qM; rw [if_pos hk2]; rfl, h1⟩
 ·have hk2 : ¬ 26 ≤ k := by have : ¬ ((k : Nat) : Int) ≥ 26 := c1; omega
  exact ak fun s1 h1 h2 h3 h4 => ⟨_, _, rfl, by unfold qM; rw [if_neg hk2]; rfl, h1⟩
theorem Ld {k : Nat} (hk : k < 2002) (hw : WF s) : Cw aq 50 [.int .i64 ((k : Nat) : Int)] s fun v s' => v = .str (qM k) ∧ Fw [] s s' := by
 refine ay (aI (C := xH) (e := ⟨[.int .i64 ((k : Nat) : Int)], []⟩) (F := []) (bE rfl rfl rfl) Tryz.func50 rfl (by kernel_rfl) Io rfl ⟨rfl, rfl, rfl⟩ rfl hw rfl (by simp) trivial am trivial (by simp) ?_)
 refine jA (op := .rem) (w := .int .i64 ((k % 26 : Nat) : Int)) rfl rfl rfl ⟨rfl, rfl⟩ rfl ?_
 refine br (r := ((97 + k % 26 : Nat) : Int)) rfl rfl (by rw [show (97 : Int) + ((k % 26 : Nat) : Int) = ((97 + k % 26 : Nat) : Int) by omega]; exact aY _ ⟨by omega, by omega⟩) rfl ?_
 refine vA (r := ((97 + k % 26 : Nat) : Int)) (by show (Tryz.prog.underlying 3).isSome = true; rw [Tryz.underlying3]; rfl) Tryz.underlying21 rfl (IntWalk.i32_in _ ⟨by omega, by omega⟩) rfl ?_
 refine ao (.str [97 + k % 26]) rfl (fun _ _ _ _ _ => tq (by omega)) rfl ?_
 refine mT (op := .add) (w := .str [39, 97 + k % 26]) rfl rfl rfl rfl rfl ?_
 refine xa rfl rfl rfl ?_
 refine aP rfl (fun c1 => ?_) (fun c1 => ?_)
 ·have hk2 : 26 ≤ k := by have : ((k : Nat) : Int) ≥ 26 := c1; omega
  refine jA (op := .quo) (w := .int .i64 ((k / 26 : Nat) : Int)) rfl rfl rfl ⟨rfl, by show some (V.int .i64 (IntKind.wrap .i64 ((k / 26 : Nat) : Int))) = _; rw [aY _ ⟨by omega, by omega⟩]⟩ rfl ?_
  refine aj (.str (dg (k / 26))) (fun _ _ a _ _ => Sa (by omega) (by omega) a) rfl rfl ?_
  refine mT (op := .add) (w := .str ([39, 97 + k % 26] ++ dg (k / 26))) rfl rfl rfl (by simp only [lG]; rw [Nat.ble_eq_true_of_le (by have := vE 2 (k / 26); unfold dg; simp; omega)]; rfl) rfl ?_
  exact ak fun s1 h1 h2 h3 h4 => ⟨_, _, rfl, by unfold qM; rw [if_pos hk2]; rfl, h1⟩
 ·have hk2 : ¬ 26 ≤ k := by have : ¬ ((k : Nat) : Int) ≥ 26 := c1; omega
  exact ak fun s1 h1 h2 h3 h4 => ⟨_, _, rfl, by unfold qM; rw [if_neg hk2]; rfl, h1⟩
end
theorem cZ {D D' : List Nat} {U U' : S → Prop} (h : kz D U) (h' : kz D' U') : kz (D ++ D') fun s => U s ∧ U' s := fun a b ⟨h1, h2⟩ hk hn =>
 ⟨h a b h1 (fun g hg => hk g (List.mem_append_left _ hg)) hn, h' a b h2 (fun g hg => hk g (List.mem_append_right _ hg)) hn⟩
theorem Mc {D : List Nat} {U : S → Prop} (h : kz D U) : ep U := fun a b hf hu => h a b hu (fun g _ B hB => hf.keep g B (by simp) hB) hf.next
theorem qj {D F : List Nat} {U : S → Prop} (h : kz D U) {a b : S} (hf : Fw F a b) (hd : ∀ g ∈ D, g ∉ F) (hu : U a) : U b := h a b hu (fun g hg B hB => hf.keep g B (hd g hg) hB) hf.next
def Bl (D : List Nat) (U : S → Prop) : Prop := ∀ s, WF s → U s → ∀ g ∈ D, g < s.next
theorem ju {D D' : List Nat} {U U' : S → Prop} (h : Bl D U) (h' : Bl D' U') : Bl (D ++ D') fun s => U s ∧ U' s := fun s hw ⟨h1, h2⟩ g hg => by
 rcases List.mem_append.1 hg with hg | hg
 ·exact h s hw h1 g hg
 ·exact h' s hw h2 g hg
theorem DF : Bl [] T0 := fun _ _ _ _ h => by cases h
theorem fy {E : cx} {F : List Nat} {s0 : S} {Q : dz → Prop} {σ : List V} {β : List Nat} {D : List Nat} {U : S → Prop} {L : List bS} {k : ax} {own : List (Nat × bZ)} {v : V} {f : FuncId} {args : List V} {n : Nat} {pk : Bool} (hst : kz D U) (hbl : Bl D U)
 (hc : ∀ s, Fw F s0 s → WF s → U s → eo ⟨σ, β⟩ s own → ∃ (vs R : List V) (s' : S) (D' : List Nat) (U' : S → Prop), lZ σ vs R ∧ vs.length = n ∧ au vs ∧ lim E (.call f (args.map (sub ⟨σ, β⟩)) none) s = some ⟨.returned (sub ⟨R, β⟩ v), none, s'⟩ ∧ Fw [] s s' ∧
  kz D' U' ∧ Bl D' U' ∧ U' s' ∧ (∀ g ∈ D', s.next ≤ g) ∧ ai E F s0 Q k ⟨R, β⟩ (D ++ D') (fun s => U s ∧ U' s) L) : ai E F s0 Q (.call f args own [] n v pk k) ⟨σ, β⟩ D U L := by
 refine cU fun s hf hw hu hfa => ?_
 obtain ⟨vs, R, s', D', U', h0, h1, h2, h3, h4, h5, h6, h7, h8, h9⟩ := hc s hf hw hu hfa
 have hu' := Mc hst _ _ h4 hu
 refine .inl ⟨vs, R, s', D ++ D', fun s => U s ∧ U' s, h0, h1, h2, h3, h4.mono (by simp), trivial, cZ hst h5, ⟨hu', h7⟩, fun g hg => ?_, h9⟩
 rcases List.mem_append.1 hg with hg | hg
 ·exact ⟨hbl s' (h4.wf hw) hu' g hg, .inl hg⟩
 ·exact ⟨h6 s' (h4.wf hw) h7 g hg, .inr (h8 g hg)⟩
def ls : List (List Nat × Ty) → List (List Nat × Ty) → Bool
 | (x, t) :: l, (y, u) :: m => decide (x = y) && dP t u && ls l m
 | _, _ => true
def pG (l m : List (List Nat × Ty)) : Bool := decide (l.length = m.length) && ls l m
theorem tK : ∀ (l : List (List Nat × Ty)), ls l l = true
 | [] => rfl
 | (x, t) :: l => by simp only [ls, mG, tK l, decide_true, Bool.and_self]
theorem Ij (l : List (List Nat × Ty)) : pG l l = true := by unfold pG; rw [tK]; simp
def Tj (l m : List (List Nat × Ty)) (v w : V) (j : Nat) (vs : List V) (bs : List Nat) : Prop := ∃ i, i ≤ l.length ∧ j = l.length - i ∧ vs = [v, w, .int .i64 ((i : Nat) : Int)] ∧ bs = [] ∧ ls (l.drop i) (m.drop i) = ls l m
section
variable {K : S → Prop}
theorem tJ (hK : ep K) {vs us : List (List Nat)} {t u : Ty} {vr nm rw vr' nm' rw' : V} {s : S} (hR : DX K vs t vr nm rw) (hR' : DX K us u vr' nm' rw') (hw : WF s) (hk : K s) :
 Cw aq 25 [.agg [vr, nm, rw], .agg [vr', nm', rw']] s fun v s' => v = .bool (decide (vs = us) && dP t u) ∧ Fw [] s s' := by
 have ho := hR.ty.one
 have hov := hR.vars.row.one
 have ho' := hR'.ty.one
 have hov' := hR'.vars.row.one
 refine ay (aI (C := oH) (e := ⟨[vr, nm, rw, vr', nm', rw'], []⟩) (F := []) (bE rfl rfl rfl) Tryz.func25 rfl (by kernel_rfl) wm rfl ⟨rfl, by simp [au, ho.1, ho.2, ho'.1, ho'.2, hov, hov'], rfl⟩ rfl hw rfl (by simp) trivial am trivial (by simp) ?_)
 refine aN fun b1 hb1 hd1 => ?_
 refine aN fun b2 hb2 hd2 => ?_
 refine aj (.bool (decide (vs = us))) (fun _ a b _ _ => Ie hK hR.vars hR'.vars b (hK _ _ a hk)) rfl rfl ?_
 refine aP rfl (fun c1 => ?_) (fun c1 => ?_)
 ·refine aj (.bool (dP t u)) (fun a b c _ _ => If hK (cq t) t u nm rw nm' rw' a (Nat.le_refl _) hR.ty hR'.ty c (hK _ _ b hk)) rfl rfl ?_
  exact ak fun s1 h1 h2 h3 h4 => ⟨_, _, rfl, by show V.bool _ = V.bool _; rw [decide_eq_true c1, Bool.true_and], h1⟩
 ·exact ak fun s1 h1 h2 h3 h4 => ⟨_, _, rfl, by show V.bool false = V.bool _; rw [decide_eq_false c1, Bool.false_and], h1⟩
theorem Ig (hK : ep K) {l m : List (List Nat × Ty)} {v w : V} {s : S} (hB : Hg K l v) (hB' : Hg K m w) (hw : WF s) (hk : K s) :
 Cw aq 26 [v, w] s fun r s' => r = .bool (pG l m) ∧ Fw [] s s' := by
 have hob := hB.one
 have hob' := hB'.one
 have hlt := hB.lt
 have hlt' := hB'.lt
 have hkk : ∀ s1, Fw [] s s1 → K s1 := fun s1 h1 => hK _ _ h1 hk
 refine ay (aI (C := pQ) (e := ⟨[v, w], []⟩) (F := []) (bE rfl rfl rfl) Tryz.func26 rfl (by kernel_rfl) yG rfl ⟨rfl, by simp [au, hob, hob'], rfl⟩ rfl hw rfl (by simp) trivial am trivial (by simp) ?_)
 refine bT rfl (fun s1 _ _ => hB.len s1) rfl ?_
 refine bT rfl (fun s1 _ _ => hB'.len s1) rfl ?_
 refine iv rfl rfl rfl ?_
 refine aP rfl (fun c1 => ?_) (fun c1 => ?_)
 ·exact ak fun s1 h1 h2 h3 h4 => ⟨_, _, rfl, by show V.bool false = V.bool _; unfold pG; rw [decide_eq_false (fun h => c1 (by rw [h])), Bool.false_and], h1⟩
 have hll : l.length = m.length := by omega
 have hsp : pG l m = ls l m := by unfold pG; rw [decide_eq_true hll, Bool.true_and]
 rw [hsp]
 refine ej (Tj l m v w) l.length ⟨0, by omega, rfl, rfl, rfl, by simp⟩ ?_
 rintro j _ _ ⟨i, hi, rfl, rfl, rfl, hf⟩
 refine bT rfl (fun s1 _ _ => hB.len s1) rfl ?_
 refine cP rfl rfl rfl ?_
 refine aP rfl (fun c2 => ?_) (fun c2 => ?_)
 ·obtain ⟨⟨x, tx⟩, hx, hd⟩ := bM (show i < l.length by omega)
  obtain ⟨⟨y, ty⟩, hy, hd'⟩ := bM (show i < m.length by omega)
  rw [hd, hd'] at hf
  simp only [ls] at hf
  obtain ⟨p, nm1, rw1, hp, hld, hxb, hxl, hR1⟩ := hB.at hx
  obtain ⟨p', nm2, rw2, hp', hld', hyb, hyl, hR2⟩ := hB'.at hy
  have ho1 := hR1.one
  have ho2 := hR2.one
  have key : ∀ (q : Bool), (q = false ↔ x = y ∧ dP tx ty = true) → ai aq [] s (sq fun r s' => r = .bool (ls l m) ∧ Fw [] s s') jZ ⟨[v, w, .int .i64 ((i : Nat) : Int), .bool q], []⟩ [] T0 [QH (Tj l m v w) (l.length - i)] := by
   intro q hq
   refine aB rfl (fun c3 => ?_) (fun c3 => ?_)
   ·refine ak fun s1 h1 h2 h3 h4 => ⟨_, _, rfl, ?_, h1⟩
    show V.bool false = _
    rw [← hf]
    by_cases h5 : x = y
    ·by_cases h6 : dP tx ty = true
     ·rw [hq.2 ⟨h5, h6⟩] at c3; cases c3
     ·simp [h6]
    ·simp [h5]
   ·obtain ⟨h5, h6⟩ := hq.1 c3
    rw [decide_eq_true h5, h6, Bool.true_and, Bool.true_and] at hf
    refine br (r := ((i + 1 : Nat) : Int)) rfl rfl (wI (by omega)) rfl ?_
    exact eJ (l.length - (i + 1)) rfl (by omega) ⟨i + 1, by omega, rfl, rfl, rfl, hf⟩
  refine ao (.ptr p) rfl (fun _ _ _ _ _ => hp) rfl ?_
  refine ao (.ptr p) rfl (fun _ _ _ _ _ => FZ p) rfl ?_
  refine ao (.str x) rfl (fun a b _ _ _ => fo (p := p) (i := 0) (hld a (hkk a b)) rfl CF) rfl ?_
  refine ao (.ptr p') rfl (fun _ _ _ _ _ => hp') rfl ?_
  refine ao (.ptr p') rfl (fun _ _ _ _ _ => FZ p') rfl ?_
  refine ao (.str y) rfl (fun a b _ _ _ => fo (p := p') (i := 0) (hld' a (hkk a b)) rfl CF) rfl ?_
  refine wY rfl rfl hxb hyb rfl ?_
  refine aB rfl (fun c4 => ?_) (fun c4 => ?_)
  ·have hne : x ≠ y := by simpa using c4
   exact aK (key true ⟨fun h => (by cases h), fun h => absurd h.1 hne⟩)
  ·have heq : x = y := by simpa using c4
   refine ao (.ptr p) rfl (fun _ _ _ _ _ => hp) rfl ?_
   refine ao (.ptr (dZ p 1)) rfl (fun _ _ _ _ _ => FY p) rfl ?_
   refine h_askN [nm1, rw1] (.agg [nm1, rw1]) rfl (by simp [au, ho1.1, ho1.2]) (fun a b _ _ _ => oh (hld a (hkk a b))) rfl ?_
   refine ao (.ptr p') rfl (fun _ _ _ _ _ => hp') rfl ?_
   refine ao (.ptr (dZ p' 1)) rfl (fun _ _ _ _ _ => FY p') rfl ?_
   refine h_askN [nm2, rw2] (.agg [nm2, rw2]) rfl (by simp [au, ho2.1, ho2.2]) (fun a b _ _ _ => oh (hld' a (hkk a b))) rfl ?_
   refine aj (.bool (dP tx ty)) (fun a b c _ _ => If hK (cq tx) tx ty nm1 rw1 nm2 rw2 a (Nat.le_refl _) hR1 hR2 c (hkk a b)) rfl rfl ?_
   refine dR rfl rfl ?_
   exact aK (key _ ⟨fun h => ⟨heq, by simpa using h⟩, fun h => by rw [h.2]; rfl⟩)
 ·have : i = l.length := by omega
  subst this
  rw [List.drop_length] at hf
  simp only [ls] at hf
  exact ak fun s1 h1 h2 h3 h4 => ⟨_, _, rfl, by rw [← hf]; rfl, h1⟩
end
structure MS (K : S → Prop) (vs : List (List Nat)) (t : Ty) (G : List Nat) (o : Option Nat) (vr nm rw : V) (s : S) : Prop where
 vars : UV vs o vr s
 ty : MT K G t nm rw s
 byt : ∀ x ∈ vs, Bytes x
 len : vs.length < 4611686018427387904
section
variable {K : S → Prop} {vs : List (List Nat)} {t : Ty} {G : List Nat} {o : Option Nat} {vr nm rw : V} {s s' : S}
theorem MS.keep (h : MS K vs t G o vr nm rw s) (hk : KB (G ++ o.toList) s s') (hn : s.next ≤ s'.next) : MS K vs t G o vr nm rw s' :=
 ⟨UV.stb s s' h.vars (fun g hg => hk g (List.mem_append_right _ hg)) hn, h.ty.keep (hk.mono fun g hg => List.mem_append_left _ hg) hn, h.byt, h.len⟩
theorem MS.stb : kz (G ++ o.toList) (MS K vs t G o vr nm rw) := fun _ _ h hk hn => h.keep hk hn
theorem MS.bl : Bl (G ++ o.toList) (MS K vs t G o vr nm rw) := fun s hw h g hg => by
 rcases List.mem_append.1 hg with hg | hg
 ·exact h.ty.2 g hg
 ·exact ja h.vars hw g hg
theorem MS.one (h : MS K vs t G o vr nm rw s) : vr.one = true ∧ nm.one = true ∧ rw.one = true := ⟨h.vars.one, h.ty.one⟩
theorem MS.rds (h : MS K vs t G o vr nm rw s) : DX (fun s' => K s' ∧ KB (G ++ o.toList) s s' ∧ s.next ≤ s'.next) vs t vr nm rw :=
 ⟨(UV.txs h.vars h.len h.byt).mono fun s' hs => UV.stb s s' h.vars (fun g hg => hs.2.1 g (List.mem_append_right _ hg)) hs.2.2, h.ty.1.mono fun s' hs => ⟨hs.1, hs.2.1.mono fun g hg => List.mem_append_left _ hg⟩⟩
theorem MS.none : MS K [] (.mk [] []) [] none .nilslice (.str []) .nilslice s := ⟨UV.nil s, MT.none, by simp, by simp⟩
end
theorem MT.abs {K : S → Prop} {B G : List Nat} {t : Ty} {nm rw : V} {s0 s : S} (h : MT (fun s' => K s' ∧ KB B s0 s') G t nm rw s) (hk : KB B s0 s) (hB : ∀ g ∈ B, g < s.next) : MT K (G ++ B) t nm rw s :=
 ⟨h.1.mono fun _ hs => ⟨⟨hs.1, hk.trans (hs.2.mono fun _ hg => List.mem_append_right _ hg)⟩, hs.2.mono fun _ hg => List.mem_append_left _ hg⟩, fun g hg => by
  rcases List.mem_append.1 hg with hg | hg
  ·exact h.2 g hg
  ·exact hB g hg⟩
theorem Tu {l : List (List Nat)} {o : Option Nat} {v : V} {s : S} {b c : Nat} (h : UV l o v s) (h2 : s.get b = some (tC c)) : ∀ g ∈ o.toList, g ≠ b := fun g hg e => by
 cases o with
 | none => simp at hg
 | some X =>
  simp at hg; subst hg; subst e
  have h' : gQ 9 1 s v l.length (l.map V.str) (some g) := h
  generalize hn : l.length = n at h'
  generalize hc : l.map V.str = cs at h'
  cases h' with
  | row _ nv rest n cs h1 h3 h4 => rw [h2] at h1; cases h1
def Qf (t : Ty) : Ty := if fR t = true then t else .mk [] []
def gj (vs : List (List Nat)) (t : Ty) : Bool := eE vs t && decide (vs.length = (hQ t []).length)
theorem oS {vs : List (List Nat)} {t : Ty} (h : eE vs t = true) : fR t = true := by
 unfold eE at h; simp only [Bool.and_eq_true] at h; exact h.1.1
section
variable {K : S → Prop} {n : Nat}
theorem Sd (hK : Kn K n) {t : Ty} {nm rw : V} {s : S} (hn : n ≤ s.next) (hR : ff K t nm rw) (hw : WF s) (hG : cd s) (hk : K s) :
 Cw aq 20 [.agg [nm, rw]] s fun v s' => ∃ vr nm' rw' G o, v = .tuple [.agg [vr, nm', rw'], .int .i64 (if fR t = true then 0 else 32)] ∧ MS T0 (ve t) (Qf t) G o vr nm' rw' s' ∧ (∀ g ∈ G ++ o.toList, s.next ≤ g) ∧ Fw [] s s' := by
 have ho := hR.one
 have hkk : ∀ s1, Fw [] s s1 → K s1 := fun s1 h1 => hK.still _ _ h1 hk
 have hpos := vf t
 refine ay (aI (C := xO) (e := ⟨[nm, rw], []⟩) (F := []) (bE rfl rfl rfl) Tryz.func20 rfl (by kernel_rfl) Iv rfl ⟨rfl, by simp [au, ho.1, ho.2], rfl⟩ rfl hw rfl (by simp) trivial am trivial (by simp) ?_)
 refine aN fun b1 hb1 hd1 => ?_
 refine aN fun b2 hb2 hd2 => ?_
 refine aj (.int .i64 (if fR t = true then ((cq t : Nat) : Int) else 0)) (fun a b c _ _ => Ib hK (Nat.le_trans hn b.next) hR c (hG.keep b.ro) (hkk a b)) rfl rfl ?_
 refine cQ rfl rfl rfl ?_
 refine aP rfl (fun c1 => ?_) (fun c1 => ?_)
 ·have hv : ¬ fR t = true := fun h => by rw [if_pos h] at c1; omega
  have e32 : (if fR t = true then (0 : Int) else 32) = 32 := if_neg hv
  exact ak fun s1 h1 h2 h3 h4 => ⟨_, _, rfl, .nilslice, .str [], .nilslice, [], none, by rw [e32]; rfl, by unfold ve Qf; rw [if_neg hv, if_neg hv]; exact MS.none, by simp, h1⟩
 have hvl : fR t = true := by
  cases hv : fR t with
  | true => rfl
  | false => rw [hv] at c1; exact absurd rfl c1
 have hv : ve t = hQ t [] := by unfold ve; rw [if_pos hvl]
 have hct : Qf t = t := by unfold Qf; rw [if_pos hvl]
 have hsz := (bF hvl).1
 rw [hv, hct, if_pos hvl]
 refine aN fun b3 hb3 hd3 => ?_
 refine fy am DF fun s1 k1 k2 k3 k4 => ?_
 obtain ⟨v, s2, hcall, o', hU, hX, hby, hf⟩ := Bm hK (cq t) t [] nm rw .nilslice none s1 (Nat.le_refl _) hR k2 (hG.keep k1.ro) (hkk s1 k1) (Nat.le_trans hn k1.next) (fun X hX => by cases hX) (UV.nil _) (by simp) (by simp only [List.length_nil]; omega)
 have hl := iS t []
 simp only [List.length_nil] at hl
 have hX' : ∀ g ∈ o'.toList, s1.next ≤ g := fun g hg => by
  cases o' with
  | none => simp at hg
  | some X =>
   simp at hg; subst hg
   rcases hX g rfl with h | h
   ·cases h
   ·exact h
 refine ⟨[v], _, s2, o'.toList, UV (hQ t []) o' v, inferInstance, rfl, by simp [au, hU.one], hcall, hf, UV.stb, fun s hw h => ja h hw, hU, hX', ?_⟩
 refine cU fun s4 f1 f2 f3 f4 => ?_
 have g3 : s4.get b3 = some (tC 0) := f4.1
 have hKf4 : Kf K b3 s4.next := by
  intro F a b hF hf hk
  refine hK F a b (fun g hg => ?_) hf hk
  have := f1.next
  rcases hF g hg with h | h <;> omega
 have hcp := (Dl t 0).1 (by omega)
 have hput := KR (Ko := T0) hKf4 (m := []) IL rfl (fun x t h => by cases h) (fun x t h => by cases h) (cq t)
 rw [show pm [] = ze from funext fun t => funext fun c => Dk t c] at hput
 obtain ⟨v5, s5, hcall5, nm5, rw5, G5, rfl, hMT, hGn, hc5, hf5⟩ := hput t 0 nm rw s4 (Nat.le_refl _) (KD hvl) hR f2 (hkk s4 f1) (Nat.le_refl _) g3 (by rw [hcp]; simp only; omega)
 rw [hcp] at hMT hc5
 simp only at hMT hc5
 have hoM := hMT.one
 have hU5 : UV (hQ t []) o' v s5 := qj UV.stb hf5 (fun g hg h => by simp at h; exact Tu f3.2 g3 g hg h) f3.2
 refine .inl ⟨[.int .i64 (((0 + cq t : Nat) : Nat) : Int), nm5, rw5], _, s5, o'.toList ++ G5, fun s => UV (hQ t []) o' v s ∧ MT T0 G5 t nm5 rw5 s, inferInstance, rfl, by simp [au, hoM.1, hoM.2, eA], hcall5, hf5.mono (by simp [eI]; exact .inl rfl), ⟨hc5, trivial⟩,
  cZ UV.stb MT.stb, ⟨hU5, hMT⟩, fun g hg => ?_, ?_⟩
 ·rcases List.mem_append.1 hg with hg | hg
  ·exact ⟨ja hU5 (hf5.wf f2) g hg, .inl (by simpa using hg)⟩
  ·exact ⟨hMT.2 g hg, .inr (hGn g hg)⟩
 refine ak fun s6 h1 h2 h3 h4 => ⟨_, _, rfl, v, nm5, rw5, G5, o', rfl, ⟨h3.1, h3.2, hby, by omega⟩, fun g hg => ?_, h1⟩
 rcases List.mem_append.1 hg with hg | hg
 ·exact Nat.le_trans f1.next (hGn g hg)
 ·exact Nat.le_trans k1.next (hX' g hg)
theorem ti (hK : Kn K n) {vs : List (List Nat)} {t : Ty} {vr nm rw : V} {s : S} (hn : n ≤ s.next) (hR : DX K vs t vr nm rw) (hv : fR t = true) (hw : WF s) (hG : cd s) (hk : K s) :
 Cw aq 47 [.agg [vr, nm, rw]] s fun v s' => v = .bool (decide (vs.length = (hQ t []).length)) ∧ Fw [] s s' := by
 have ho := hR.ty.one
 have hov := hR.vars.row.one
 have hsz := (bF hv).1
 refine ay (aI (C := rZ) (e := ⟨[vr, nm, rw], []⟩) (F := []) (bE rfl rfl rfl) Tryz.func47 rfl (by kernel_rfl) Cf rfl ⟨rfl, by simp [au, ho.1, ho.2, hov], rfl⟩ rfl hw rfl (by simp) trivial am trivial (by simp) ?_)
 refine aN fun b1 hb1 hd1 => ?_
 refine fy am DF fun s1 k1 k2 k3 k4 => ?_
 obtain ⟨v, s2, hcall, o', hU, hX, hby, hf⟩ := Bm hK (cq t) t [] nm rw .nilslice none s1 (Nat.le_refl _) hR.ty k2 (hG.keep k1.ro) (hK.still _ _ k1 hk) (Nat.le_trans hn k1.next) (fun X hX => by cases hX) (UV.nil _) (by simp) (by simp only [List.length_nil]; omega)
 have hl := iS t []
 simp only [List.length_nil] at hl
 refine ⟨[v], _, s2, o'.toList, UV (hQ t []) o' v, inferInstance, rfl, by simp [au, hU.one], hcall, hf, UV.stb, fun s hw h => ja h hw, hU, fun g hg => ?_, ?_⟩
 ·cases o' with
  | none => simp at hg
  | some X =>
   simp at hg; subst hg
   rcases hX g rfl with h | h
   ·cases h
   ·exact h
 refine bT rfl (fun s1 _ _ => hR.vars.len s1) rfl ?_
 refine bT rfl (fun s1 _ _ => (UV.txs hU (by omega) hby).len s1) rfl ?_
 refine cQ rfl rfl rfl ?_
 exact ak fun s1 h1 h2 h3 h4 => ⟨_, _, rfl, by show V.bool _ = V.bool _; congr 1; exact decide_eq_decide.2 (by omega), h1⟩
theorem xC (hK : Kn K n) {vs : List (List Nat)} {t : Ty} {vr nm rw : V} {s : S} (hn : n ≤ s.next) (hR : DX K vs t vr nm rw) (hw : WF s) (hG : cd s) (hk : K s) :
 Cw aq 49 [.agg [vr, nm, rw]] s fun v s' => v = .bool (gj vs t) ∧ Fw [] s s' := by
 have ho := hR.ty.one
 have hov := hR.vars.row.one
 refine ay (aI (C := uA) (e := ⟨[vr, nm, rw], []⟩) (F := []) (bE rfl rfl rfl) Tryz.func49 rfl (by kernel_rfl) Fd rfl ⟨rfl, by simp [au, ho.1, ho.2, hov], rfl⟩ rfl hw rfl (by simp) trivial am trivial (by simp) ?_)
 refine aN fun b1 hb1 hd1 => ?_
 refine aj (.int .i64 (if eE vs t = true then 0 else 32)) (fun _ a b _ _ => xD hK (Nat.le_trans hn a.next) hR b (hG.keep a.ro) (hK.still _ _ a hk)) rfl rfl ?_
 refine cQ rfl rfl rfl ?_
 refine aP rfl (fun c1 => ?_) (fun c1 => ?_)
 ·have hs : eE vs t = true := by
   cases hs : eE vs t with
   | true => rfl
   | false => rw [hs] at c1; exact absurd c1 (by decide)
  have hv := oS hs
  have hsz := (bF hv).1
  have hsm := qQ t [] (bF hv).2.2
  refine fy am DF fun s1 k1 k2 k3 k4 => ?_
  obtain ⟨v, s2, hcall, o', hU, hX, hby, hf⟩ := rV hK (cq t) t [] nm rw .nilslice none s1 (Nat.le_refl _) hR.ty k2 (hG.keep k1.ro) (hK.still _ _ k1 hk) (Nat.le_trans hn k1.next) (fun X hX => by cases hX) (UV.nil _) (by simp) (by simp only [List.length_nil]; omega)
  rw [← hsm] at hU hby
  have hl := iS t []
  simp only [List.length_nil] at hl
  refine ⟨[v], _, s2, o'.toList, UV (hQ t []) o' v, inferInstance, rfl, by simp [au, hU.one], hcall, hf, UV.stb, fun s hw h => ja h hw, hU, fun g hg => ?_, ?_⟩
  ·cases o' with
   | none => simp at hg
   | some X =>
    simp at hg; subst hg
    rcases hX g rfl with h | h
    ·cases h
    ·exact h
  refine bT rfl (fun s1 _ _ => hR.vars.len s1) rfl ?_
  refine bT rfl (fun s1 _ _ => (UV.txs hU (by omega) hby).len s1) rfl ?_
  refine cQ rfl rfl rfl ?_
  exact ak fun s1 h1 h2 h3 h4 => ⟨_, _, rfl, by show V.bool _ = V.bool _; unfold gj; rw [hs, Bool.true_and]; congr 1; exact decide_eq_decide.2 (by omega), h1⟩
 ·have hs : eE vs t = false := by
   cases hs : eE vs t with
   | true => rw [hs] at c1; exact absurd rfl c1
   | false => rfl
  exact ak fun s1 h1 h2 h3 h4 => ⟨_, _, rfl, by unfold gj; rw [hs, Bool.false_and]; rfl, h1⟩
theorem AZ {G : List Nat} {l : List (List Nat × Ty)} {o : Option Nat} {v : V} : Bl (G ++ o.toList) (BM K G l o v) := fun _ hw h => h.blk hw
theorem wW (hK : Kn K n) {vs : List (List Nat)} {t u : Ty} {vr nm rw nm' rw' : V} {s : S} (hn : n ≤ s.next) (hR : DX K vs t vr nm rw) (hR' : ff K u nm' rw') (hw : WF s) (hG : cd s) (hk : K s) :
 Cw aq 27 [.agg [vr, nm, rw], .agg [nm', rw']] s fun v s' => v = .bool (vo vs t u).isSome ∧ Fw [] s s' := by
 have ho := hR.ty.one
 have hov := hR.vars.row.one
 have ho' := hR'.one
 refine ay (aI (C := pR) (e := ⟨[vr, nm, rw, nm', rw'], []⟩) (F := []) (bE rfl rfl rfl) Tryz.func27 rfl (by kernel_rfl) yH rfl ⟨rfl, by simp [au, ho.1, ho.2, ho'.1, ho'.2, hov], rfl⟩ rfl hw rfl (by simp) trivial am trivial (by simp) ?_)
 refine aN fun b1 hb1 hd1 => ?_
 refine aN fun b2 hb2 hd2 => ?_
 refine fy am DF fun s1 k1 k2 k3 k4 => ?_
 obtain ⟨v, s2, hcall, G, o, lv, rfl, hB, hG2, hf⟩ := Lh hK (Nat.le_trans hn k1.next) hR hR' k2 (hG.keep k1.ro) (hK.still _ _ k1 hk)
 refine ⟨[lv, .bool (vo vs t u).isSome], _, s2, _, _, inferInstance, rfl, by simp [au, hB.one]; rfl, hcall, hf, BM.stb, AZ, hB, hG2, ?_⟩
 exact ak fun s1 h1 h2 h3 h4 => ⟨_, _, rfl, rfl, h1⟩
def rC (vs : List (List Nat)) (t : Ty) (us : List (List Nat)) (u : Ty) : Bool := gj vs t && gj us u && (vo vs t u).isSome
theorem Na (hK : Kn K n) {vs us : List (List Nat)} {t u : Ty} {vr nm rw vr' nm' rw' : V} {s : S} (hn : n ≤ s.next) (hR : DX K vs t vr nm rw) (hR' : DX K us u vr' nm' rw') (hw : WF s) (hG : cd s) (hk : K s) :
 Cw aq 28 [.agg [vr, nm, rw], .agg [vr', nm', rw']] s fun v s' => v = .bool (rC vs t us u) ∧ Fw [] s s' := by
 have ho := hR.ty.one
 have hov := hR.vars.row.one
 have ho' := hR'.ty.one
 have hov' := hR'.vars.row.one
 have hkk : ∀ s1, Fw [] s s1 → K s1 := fun s1 h1 => hK.still _ _ h1 hk
 refine ay (aI (C := sf) (e := ⟨[vr, nm, rw, vr', nm', rw'], []⟩) (F := []) (bE rfl rfl rfl) Tryz.func28 rfl (by kernel_rfl) Ci rfl ⟨rfl, by simp [au, ho.1, ho.2, ho'.1, ho'.2, hov, hov'], rfl⟩ rfl hw rfl (by simp) trivial am trivial (by simp) ?_)
 have no : ∀ {s1 : S}, Fw [] s s1 → rC vs t us u = false → (sq fun v s' => v = .bool (rC vs t us u) ∧ Fw [] s s') ⟨.returned (.bool false), none, s1⟩ := fun {s1} h1 h => ⟨_, _, rfl, by rw [h], h1⟩
 refine aN fun b1 hb1 hd1 => ?_
 refine aN fun b2 hb2 hd2 => ?_
 refine aj (.bool (eE vs t)) (fun a b c _ _ => oZ hK (Nat.le_trans hn b.next) hR c (hG.keep b.ro) (hkk a b)) rfl rfl ?_
 refine aB rfl (fun c1 => ?_) (fun c1 => ?_)
 ·refine aj (.bool (eE us u)) (fun a b c _ _ => oZ hK (Nat.le_trans hn b.next) hR' c (hG.keep b.ro) (hkk a b)) rfl rfl ?_
  refine aB rfl (fun c2 => ?_) (fun c2 => ?_)
  ·refine aj (.bool (decide (vs.length = (hQ t []).length))) (fun a b c _ _ => ti hK (Nat.le_trans hn b.next) hR (oS c1) c (hG.keep b.ro) (hkk a b)) rfl rfl ?_
   refine aB rfl (fun c3 => ?_) (fun c3 => ?_)
   ·refine aj (.bool (decide (us.length = (hQ u []).length))) (fun a b c _ _ => ti hK (Nat.le_trans hn b.next) hR' (oS c2) c (hG.keep b.ro) (hkk a b)) rfl rfl ?_
    refine aB rfl (fun c4 => ?_) (fun c4 => ?_)
    ·refine aj (.bool (vo vs t u).isSome) (fun a b c _ _ => wW hK (Nat.le_trans hn b.next) hR hR'.ty c (hG.keep b.ro) (hkk a b)) rfl rfl ?_
     exact ak fun s1 h1 h2 h3 h4 => ⟨_, _, rfl, by unfold rC gj; rw [c1, c2, c3, c4]; simp only [Bool.true_and]; rfl, h1⟩
    ·exact ak fun s1 h1 h2 h3 h4 => no h1 (by unfold rC gj; rw [c4]; simp)
   ·exact ak fun s1 h1 h2 h3 h4 => no h1 (by unfold rC gj; rw [c3]; simp)
  ·exact ak fun s1 h1 h2 h3 h4 => no h1 (by unfold rC gj; rw [c2]; simp)
 ·exact ak fun s1 h1 h2 h3 h4 => no h1 (by unfold rC gj; rw [c1]; simp)
theorem MZ (hK : Kn K n) {vs us : List (List Nat)} {t u : Ty} {vr nm rw vr' nm' rw' : V} {s : S} (hn : n ≤ s.next) (hR : DX K vs t vr nm rw) (hR' : DX K us u vr' nm' rw') (hw : WF s) (hG : cd s) (hk : K s) :
 Cw aq 29 [.agg [vr, nm, rw], .agg [vr', nm', rw']] s fun v s' => v = .bool (rC vs t us u) ∧ Fw [] s s' := by
 have ho := hR.ty.one
 have hov := hR.vars.row.one
 have ho' := hR'.ty.one
 have hov' := hR'.vars.row.one
 have hkk : ∀ s1, Fw [] s s1 → K s1 := fun s1 h1 => hK.still _ _ h1 hk
 refine ay (aI (C := se) (e := ⟨[vr, nm, rw, vr', nm', rw'], []⟩) (F := []) (bE rfl rfl rfl) Tryz.func29 rfl (by kernel_rfl) Ch rfl ⟨rfl, by simp [au, ho.1, ho.2, ho'.1, ho'.2, hov, hov'], rfl⟩ rfl hw rfl (by simp) trivial am trivial (by simp) ?_)
 have key : ∀ (q : Bool) (b1 b2 : Nat) (L : List bS), (q = false ↔ gj vs t = true ∧ gj us u = true) → ai aq [] s (sq fun v s' => v = .bool (rC vs t us u) ∧ Fw [] s s') lr ⟨[.bool q, vr, nm, rw, vr', nm', rw'], [b1, b2]⟩ [] T0 L := by
  intro q b1 b2 L hq
  refine aB rfl (fun c1 => ?_) (fun c1 => ?_)
  ·refine ak fun s1 h1 h2 h3 h4 => ⟨_, _, rfl, ?_, h1⟩
   have : (gj vs t && gj us u) = false := by
    cases h : (gj vs t && gj us u) with
    | false => rfl
    | true =>
     simp only [Bool.and_eq_true] at h
     rw [hq.2 h] at c1; cases c1
   show V.bool false = _
   unfold rC; rw [this]; rfl
  ·obtain ⟨h5, h6⟩ := hq.1 c1
   refine fy am DF fun s1 k1 k2 k3 k4 => ?_
   obtain ⟨v, s2, hcall, G, o, lv, rfl, hB, hG2, hf⟩ := Lg hK (Nat.le_trans hn k1.next) hR hR'.ty k2 (hG.keep k1.ro) (hkk s1 k1)
   refine ⟨[lv, .bool (vo vs t u).isSome], _, s2, _, _, inferInstance, rfl, by simp [au, hB.one]; rfl, hcall, hf, BM.stb, AZ, hB, hG2, ?_⟩
   exact ak fun s1 h1 h2 h3 h4 => ⟨_, _, rfl, by unfold rC; rw [h5, h6]; rfl, h1⟩
 refine aN fun b1 hb1 hd1 => ?_
 refine aN fun b2 hb2 hd2 => ?_
 refine aj (.bool (gj vs t)) (fun a b c _ _ => xC hK (Nat.le_trans hn b.next) hR c (hG.keep b.ro) (hkk a b)) rfl rfl ?_
 refine dR rfl rfl ?_
 refine aB rfl (fun c1 => ?_) (fun c1 => ?_)
 ·have h5 : gj vs t = false := by simpa using c1
  exact aK (key true _ _ _ ⟨fun h => (by cases h), fun h => by rw [h5] at h; cases h.1⟩)
 ·have h5 : gj vs t = true := by simpa using c1
  refine aj (.bool (gj us u)) (fun a b c _ _ => xC hK (Nat.le_trans hn b.next) hR' c (hG.keep b.ro) (hkk a b)) rfl rfl ?_
  refine dR rfl rfl ?_
  exact aK (key _ _ _ _ ⟨fun h => ⟨h5, by simpa using h⟩, fun h => by rw [h.2]; rfl⟩)
end
def nX : List (List Nat) → Nat → List (List Nat × Ty)
 | [], _ => []
 | x :: r, i => (x, .mk (qM i) []) :: nX r (i + 1)
def yq : Nat → List (List Nat)
 | 0 => []
 | n + 1 => yq n ++ [qM n]
theorem rn : ∀ n, (yq n).length = n
 | 0 => rfl
 | n + 1 => by simp only [yq, List.length_append, rn n, List.length_cons, List.length_nil]
theorem wq (x : List Nat) : ∀ (l : List (List Nat)) (k : Nat), nX (l ++ [x]) k = nX l k ++ [(x, .mk (qM (k + l.length)) [])]
 | [], k => rfl
 | y :: r, k => by
  simp only [List.cons_append, nX, wq x r (k + 1), List.length_cons]
  rw [show k + 1 + r.length = k + (r.length + 1) by omega]
theorem Cn : ∀ (l : List (List Nat)) (k : Nat), yr (nX l k) = l
 | [], _ => rfl
 | x :: r, k => by simp only [nX, List.map_cons, Cn r (k + 1)]
theorem KM (l : List (List Nat)) (k : Nat) : (nX l k).length = l.length := by
 have := congrArg List.length (Cn l k)
 rwa [List.length_map] at this
theorem Iz {x : List Nat} {t : Ty} : ∀ {l : List (List Nat)} {k : Nat}, fI x (nX l k) = some t → ∃ i, k ≤ i ∧ i < k + l.length ∧ t = .mk (qM i) []
 | [], k, h => by cases h
 | y :: r, k, h => by
  simp only [nX, fI] at h
  split at h
  ·cases h; exact ⟨k, Nat.le_refl _, by simp, rfl⟩
  ·obtain ⟨i, h1, h2, h3⟩ := Iz h
   exact ⟨i, by omega, by simp only [List.length_cons]; omega, h3⟩
theorem Au : ∀ (f n : Nat), Bytes (PU f n)
 | 0, n => fun z hz => by simp [PU] at hz
 | f + 1, n => fun z hz => by
  simp only [PU] at hz
  split at hz
  ·simp at hz
  ·rcases List.mem_append.1 hz with h | h
   ·exact Au f _ z h
   ·simp at h; omega
theorem oV (k : Nat) : Bytes (qM k) := fun z hz => by
 unfold qM at hz
 rcases List.mem_append.1 hz with h | h
 ·simp at h; omega
 ·split at h
  ·exact Au 2 _ z h
  ·simp at h
theorem Lb (k : Nat) : (qM k).length ≤ 4 := by
 have := vE 2 (k / 26)
 unfold qM
 split
 ·unfold dg; simp only [List.length_append, List.length_cons, List.length_nil]; omega
 ·simp
theorem Pj : ∀ k, k < 2002 → bo (qM k) = 4 := by decide +kernel
theorem Rc {x : List Nat} (h : bo x = 4) : fR (.mk x []) = true := by
 have h1 : x ≠ [45, 62] := fun e => by rw [e, wU] at h; cases h
 have h2 : x ≠ [44] := fun e => by rw [e, wT] at h; cases h
 have h3 : x ≠ [73, 110, 116] := fun e => by rw [e, FH] at h; cases h
 simp [fR, cq, cG, dp, Dd, qN, iM, dI, h1, h2, h3, h]
mutual
theorem NX : ∀ (t : Ty) (acc : List (List Nat)), acc.Nodup → (hQ t acc).Nodup
 | .mk name args, acc, h => by
  simp only [hQ]
  refine Kz args _ ?_
  split
  ·rename_i hh
   rw [List.nodup_append]
   exact ⟨h, by simp, fun x hx y hy e => by simp at hy; subst hy; subst e; exact hh.2 hx⟩
  ·exact h
theorem Kz : ∀ (l : List Ty) (acc : List (List Nat)), acc.Nodup → (jW l acc).Nodup
 | [], acc, h => by simpa only [jW] using h
 | t :: r, acc, h => by simp only [jW]; exact Kz r _ (NX t acc h)
end
theorem OQ {t : Ty} (hv : fR t = true) : WY (nX (hQ t []) 0) := fun k x h => by
 obtain ⟨i, h1, h2, rfl⟩ := Iz h
 have hl := iS t []
 have hs := (bF hv).1
 simp only [List.length_nil] at hl
 refine ⟨nC t [] (fun x hx => by cases hx) k ?_, Rc (Pj i (by omega))⟩
 rw [← Cn (hQ t []) 0]
 by_cases hk : k ∈ yr (nX (hQ t []) 0)
 ·exact hk
 ·rw [oY.2 hk] at h; cases h
theorem Iy {l : List (List Nat)} {k : Nat} {x : List Nat} {t : Ty} (h : fI x (nX l k) = some t) : cq t ≤ 1 := by
 obtain ⟨i, h1, h2, rfl⟩ := Iz h
 simp [cq, cG]
theorem vO {D : List Nat} {U : S → Prop} (hst : kz D U) (hbl : Bl D U) {l : List (List Nat)} {o : Option Nat} {v : V} {s : S} (hU : U s) (h : UV l o v s) (hw : WF s) {b : Nat} {x : List Nat} (hb : s.get b = some (.cells 9 false 1 [⟨0, 0, [.str x]⟩])) (hl : l.length ≤ 999999) (hd : ∀ g ∈ D, o ≠ some g) :
 ∃ v' s' X, yp.run Tryz.prog s (.bif .append #[22, 22] [v, .slice ⟨b, 0, 0⟩ 0 1 (some 1) 1]) = some (v', s') ∧ U s' ∧ UV (l ++ [x]) (some X) v' s' ∧ Fw o.toList s s' ∧ (∀ g ∈ D, g < s'.next) ∧ X < s'.next ∧ (o = some X ∨ s.next ≤ X) ∧ ∀ g ∈ D, some X ≠ some g := by
 obtain ⟨v', s', X, h1, h2, h3, h4, h5⟩ := h.app hw hb hl
 refine ⟨v', s', X, h1, qj hst h3 (fun g hg h => ?_) hU, h2, h3, fun g hg => Nat.lt_of_lt_of_le (hbl s hw hU g hg) h3.next, h4, h5, fun g hg e => ?_⟩
 ·have := hd g hg
  cases o with
  | none => simp at h
  | some Y => simp at h; subst h; exact this rfl
 ·cases e
  rcases h5 with h5 | h5
  ·exact hd X hg h5
  ·have := hbl s hw hU X hg; omega
theorem JN {K : S → Prop} {D : List Nat} {U : S → Prop} (hst : kz D U) (hbl : Bl D U) {l : List (List Nat × Ty)} {o : Option Nat} {v : V} {s : S} (hU : U s) (h : BL K l o v s) (hw : WF s) {b : Nat} {x : List Nat} {t : Ty} {nm rw : V} (hb : s.get b = some (.cells 56 false 1 [⟨0, 0, [.str x, nm, rw]⟩])) (hx : Bytes x) (hxl : x.length < 4611686018427387904) (ht : ff K t nm rw) (hl : l.length ≤ 999999) (hd : ∀ g ∈ D, o ≠ some g) :
 ∃ v' s' X, yp.run Tryz.prog s (.bif .append #[36, 36] [v, .slice ⟨b, 0, 0⟩ 0 1 (some 1) 3]) = some (v', s') ∧ U s' ∧ BL K (l ++ [(x, t)]) (some X) v' s' ∧ Fw o.toList s s' ∧ (∀ g ∈ D, g < s'.next) ∧ X < s'.next ∧ (o = some X ∨ s.next ≤ X) ∧ ∀ g ∈ D, some X ≠ some g := by
 obtain ⟨v', s', X, h1, h2, h3, h4, h5⟩ := h.app hw hb hx hxl ht hl
 refine ⟨v', s', X, h1, qj hst h3 (fun g hg h => ?_) hU, h2, h3, fun g hg => Nat.lt_of_lt_of_le (hbl s hw hU g hg) h3.next, h4, h5, fun g hg e => ?_⟩
 ·have := hd g hg
  cases o with
  | none => simp at h
  | some Y => simp at h; subst h; exact this rfl
 ·cases e
  rcases h5 with h5 | h5
  ·exact hd X hg h5
  ·have := hbl s hw hU X hg; omega
theorem Po {mm : Nat} {M : List (List Nat × V)} : Bl [mm] fun s => MP s mm M := fun s hw h g hg => by simp at hg; subst hg; exact hw _ _ h
theorem nD {l : List (List Nat)} {o : Option Nat} {v : V} : Bl o.toList (UV l o v) := fun _ hw h => ja h hw
theorem IG {o : Option Nat} {a b : Nat} (h : ∀ X, o = some X → (none : Option Nat) = some X ∨ a ≤ X) (hab : b ≤ a) : ∀ g ∈ o.toList, b ≤ g := fun g hg => by
 cases o with
 | none => simp at hg
 | some X =>
  simp at hg; subst hg
  rcases h g rfl with h | h
  ·cases h
  ·omega
section
variable {K : S → Prop} {n : Nat}
def WN (s : S) (mm : Nat) (v : V) (ins : List (List Nat)) (o1 : Option Nat) (nm rw : V) (b1 b2 b3 : Nat) (j : Nat) : bS := fun vs bs D U => ∃ (i : Nat) (M : List (List Nat × V)) (o2 : Option Nat) (v2 : V), i ≤ ins.length ∧ j = ins.length - i ∧
 vs = [.map mm, v, .int .i64 ((ins.length : Nat) : Int), .int .i64 ((i : Nat) : Int), nm, rw, .nilslice, .str [], .nilslice, v2, .str [], .nilslice] ∧ bs = [b1, b2, b3] ∧ D = ([mm] ++ o1.toList) ++ o2.toList ∧ U = (fun s => (MP s mm M ∧ UV ins o1 v s) ∧ UV (yq i) o2 v2 s) ∧
 v2.one = true ∧ (∀ X, o2 = some X → s.next ≤ X) ∧ (∀ g ∈ [mm] ++ o1.toList, o2 ≠ some g) ∧ uZ T0 M (nX (ins.take i) 0) ∧ lY M
theorem OS (hK : Kn K n) {t : Ty} {nm rw : V} {s : S} (hn : n ≤ s.next) (hR : ff K t nm rw) (hv : fR t = true) (hw : WF s) (hG : cd s) (hk : K s) :
 Cw aq 48 [.agg [nm, rw]] s fun v s' => ∃ vr nm' rw' G o, v = .agg [vr, nm', rw'] ∧ MS T0 (yq (hQ t []).length) (sH (nX (hQ t []) 0) t) G o vr nm' rw' s' ∧ (∀ g ∈ G ++ o.toList, s.next ≤ g) ∧ Fw [] s s' := by
 have ho := hR.one
 have hkk : ∀ s1, Fw [] s s1 → K s1 := fun s1 h1 => hK.still _ _ h1 hk
 have hsz := (bF hv).1
 have hl := iS t []
 simp only [List.length_nil] at hl
 have hnd := NX t [] (by simp)
 have hok := OQ hv
 have hsb : cq (sH (nX (hQ t []) 0) t) ≤ cq t * 1 := OD (Nat.le_refl _) (fun x t' h => Iy h) t
 have hkd : ∀ x ∈ hQ t [], bo x = 4 := nC t [] (fun x hx => by cases hx)
 refine ay (aI (C := uo) (e := ⟨[nm, rw], []⟩) (F := []) (bE rfl rfl rfl) Tryz.func48 rfl (by kernel_rfl) ER rfl ⟨rfl, by simp [au, ho.1, ho.2], rfl⟩ rfl hw rfl (by simp) trivial am trivial (by simp) ?_)
 refine aN fun b1 hb1 hd1 => ?_
 refine aN fun b2 hb2 hd2 => ?_
 refine gT fun s3 j1 j2 j3 j4 => ?_
 have hal := Fw.alloc [] j2 (.map [] 0)
 refine ⟨[.map s3.next], _, s3.alloc (.map [] 0), [s3.next], fun s => MP s s3.next [], inferInstance, rfl, rfl, rfl, hal.mono (by simp), gH, cy _ _, fun g hg => ?_, ?_⟩
 ·simp at hg; subst hg; rw [S.next_alloc]; exact ⟨by omega, .inr (Nat.le_refl _)⟩
 have hmn : s.next ≤ s3.next := j1.next
 generalize s3.next = mm at hmn
 refine aN fun b3 hb3 hd3 => ?_
 refine fy gH Po fun s1 k1 k2 k3 k4 => ?_
 obtain ⟨v, s2, hcall, o1, hU, hX, hby, hf⟩ := Bm hK (cq t) t [] nm rw .nilslice none s1 (Nat.le_refl _) hR k2 (hG.keep k1.ro) (hkk s1 k1) (Nat.le_trans hn k1.next) (fun X hX => by cases hX) (UV.nil _) (by simp) (by simp only [List.length_nil]; omega)
 refine ⟨[v], _, s2, o1.toList, UV (hQ t []) o1 v, inferInstance, rfl, by simp [au, hU.one], hcall, hf, UV.stb, nD, hU, IG hX (Nat.le_refl _), ?_⟩
 generalize hins : hQ t [] = ins at *
 have htx := UV.txs hU (by omega) hby
 refine bT rfl (fun s1 _ _ => htx.len s1) rfl ?_
 refine fv (WN s mm v ins o1 nm rw b1 b2 b3) ins.length ⟨0, [], none, .nilslice, by omega, rfl, rfl, rfl, by simp, funext fun s => propext ⟨fun h => ⟨h, UV.nil s⟩, fun h => h.1⟩, rfl, (fun X h => by cases h), (fun g hg h => by cases h), trivial, (fun p hp => by cases hp)⟩ (cZ gH UV.stb) ?_
 rintro j _ _ _ _ ⟨i, M, o2, v2, hi, rfl, rfl, rfl, rfl, rfl, hone2, hX2, hd2, hM, hkm⟩ - - -
 have hst := cZ (@gH mm M) (@UV.stb ins o1 v)
 have hbl := ju (@Po mm M) (@nD ins o1 v)
 refine cP rfl rfl rfl ?_
 refine aP rfl (fun c1 => ?_) (fun c1 => ?_)
 ·obtain ⟨x, hx, hd⟩ := bM (show i < ins.length by omega)
  have hxb := hby x (List.mem_of_getElem? hx)
  obtain ⟨p, hp, hld⟩ := htx.at hx
  refine ao (.ptr p) rfl (fun _ _ _ _ _ => hp) rfl ?_
  refine ao (.str x) rfl (fun a _ _ b _ => hld a (b rfl).1.2) rfl ?_
  refine aj (.str (qM i)) (fun _ _ a _ _ => Pl (by omega) a) rfl rfl ?_
  refine gT fun s4 q1 q2 q3 q4 => ?_
  obtain ⟨s5, hrun, hmp, hf5, hml2⟩ := MP.upd q3.1.1 q2 hkm hxb (.agg [.str (qM i), .nilslice]) Tryz.underlying78
  have hnew : ir x (.agg [.str (qM i), .nilslice]) M = M ++ [(x, .agg [.str (qM i), .nilslice])] := by
   refine rq _ ?_
   rcases hM.get x with ⟨t', nm', rw', h1, h2, h3⟩ | ⟨h1, h2⟩
   ·have := Ps.1 (show (fI x (nX (ins.take i) 0)).isSome = true by rw [h2]; rfl)
    exact absurd ((Cn (ins.take i) 0) ▸ this) (Lc hnd hx)
   ·exact h1
  have htk : ins.take (i + 1) = ins.take i ++ [x] := by rw [List.take_add_one, hx]; rfl
  have hM2 : uZ T0 (ir x (.agg [.str (qM i), .nilslice]) M) (nX (ins.take (i + 1)) 0) := by
   rw [hnew, htk, wq, Nat.zero_add, List.length_take, Nat.min_eq_left hi]
   refine uZ.snoc ?_ hM
   simp only [ff]
   exact ⟨trivial, oV i, by have := Lb i; omega, [], .nil, by simp only [ea]⟩
  have hkm2 := hkm.set hxb (.agg [.str (qM i), .nilslice])
  have hU1 : UV ins o1 v s5 := qj UV.stb hf5 (fun g hg h => by
   simp at h; subst h
   cases o1 with
   | none => simp at hg
   | some X => simp at hg; subst hg; exact NY q3.1.2 q3.1.1 rfl) q3.1.2
  have hU2 : UV (yq i) o2 v2 s5 := qj UV.stb hf5 (fun g hg h => by
   simp at h; subst h
   cases o2 with
   | none => simp at hg
   | some X => simp at hg; subst hg; exact NY q3.2 q3.1.1 rfl) q3.2
  generalize ir x (.agg [.str (qM i), .nilslice]) M = M2 at hmp hM2 hkm2
  have hst2 := cZ (@gH mm M2) (@UV.stb ins o1 v)
  have hbl2 := ju (@Po mm M2) (@nD ins o1 v)
  refine ⟨[], _, s5, ([mm] ++ o1.toList) ++ o2.toList, fun s => (MP s mm M2 ∧ UV ins o1 v s) ∧ UV (yq i) o2 v2 s, inferInstance, rfl, rfl, hrun, hf5.mono (by simp), cZ hst2 UV.stb, ⟨⟨hmp, hU1⟩, hU2⟩, fun g hg => ⟨ju hbl2 nD s5 (hf5.wf q2) ⟨⟨hmp, hU1⟩, hU2⟩ g hg, .inl hg⟩, ?_⟩
  refine aj (.str (qM i)) (fun _ _ a _ _ => Pl (by omega) a) rfl rfl ?_
  refine aN fun b4 hb4 hd4 => ?_
  refine gT fun s6 r1 r2 r3 r4 => ?_
  obtain ⟨v', s7, X, hrun7, hU7, hV7, hf7, hD7, hX7, hXo, hXn⟩ := vO hst2 hbl2 r3.1 r3.2 r2 (b := b4) r4.1 (by rw [rn]; omega) hd2
  refine ⟨[v'], _, s7, ([mm] ++ o1.toList) ++ [X], fun s => (MP s mm M2 ∧ UV ins o1 v s) ∧ UV (yq i ++ [qM i]) (some X) v' s, inferInstance, rfl, by simp [au, hV7.one], hrun7, hf7.mono (by intro g hg; exact List.mem_append_right _ hg), cZ hst2 UV.stb, ⟨hU7, hV7⟩, fun g hg => ?_, ?_⟩
  ·rcases List.mem_append.1 hg with hg | hg
   ·exact ⟨hD7 g hg, .inl (List.mem_append_left _ hg)⟩
   ·simp at hg; subst hg
    refine ⟨hX7, ?_⟩
    rcases hXo with h | h
    ·exact .inl (by simp [h])
    ·exact .inr h
  refine br (r := ((i + 1 : Nat) : Int)) rfl rfl (wI (by omega)) rfl ?_
  refine fx rfl (cZ hst2 UV.stb) ⟨ins.length - (i + 1), by omega, i + 1, M2, some X, v', by omega, rfl, rfl, rfl, rfl, rfl, hV7.one, fun Y hY => ?_, hXn, hM2, hkm2⟩
  cases hY
  rcases hXo with h | h
  ·exact hX2 X h
  ·exact Nat.le_trans r1.next h
 ·have hil : i = ins.length := by omega
  subst hil
  rw [List.take_length] at hM
  refine aN fun b5 hb5 hd5 => ?_
  refine cU fun s6 f1 f2 f3 f4 => ?_
  have g5 : s6.get b5 = some (tC 0) := f4.1
  have hdl := ju hbl nD s6 f2 f3
  have hml : mm < s6.next := hdl mm (by simp)
  have hmb : mm ≠ b5 := fun h => hd5 (by subst h; simp)
  have hKf : Kf (fun s => K s ∧ MP s mm M) b5 s6.next := by
   intro F a b hF hf hk
   refine ⟨hK F a b (fun g hg => ?_) hf hk.1, hf.keep mm _ (fun h => ?_) hk.2⟩
   ·have := f1.next
    rcases hF g hg with h | h <;> omega
   ·rcases hF mm h with h | h
    ·exact hmb h
    ·omega
  have hpl := (IC (m := nX ins 0) t 0).1 (by omega)
  have hnil : ∀ x t', fI x (nX ins 0) = some t' → ∀ N, QE 44 ze .nilmap (fun s => K s ∧ MP s mm M) T0 b5 s6.next N := fun x t' hx N => by
   have := KR (Ko := T0) hKf IL rfl (m := []) (fun x t h => by cases h) (fun x t h => by cases h) N
   rw [show (ze : Ty → Nat → Ty × Nat) = pm [] from funext fun t => funext fun c => (Dk t c).symm]
   exact this
  obtain ⟨v6, s7, hcall7, nm7, rw7, G, rfl, hMT, hGn, hc7, hf7⟩ := KR (Ko := T0) hKf ((hM.mono fun _ _ => trivial).lk hkm fun s h => ⟨trivial, h.2⟩) rfl (fun x t' hx => by have := Iy hx; omega) hnil (cq t) t 0 nm rw s6 (Nat.le_refl _) (KD hv) (hR.mono fun _ h => h.1) f2 ⟨hkk s6 f1, f3.1.1⟩ (Nat.le_refl _) g5 (by rw [hpl]; simp only; omega)
  rw [hpl] at hMT hc7
  simp only at hMT hc7
  have hoM := hMT.one
  have hV7 : UV (yq ins.length) o2 v2 s7 := qj UV.stb hf7 (fun g hg h => by simp at h; subst h; exact hd5 (List.mem_append_right _ hg)) f3.2
  refine .inl ⟨[.int .i64 (((0 + cq (sH (nX ins 0) t) : Nat) : Nat) : Int), nm7, rw7], _, s7, o2.toList ++ G, fun s => UV (yq ins.length) o2 v2 s ∧ MT T0 G (sH (nX ins 0) t) nm7 rw7 s, inferInstance, rfl, by simp [au, hoM.1, hoM.2, eA], hcall7, hf7.mono (by simp [eI]; exact .inl rfl), ⟨hc7, trivial⟩,
   cZ UV.stb MT.stb, ⟨hV7, hMT⟩, fun g hg => ?_, ?_⟩
  ·rcases List.mem_append.1 hg with hg | hg
   ·exact ⟨ja hV7 (hf7.wf f2) g hg, .inl (List.mem_append_right _ hg)⟩
   ·exact ⟨hMT.2 g hg, .inr (hGn g hg)⟩
  refine ak fun s8 h1 h2 h3 h4 => ⟨_, _, rfl, v2, nm7, rw7, G, o2, rfl, ⟨h3.1, h3.2, ?_, by rw [rn]; omega⟩, fun g hg => ?_, h1⟩
  ·intro x hx
   have : ∀ k, ∀ x ∈ yq k, Bytes x := by
    intro k
    induction k with
    | zero => intro x hx; cases hx
    | succ k ih =>
     intro x hx
     simp only [yq] at hx
     rcases List.mem_append.1 hx with h | h
     ·exact ih x h
     ·simp at h; subst h; exact oV k
   exact this _ x hx
  ·rcases List.mem_append.1 hg with hg | hg
   ·exact Nat.le_trans f1.next (hGn g hg)
   ·cases o2 with
    | none => simp at hg
    | some Y => simp at hg; subst hg; exact hX2 g rfl
end
def OO (vs : List (List Nat)) (t : Ty) : List (List Nat) := if gj vs t = true then yq (hQ t []).length else []
def OP (vs : List (List Nat)) (t : Ty) : Ty := if gj vs t = true then sH (nX (hQ t []) 0) t else .mk [] []
def MG (vs : List (List Nat)) (t : Ty) : Int := if eE vs t = true then (if gj vs t = true then 0 else 1) else 32
def XB (K : S → Prop) (vs : List (List Nat)) (t : Ty) (s : S) : dz → Prop := sq fun v s' => ∃ vr' nm' rw' G o, v = .tuple [.agg [vr', nm', rw'], .int .i64 (MG vs t)] ∧ MS K (OO vs t) (OP vs t) G o vr' nm' rw' s' ∧ (∀ g ∈ G ++ o.toList, s.next ≤ g) ∧ Fw [] s s'
theorem zR : ∀ (k : Nat), ∀ x ∈ yq k, Bytes x
 | 0, x, h => by cases h
 | k + 1, x, h => by
  simp only [yq] at h
  rcases List.mem_append.1 h with h | h
  ·exact zR k x h
  ·simp at h; subst h; exact oV k
theorem Cs {K : S → Prop} {vs : List (List Nat)} {t : Ty} {s s1 : S} {e : Int} (h1 : Fw [] s s1) (hc : gj vs t = false) (he : MG vs t = e) : XB K vs t s ⟨.returned (.tuple [.agg [.nilslice, .str [], .nilslice], .int .i64 e]), none, s1⟩ :=
 ⟨_, _, rfl, .nilslice, .str [], .nilslice, [], none, by rw [he], by unfold OO OP; rw [hc]; exact MS.none, by simp, h1⟩
section
variable {K : S → Prop} {n : Nat}
theorem OU (hK : Kn K n) {vs : List (List Nat)} {t : Ty} {vr nm rw : V} {s : S} (hn : n ≤ s.next) (hR : DX K vs t vr nm rw) (hw : WF s) (hG : cd s) (hk : K s) :
 Cw aq 21 [.agg [vr, nm, rw]] s fun v s' => ∃ vr' nm' rw' G o, v = .tuple [.agg [vr', nm', rw'], .int .i64 (MG vs t)] ∧ MS T0 (OO vs t) (OP vs t) G o vr' nm' rw' s' ∧ (∀ g ∈ G ++ o.toList, s.next ≤ g) ∧ Fw [] s s' := by
 have ho := hR.ty.one
 have hov := hR.vars.row.one
 have hkk : ∀ s1, Fw [] s s1 → K s1 := fun s1 h1 => hK.still _ _ h1 hk
 refine ay (aI (C := ur) (e := ⟨[vr, nm, rw], []⟩) (F := []) (bE rfl rfl rfl) Tryz.func21 rfl (by kernel_rfl) ET rfl ⟨rfl, by simp [au, ho.1, ho.2, hov], rfl⟩ rfl hw rfl (by simp) trivial am trivial (by simp) ?_)
 show ai aq [] s (XB T0 vs t s) _ _ _ _ _
 refine aN fun b1 hb1 hd1 => ?_
 refine aN fun b2 hb2 hd2 => ?_
 refine aj (.bool (eE vs t)) (fun a b c _ _ => oZ hK (Nat.le_trans hn b.next) hR c (hG.keep b.ro) (hkk a b)) rfl rfl ?_
 refine dR rfl rfl ?_
 refine aB rfl (fun c1 => ?_) (fun c1 => ?_)
 ·have hs : eE vs t = false := by simpa using c1
  exact ak fun s1 h1 h2 h3 h4 => Cs h1 (by unfold gj; rw [hs]; rfl) (by unfold MG; rw [hs]; rfl)
 have hs : eE vs t = true := by simpa using c1
 refine aj (.bool (decide (vs.length = (hQ t []).length))) (fun a b c _ _ => ti hK (Nat.le_trans hn b.next) hR (oS hs) c (hG.keep b.ro) (hkk a b)) rfl rfl ?_
 refine dR rfl rfl ?_
 have hcl : gj vs t = decide (vs.length = (hQ t []).length) := by unfold gj; rw [hs, Bool.true_and]
 rw [← hcl]
 refine aB rfl (fun c2 => ?_) (fun c2 => ?_)
 ·have hc : gj vs t = false := by simpa using c2
  exact ak fun s1 h1 h2 h3 h4 => Cs h1 hc (by unfold MG; rw [hs, hc]; rfl)
 have hc : gj vs t = true := by simpa using c2
 refine fy am DF fun s1 k1 k2 k3 k4 => ?_
 obtain ⟨v, s2, hcall, vr', nm', rw', G, o, rfl, hM, hG2, hf⟩ := OS hK (Nat.le_trans hn k1.next) hR.ty (oS hs) k2 (hG.keep k1.ro) (hkk s1 k1)
 have hoM := hM.one
 refine ⟨[vr', nm', rw'], _, s2, _, _, inferInstance, rfl, by simp [au, hoM.1, hoM.2.1, hoM.2.2], hcall, hf, MS.stb, MS.bl, hM, hG2, ?_⟩
 exact ak fun s3 h1 h2 h3 h4 => ⟨_, _, rfl, vr', nm', rw', G, o, by unfold MG; rw [hs, hc]; rfl, by unfold OO OP; rw [if_pos hc, if_pos hc]; exact h3.2, fun g hg => Nat.le_trans k1.next (hG2 g hg), h1⟩
def WM (K : S → Prop) (s : S) (v : V) (ins : List (List Nat)) (o1 : Option Nat) (vr nm rw : V) (b1 b2 b3 : Nat) (j : Nat) : bS := fun vs bs D U => ∃ (i : Nat) (o3 : Option Nat) (bv : V) (o2 : Option Nat) (v2 : V), i ≤ ins.length ∧ j = ins.length - i ∧
 vs = [v, bv, .int .i64 ((i : Nat) : Int), vr, nm, rw, .nilslice, .str [], .nilslice, v2, .str [], .nilslice] ∧ bs = [b1, b2, b3] ∧ D = (o1.toList ++ o3.toList) ++ o2.toList ∧ U = (fun s => (UV ins o1 v s ∧ BL K (nX (ins.take i) 0) o3 bv s) ∧ UV (yq i) o2 v2 s) ∧
 bv.one = true ∧ v2.one = true ∧ (∀ g ∈ o3.toList ++ o2.toList, s.next ≤ g) ∧ (∀ g ∈ o1.toList, o3 ≠ some g) ∧ (∀ g ∈ o1.toList ++ o3.toList, o2 ≠ some g)
theorem Qm {l : List (List Nat × Ty)} {o : Option Nat} {v : V} : Bl o.toList (BL K l o v) := fun _ hw h => h.blk hw
theorem OT (hK : Kn K n) {vs : List (List Nat)} {t : Ty} {vr nm rw : V} {s : S} (hn : n ≤ s.next) (hR : DX K vs t vr nm rw) (hw : WF s) (hG : cd s) (hk : K s) :
 Cw aq 22 [.agg [vr, nm, rw]] s fun v s' => ∃ vr' nm' rw' G o, v = .tuple [.agg [vr', nm', rw'], .int .i64 (MG vs t)] ∧ MS K (OO vs t) (OP vs t) G o vr' nm' rw' s' ∧ (∀ g ∈ G ++ o.toList, s.next ≤ g) ∧ Fw [] s s' := by
 have ho := hR.ty.one
 have hov := hR.vars.row.one
 have hkk : ∀ s1, Fw [] s s1 → K s1 := fun s1 h1 => hK.still _ _ h1 hk
 refine ay (aI (C := uq) (e := ⟨[vr, nm, rw], []⟩) (F := []) (bE rfl rfl rfl) Tryz.func22 rfl (by kernel_rfl) ES rfl ⟨rfl, by simp [au, ho.1, ho.2, hov], rfl⟩ rfl hw rfl (by simp) trivial am trivial (by simp) ?_)
 show ai aq [] s (XB K vs t s) _ _ _ _ _
 refine aN fun b1 hb1 hd1 => ?_
 refine aN fun b2 hb2 hd2 => ?_
 refine aj (.int .i64 (if eE vs t = true then 0 else 32)) (fun a b c _ _ => xD hK (Nat.le_trans hn b.next) hR c (hG.keep b.ro) (hkk a b)) rfl rfl ?_
 refine iv rfl rfl rfl ?_
 refine aP rfl (fun c1 => ?_) (fun c1 => ?_)
 ·have hs : eE vs t = false := by
   cases hs : eE vs t with
   | true => rw [hs] at c1; exact absurd rfl c1
   | false => rfl
  exact ak fun s1 h1 h2 h3 h4 => Cs h1 (by unfold gj; rw [hs]; rfl) (by unfold MG; rw [hs]; rfl)
 have hs : eE vs t = true := by
  cases hs : eE vs t with
  | true => rfl
  | false => rw [hs] at c1; exact absurd (by decide) c1
 have hv := oS hs
 refine aj (.bool (gj vs t)) (fun a b c _ _ => xC hK (Nat.le_trans hn b.next) hR c (hG.keep b.ro) (hkk a b)) rfl rfl ?_
 refine dR rfl rfl ?_
 refine aB rfl (fun c2 => ?_) (fun c2 => ?_)
 ·have hc : gj vs t = false := by simpa using c2
  exact ak fun s1 h1 h2 h3 h4 => Cs h1 hc (by unfold MG; rw [hs, hc]; rfl)
 have hc : gj vs t = true := by simpa using c2
 have hsz := (bF hv).1
 have hl := iS t []
 simp only [List.length_nil] at hl
 have hok := OQ hv
 have hsb : cq (sH (nX (hQ t []) 0) t) ≤ cq t * 1 := OD (Nat.le_refl _) (fun x t' h => Iy h) t
 have hkd : ∀ x ∈ hQ t [], bo x = 4 := nC t [] (fun x hx => by cases hx)
 have hsm := qQ t [] (bF hv).2.2
 have hrv : OO vs t = yq (hQ t []).length := by unfold OO; rw [if_pos hc]
 have hrt : OP vs t = sH (nX (hQ t []) 0) t := by unfold OP; rw [if_pos hc]
 have hre : MG vs t = 0 := by unfold MG; rw [if_pos hs, if_pos hc]
 refine fy am DF fun s1 k1 k2 k3 k4 => ?_
 obtain ⟨v, s2, hcall, o1, hU, hX, hby, hf⟩ := rV hK (cq t) t [] nm rw .nilslice none s1 (Nat.le_refl _) hR.ty k2 (hG.keep k1.ro) (hkk s1 k1) (Nat.le_trans hn k1.next) (fun X hX => by cases hX) (UV.nil _) (by simp) (by simp only [List.length_nil]; omega)
 rw [← hsm] at hU hby
 refine ⟨[v], _, s2, o1.toList, UV (hQ t []) o1 v, inferInstance, rfl, by simp [au, hU.one], hcall, hf, UV.stb, nD, hU, IG hX (Nat.le_refl _), ?_⟩
 have hnew1 : ∀ g ∈ o1.toList, s.next ≤ g := IG hX k1.next
 generalize hins : hQ t [] = ins at *
 have htx := UV.txs hU (by omega) hby
 refine aN fun b3 hb3 hd3 => ?_
 refine fv (WM K s v ins o1 vr nm rw b1 b2 b3) ins.length ⟨0, none, .nilslice, none, .nilslice, by omega, rfl, rfl, rfl, by simp, funext fun s => propext ⟨fun h => ⟨⟨h.2, BL.nil K s⟩, UV.nil s⟩, fun h => ⟨trivial, h.1.1⟩⟩, rfl, rfl, by simp, (fun g hg h => by cases h), (fun g hg h => by cases h)⟩ (cZ am UV.stb) ?_
 rintro j _ _ _ _ ⟨i, o3, bv, o2, v2, hi, rfl, rfl, rfl, rfl, rfl, hone3, hone2, hfr, hd3', hd2'⟩ - - -
 have hst1 := @UV.stb ins o1 v
 have hst3 := @BL.stb K (nX (ins.take i) 0) o3 bv
 have hst2 := @UV.stb (yq i) o2 v2
 have hst := cZ hst1 hst3
 have hbl := ju (@nD ins o1 v) (@Qm K (nX (ins.take i) 0) o3 bv)
 refine bT rfl (fun s1 _ _ => htx.len s1) rfl ?_
 refine cP rfl rfl rfl ?_
 refine aP rfl (fun c3 => ?_) (fun c3 => ?_)
 ·obtain ⟨x, hx, hd⟩ := bM (show i < ins.length by omega)
  have hxb := hby x (List.mem_of_getElem? hx)
  have hxl := FG (by rw [hkd x (List.mem_of_getElem? hx)]; decide)
  obtain ⟨p, hp, hld⟩ := htx.at hx
  have htk : ins.take (i + 1) = ins.take i ++ [x] := by rw [List.take_add_one, hx]; rfl
  have hB2 : nX (ins.take (i + 1)) 0 = nX (ins.take i) 0 ++ [(x, .mk (qM i) [])] := by rw [htk, wq, Nat.zero_add, List.length_take, Nat.min_eq_left hi]
  refine FO (.str (qM i)) (fun _ _ a _ _ => Ld (by omega) a) rfl rfl ?_
  refine ao (.ptr p) rfl (fun _ _ _ _ _ => hp) rfl ?_
  refine ao (.str x) rfl (fun a _ _ b _ => hld a (b rfl).1.1) rfl ?_
  refine aN fun b4 hb4 hd4 => ?_
  refine gT fun s4 q1 q2 q3 q4 => ?_
  have hRn : ff K (.mk (qM i) []) (.str (qM i)) .nilslice := by
   simp only [ff]
   exact ⟨trivial, oV i, by have := Lb i; omega, [], .nil, by simp only [ea]⟩
  obtain ⟨bv', s5, X, hrun5, hU5, hB5, hf5, hD5, hX5, hXo, hXn⟩ := JN (cZ hst1 hst2) (ju nD nD) ⟨q3.1.1, q3.2⟩ q3.1.2 q2 (b := b4) q4.1 hxb (by omega) hRn (by rw [KM, List.length_take]; omega) (fun g hg => by
   rcases List.mem_append.1 hg with hg | hg
   ·exact hd3' g hg
   ·intro h
    cases o2 with
    | none => simp at hg
    | some Y => simp at hg; subst hg; exact hd2' g (by simp [h]) rfl)
  rw [← hB2] at hB5
  refine ⟨[bv'], _, s5, (o1.toList ++ [X]) ++ o2.toList, fun s => (UV ins o1 v s ∧ BL K (nX (ins.take (i + 1)) 0) (some X) bv' s) ∧ UV (yq i) o2 v2 s, inferInstance, rfl, by simp [au, hB5.one], hrun5, hf5.mono (by intro g hg; simp at hg ⊢; simp [hg]), cZ (cZ hst1 BL.stb) hst2, ⟨⟨hU5.1, hB5⟩, hU5.2⟩, fun g hg => ?_, ?_⟩
  ·simp only [List.mem_append, List.mem_singleton] at hg
   rcases hg with (hg | hg) | hg
   ·exact ⟨hD5 g (by simp [hg]), .inl (by simp [hg])⟩
   ·subst hg
    refine ⟨hX5, ?_⟩
    rcases hXo with h | h
    ·exact .inl (by simp [h])
    ·exact .inr h
   ·exact ⟨hD5 g (List.mem_append_right _ hg), .inl (List.mem_append_right _ hg)⟩
  have hXs : s.next ≤ X := by
   rcases hXo with h | h
   ·exact hfr X (by simp [h])
   ·exact Nat.le_trans q1.next h
  refine FO (.str (qM i)) (fun _ _ a _ _ => Ld (by omega) a) rfl rfl ?_
  refine aN fun b5 hb5 hd5 => ?_
  refine gT fun s6 r1 r2 r3 r4 => ?_
  have hst' := cZ hst1 (@BL.stb K (nX (ins.take (i + 1)) 0) (some X) bv')
  have hbl' := ju (@nD ins o1 v) (@Qm K (nX (ins.take (i + 1)) 0) (some X) bv')
  obtain ⟨v', s7, Y, hrun7, hU7, hV7, hf7, hD7, hY7, hYo, hYn⟩ := vO hst' hbl' r3.1 r3.2 r2 (b := b5) r4.1 (by rw [rn]; omega) (fun g hg => by
   rcases List.mem_append.1 hg with hg | hg
   ·exact hd2' g (by simp [hg])
   ·intro h
    simp at hg; subst hg
    exact hXn g (by simp [h]) rfl)
  refine ⟨[v'], _, s7, (o1.toList ++ [X]) ++ [Y], fun s => (UV ins o1 v s ∧ BL K (nX (ins.take (i + 1)) 0) (some X) bv' s) ∧ UV (yq i ++ [qM i]) (some Y) v' s, inferInstance, rfl, by simp [au, hV7.one], hrun7, hf7.mono (by intro g hg; exact List.mem_append_right _ hg), cZ hst' UV.stb, ⟨hU7, hV7⟩, fun g hg => ?_, ?_⟩
  ·rcases List.mem_append.1 hg with hg | hg
   ·exact ⟨hD7 g hg, .inl (List.mem_append_left _ hg)⟩
   ·simp at hg; subst hg
    refine ⟨hY7, ?_⟩
    rcases hYo with h | h
    ·exact .inl (by simp [h])
    ·exact .inr h
  have hYs : s.next ≤ Y := by
   rcases hYo with h | h
   ·exact hfr Y (by simp [h])
   ·exact Nat.le_trans r1.next h
  refine br (r := ((i + 1 : Nat) : Int)) rfl rfl (wI (by omega)) rfl ?_
  refine fx rfl (cZ hst' UV.stb) ⟨ins.length - (i + 1), by omega, i + 1, some X, bv', some Y, v', by omega, rfl, rfl, rfl, rfl, rfl, hB5.one, hV7.one, fun g hg => ?_, fun g hg => hXn g (by simp [hg]), hYn⟩
  simp at hg
  rcases hg with rfl | rfl
  ·exact hXs
  ·exact hYs
 ·have hil : i = ins.length := by omega
  subst hil
  rw [List.take_length] at hst3 hst hbl
  rw [List.take_length]
  refine aN fun b5 hb5 hd5 => ?_
  refine cU fun s6 f1 f2 f3 f4 => ?_
  have g5 : s6.get b5 = some (tC 0) := f4.1
  have hb3n : ∀ g ∈ o3.toList, g ≠ b5 := fun g hg h => hd5 (by subst h; simp at hg; simp [hg])
  have hbl6 := f3.1.2.blk f2
  have hKf : Kf (fun s' => K s' ∧ KB o3.toList s6 s') b5 s6.next := by
   intro F a b hF hf hk
   refine ⟨hK F a b (fun g hg => ?_) hf hk.1, hk.2.trans (KB.fw hf fun g hg h => ?_)⟩
   ·have := f1.next
    rcases hF g hg with h | h <;> omega
   ·rcases hF g h with h | h
    ·exact hb3n g hg h
    ·have := hbl6 g hg; omega
  have hpl := (Cx hok t 0 (bF hv).2.2).1 (by omega)
  obtain ⟨v6, s7, hcall7, nm7, rw7, G, rfl, hMT, hGn, hc7, hf7⟩ := VK hKf (f3.1.2.rdb (by rw [KM]; omega)) (cq t) t 0 nm rw s6 (Nat.le_refl _) (KD hv) (hR.ty.mono fun _ h => h.1) f2 ⟨hkk s6 f1, KB.refl _ _⟩ (Nat.le_refl _) g5 (by rw [hpl]; simp only; omega)
  rw [hpl] at hMT hc7
  simp only at hMT hc7
  have hMT2 := hMT.abs (KB.fw hf7 fun g hg h => by simp at h; exact hb3n g hg h) (fun g hg => Nat.lt_of_lt_of_le (hbl6 g hg) hf7.next)
  have hoM := hMT.one
  have hV7 : UV (yq ins.length) o2 v2 s7 := qj UV.stb hf7 (fun g hg h => by simp at h; subst h; exact hd5 (List.mem_append_right _ hg)) f3.2
  refine .inl ⟨[.int .i64 (((0 + cq (sH (nX ins 0) t) : Nat) : Nat) : Int), nm7, rw7], _, s7, o2.toList ++ (G ++ o3.toList), fun s => UV (yq ins.length) o2 v2 s ∧ MT K (G ++ o3.toList) (sH (nX ins 0) t) nm7 rw7 s, inferInstance, rfl, by simp [au, hoM.1, hoM.2, eA], hcall7, hf7.mono (by simp [eI]; exact .inl rfl), ⟨hc7, trivial⟩,
   cZ UV.stb MT.stb, ⟨hV7, hMT2⟩, fun g hg => ?_, ?_⟩
  ·rcases List.mem_append.1 hg with hg | hg
   ·exact ⟨ja hV7 (hf7.wf f2) g hg, .inl (List.mem_append_right _ hg)⟩
   ·refine ⟨hMT2.2 g hg, ?_⟩
    rcases List.mem_append.1 hg with hg | hg
    ·exact .inr (hGn g hg)
    ·exact .inl (by simp at hg; simp [hg])
  refine ak fun s8 h1 h2 h3 h4 => ⟨_, _, rfl, v2, nm7, rw7, G ++ o3.toList, o2, by rw [hre]; rfl, ?_, fun g hg => ?_, h1⟩
  ·rw [hrv, hrt]
   exact ⟨h3.1, h3.2, zR _, by rw [rn]; omega⟩
  ·simp only [List.mem_append] at hg
   rcases hg with (hg | hg) | hg
   ·exact Nat.le_trans f1.next (hGn g hg)
   ·exact hfr g (by simp only [List.mem_append]; exact .inl hg)
   ·exact hfr g (by simp only [List.mem_append]; exact .inr hg)
end
end Go.AI.Lx
