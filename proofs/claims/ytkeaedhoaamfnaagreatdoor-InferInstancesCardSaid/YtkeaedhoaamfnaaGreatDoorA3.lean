/- The evaluator by which runs of the program are reckoned, and that it is sound: part 3. No conditions beyond those of the row. -/
import Derived.Test.YtkeaedhoaamfnaaGreatDoorA2
import Derived.Laws.Tables
set_option linter.unusedVariables false
set_option linter.unusedSimpArgs false
noncomputable section
namespace Go.AI
section ops
variable {P : Program} {ρ : aq} {s : S} {w : World} {t : T V} {tm : Array Value}
theorem CT {op : BinOp} {k : IntKind} {a b : Int} {v : V} (ty : TypeId) (hns : bQ op = false) (h : dI op k a b = some v) :
 ∃ y, den ρ v = some y ∧ (Go.binOp op ty (.int k a) (.int k b)).run P w = .ok y w := by
 cases op <;> simp only [bQ, Bool.true_eq_false] at hns <;> simp only [dI, aS] at h
 case quo =>
  cases hb : (b == 0) with
  | true => simp [hb] at h
  | false =>
   simp only [hb, cond_false, Option.some.injEq] at h
   subst h
   have : b ≠ 0 := by simpa using hb
   exact ⟨_, rfl, by simp [Go.binOp, Op.intDiv, this]⟩
 case rem =>
  cases hb : (b == 0) with
  | true => simp [hb] at h
  | false =>
   simp only [hb, cond_false, Option.some.injEq] at h
   subst h
   have : b ≠ 0 := by simpa using hb
   exact ⟨_, rfl, by simp [Go.binOp, Op.intDiv, this]⟩
 all_goals first
  | cases h; done
  | (cases h; exact ⟨_, rfl, by simp [Go.binOp, Op.intArith, Op.intCmp, Op.intBits]⟩)
theorem wP {op : BinOp} {k yk : IntKind} {a b : Int} {v : V} (ty : TypeId) (h : pW op k a b = some v) :
 ∃ y, den ρ v = some y ∧ (Go.binOp op ty (.int k a) (.int yk b)).run P w = .ok y w := by
 cases b with
 | negSucc n => cases h
 | ofNat n =>
  have h0 : ¬ (Int.ofNat n < 0) := Int.not_lt.2 (Int.natCast_nonneg n)
  cases op <;> simp only [pW, aS] at h <;> first
   | (cases h; done)
   | (cases h; exact ⟨_, rfl, by simp [Go.binOp, Op.shift]; intro h; omega⟩)
theorem BR {op : BinOp} {a b : List Nat} {v : V} (ty : TypeId) (h : oB op a b = some v) :
 ∃ y, den ρ v = some y ∧ (Go.binOp op ty (.string (ar a)) (.string (ar b))).run P w = .ok y w := by
 cases op <;> simp only [oB] at h
 case add =>
  cases hb : Nat.ble (a.length + b.length) 1000000 with
  | false => simp [hb] at h
  | true =>
   simp only [hb, cond_true, Option.some.injEq] at h
   subst h
   have hl := Nat.le_of_ble_eq_true hb
   have sa : (ar a).size = a.length := by unfold ar; simp [ByteArray.size]
   have sb : (ar b).size = b.length := by unfold ar; simp [ByteArray.size]
   have hcat : ar a ++ ar b = ar (a ++ b) := by
    apply ByteArray.ext
    simp [ar]
   refine ⟨_, rfl, ?_⟩
   have hle : ¬ (((ar a).size + (ar b).size : Nat) : Int) > IntKind.i64.max := by
    rw [sa, sb]; simp only [IntKind.max, IntKind.signed, IntKind.bits]; simp; omega
   simp only [Go.binOp, Op.stringOp]
   rw [if_neg hle, hcat]; rfl
 case eql =>
  cases hq : ia a b with
  | none => simp [hq] at h
  | some r =>
   simp only [hq, Option.map_some, Option.some.injEq] at h; subst h
   exact ⟨_, rfl, by simp only [Go.binOp, Op.stringOp, lN hq]; rfl⟩
 case neq =>
  cases hq : ia a b with
  | none => simp [hq] at h
  | some r =>
   simp only [hq, Option.map_some, Option.some.injEq] at h; subst h
   exact ⟨_, rfl, by simp only [Go.binOp, Op.stringOp, lN hq]; rfl⟩
 case lss =>
  cases h
  exact ⟨_, rfl, by simp only [Go.binOp, Op.stringOp, bU, wj]; rfl⟩
 all_goals cases h
theorem FE {op : BinOp} {ty : TypeId} {ox oy : Operand} {a b : V} {A B : Value} (hg : bj P op ty ox oy a b = true) (ha : den ρ a = some A) (hb : den ρ b = some B) :
 (eqGuard op ty ox oy A B).run P w = .ok () w := by
 unfold bj at hg
 cases he : eE op with
 | false => cases op <;> simp only [eE, Bool.true_eq_false] at he <;> simp [eqGuard]
 | true =>
  rw [he] at hg
  simp only [cond_true] at hg
  have key : ∀ (A B : Value), (A = .nilIface → B = .nilIface → (fh ox || fh oy) = true) → (∀ xs ys, A = .agg xs → B = .agg ys → P.eqGuardType P.depth ty = false) →
   (eqGuard op ty ox oy A B).run P w = .ok () w := by
   intro A B h1 h2
   by_cases hn : A = .nilIface ∧ B = .nilIface
   ·obtain ⟨rfl, rfl⟩ := hn
    have := h1 rfl rfl
    cases op <;> simp only [eE, Bool.false_eq_true] at he <;> cases ox <;> cases oy <;> simp [fh] at this <;> simp [eqGuard]
   ·by_cases hm : ∃ xs ys, A = .agg xs ∧ B = .agg ys
    ·obtain ⟨xs, ys, rfl, rfl⟩ := hm
     exact run_eqGuard_agg w op ty ox oy xs ys (h2 xs ys rfl rfl)
    ·cases op <;> simp only [eE, Bool.false_eq_true] at he <;> (cases A <;> first | rfl | (cases B <;> first | rfl | (exact absurd ⟨rfl, rfl⟩ hn) | (exact absurd ⟨_, _, rfl, rfl⟩ hm)))
  refine key A B (fun hA hB => ?_) (fun xs ys hA hB => ?_)
  ·subst hA; subst hB
   have na : a = .nilIface := by
    cases a <;> simp only [den, jW] at ha <;> (repeat' split at ha) <;> first | rfl | (simp at ha; done) | cases ha
   have nb : b = .nilIface := by
    cases b <;> simp only [den, jW] at hb <;> (repeat' split at hb) <;> first | rfl | (simp at hb; done) | cases hb
   subst na; subst nb; exact hg
  ·subst hA; subst hB
   have na : ∃ l, a = .agg l := by
    cases a <;> simp only [den, jW] at ha <;> (repeat' split at ha) <;> first | exact ⟨_, rfl⟩ | (simp at ha; done) | cases ha
   have nb : ∃ l, b = .agg l := by
    cases b <;> simp only [den, jW] at hb <;> (repeat' split at hb) <;> first | exact ⟨_, rfl⟩ | (simp at hb; done) | cases hb
   obtain ⟨la, rfl⟩ := na
   obtain ⟨lb, rfl⟩ := nb
   simpa using hg
theorem IP {x y : V} : (∃ j a k b, x = .int j a ∧ y = .int k b) ∨ (∃ a b, x = .str a ∧ y = .str b) ∨ ((∀ j a k b, ¬ (x = .int j a ∧ y = .int k b)) ∧ ∀ a b, ¬ (x = .str a ∧ y = .str b)) := by
 by_cases h1 : ∃ j a k b, x = .int j a ∧ y = .int k b
 ·exact .inl h1
 ·by_cases h2 : ∃ a b, x = .str a ∧ y = .str b
  ·exact .inr (.inl h2)
  ·exact .inr (.inr ⟨fun j a k b h => h1 ⟨j, a, k, b, h⟩, fun a b h => h2 ⟨a, b, h⟩⟩)
theorem Ch {ty : TypeId} {X Y : Value} {r : Bool} (h : (Op.equalIn 10000 ty X Y).run P w = .ok r w) (hn : ∀ j a k b, ¬ (X = .int j a ∧ Y = .int k b)) (hs : ∀ a b, ¬ (X = .string a ∧ Y = .string b))
 (hf : ∀ k a, X ≠ .float k a) (hc : ∀ k a b, X ≠ .complex k a b) :
 (Go.binOp .eql ty X Y).run P w = .ok (.bool r) w ∧ (Go.binOp .neq ty X Y).run P w = .ok (.bool (!r)) w := by
 have e1 : ∀ (o : Sem Bool), o.run P w = .ok r w → ((do pure (.bool (← o)) : Sem Value).run P w = .ok (.bool r) w ∧ (do pure (.bool (!(← o))) : Sem Value).run P w = .ok (.bool (!r)) w) := fun o ho => by simp [ho]
 have h' : (Op.equal ty X Y).run P w = .ok r w := h
 cases X <;> first
  | exact e1 _ h'
  | (exact absurd rfl (hf _ _))
  | (exact absurd rfl (hc _ _ _))
  | (cases Y <;> first
   | exact e1 _ h'
   | (exact absurd ⟨rfl, rfl⟩ (hn _ _ _ _))
   | (exact absurd ⟨rfl, rfl⟩ (hs _ _)))
theorem yI {v : V} {x : Value} (h : den ρ v = some x) : (∀ k a, x ≠ .float k a) ∧ (∀ k a b, x ≠ .complex k a b) ∧ (∀ j a, x = .int j a → v = .int j a) ∧ (∀ a, x = .string a → ∃ l, v = .str l) := by
 cases v <;> simp only [den, jW] at h <;> (repeat' split at h) <;> first
  | (cases h; done)
  | (cases h; exact ⟨fun _ _ e => (by cases e), fun _ _ _ e => (by cases e), fun _ _ e => (by cases e <;> rfl), fun _ e => (by cases e <;> exact ⟨_, rfl⟩)⟩)
theorem sN (h : HR ρ s w) (ht : TR ρ t tm) {op : BinOp} {ty : TypeId} {x y : Operand} {nx : Nx} (e : bc s (cS P s op ty x y (eval t x) (eval t y)) = some nx) :
 wx P ρ w s nx ((do pure (Next.value (← (do eqGuard op ty x y (rv tm x) (rv tm y); Go.binOp op ty (rv tm x) (rv tm y) : Sem Value))) : Sem Next).run P w) := by
 refine aZ h e fun v hv => ?_
 unfold cS at hv
 split at hv
 ·rename_i a ha
  split at hv
  ·rename_i b hb
   cases hg : bj P op ty x y a b with
   | false => simp [hg] at hv
   | true =>
    simp only [hg, cond_true] at hv
    have da := am ht ha
    have db := am ht hb
    have hgo := FE (w := w) hg da db
    generalize rv tm x = X at *
    generalize rv tm y = Y at *
    suffices hs : ∃ y, den ρ v = some y ∧ (Go.binOp op ty X Y).run P w = .ok y w by
     obtain ⟨z, h1, h2⟩ := hs
     exact ⟨z, h1, by simp [hgo, h2]⟩
    rcases IP (x := a) (y := b) with ⟨j, m, k, n, rfl, rfl⟩ | ⟨l, m, rfl, rfl⟩ | ⟨hni, hns⟩
    ·cases da; cases db
     simp only [bD] at hv
     cases hs : bQ op with
     | true => rw [hs] at hv; exact wP ty hv
     | false =>
      rw [hs] at hv
      simp only [cond_false] at hv
      cases hk : aR j k with
      | false => simp [hk] at hv
      | true =>
       simp only [hk, cond_true] at hv
       obtain rfl : j = k := of_decide_eq_true hk
       exact CT ty hs hv
    ·cases da; cases db
     exact BR ty hv
    ·have hv' : (match (generalizing := false) op with
      | .eql => (dJ P (plainAt s) 20 ty a b).map .bool
      | .neq => (dJ P (plainAt s) 20 ty a b).map fun b => .bool (!b)
      | _ => none) = some v := by
      unfold bD at hv
      split at hv
      ·exact absurd ⟨rfl, rfl⟩ (hni _ _ _ _)
      ·exact absurd ⟨rfl, rfl⟩ (hns _ _)
      ·exact hv
     obtain ⟨s1, s2, s3, s4⟩ := yI da
     obtain ⟨q1, q2, q3, q4⟩ := yI db
     have hn : ∀ j a' k b', ¬ (X = .int j a' ∧ Y = .int k b') := fun j a' k b' ⟨e1, e2⟩ => hni j a' k b' ⟨s3 _ _ e1, q3 _ _ e2⟩
     have hss : ∀ a' b', ¬ (X = .string a' ∧ Y = .string b') := fun a' b' ⟨e1, e2⟩ => by
      obtain ⟨l, rfl⟩ := s4 _ e1
      obtain ⟨m, rfl⟩ := q4 _ e2
      exact hns _ _ ⟨rfl, rfl⟩
     cases hq : dJ P (plainAt s) 20 ty a b with
     | none => cases op <;> simp [hq] at hv'
     | some r =>
      have he := sL h 20 ty a b r X Y 10000 hq da db (by omega)
      obtain ⟨g1, g2⟩ := Ch he hn hss s1 s2
      cases op <;> simp only [hq, Option.map_some, Option.some.injEq] at hv' <;> first
       | (subst hv'; exact ⟨_, rfl, g1⟩)
       | (subst hv'; exact ⟨_, rfl, g2⟩)
       | cases hv'
  ·cases hv
 ·cases hv
theorem vN (h : HR ρ s w) (ht : TR ρ t tm) {op : UnOp} {x : Operand} {nx : Nx} (e : bc s (Jh op (eval t x)) = some nx) :
 wx P ρ w s nx ((do pure (Next.value (← Op.unary op (rv tm x))) : Sem Next).run P w) := by
 refine aZ h e fun v hv => ?_
 unfold Jh at hv
 split at hv
 ·rename_i a ha
  have da := am ht ha
  generalize rv tm x = X at *
  cases op <;> cases a <;> simp only [pU] at hv <;> first
   | (cases hv; done)
   | (cases hv; cases da; exact ⟨_, rfl, by simp [Op.unary, Op.intArith]⟩)
 ·cases hv
theorem nM (h : HR ρ s w) (ht : TR ρ t tm) {x : Operand} {xt ty : TypeId} {ok : Bool} {nx : Nx} (e : bc s (fT P (eval t x) ty ok) = some nx) :
 wx P ρ w s nx ((do pure (Next.value (← Instr.typeAssert (rv tm x) xt ty ok)) : Sem Next).run P w) := by
 refine aZ h e fun v hv => ?_
 unfold fT at hv
 split at hv
 ·cases hv
 ·rename_i d hni hd
  have hfail : ∀ v, im P ty ok = some v → ok = true ∧ ∃ z i, P.info? ty = some i ∧ i.zero = some z ∧ den ρ v = some (.tuple #[z, .bool false]) := fun v hf => by
   unfold im at hf
   cases ok with
   | false => cases hf
   | true =>
    simp only [cond_true] at hf
    split at hf
    ·rename_i z hz
     obtain ⟨y, i, hi, hzi, hden⟩ := eM hz
     cases hf
     exact ⟨rfl, y, i, hi, hzi, by simp only [den, aY, hden ρ]⟩
    ·cases hf
  split at hv
  ·rename_i hx
   have dx := am ht hx
   obtain ⟨rfl, z, i, hi, hz, hden⟩ := hfail v hv
   simp only [den, Option.some.injEq] at dx
   refine ⟨_, hden, ?_⟩
   simp only [Instr.typeAssert, Sem.run_bind, aj hd, Result.andThen_ok, ← dx]
   cases d <;> first | (simp [fQ hi hz]; done) | exact absurd rfl (hni _)
  ·rename_i u q hx
   have dx := am ht hx
   simp only [den] at dx
   split at dx
   ·rename_i z hz
    simp only [Option.some.injEq] at dx
    cases hb : Nat.beq u ty with
    | true =>
     simp only [hb, cond_true, Option.some.injEq] at hv
     have hu := Nat.eq_of_beq_eq_true hb
     subst hu
     subst hv
     refine ⟨if ok then .tuple #[z, .bool true] else z, by cases ok <;> simp [den, aY, hz], ?_⟩
     simp only [Instr.typeAssert, Sem.run_bind, aj hd, Result.andThen_ok, ← dx]
     cases d <;> first | (simp; done) | exact absurd rfl (hni _)
    | false =>
     simp only [hb, cond_false] at hv
     have hu : u ≠ ty := fun e => by rw [e] at hb; simp at hb
     obtain ⟨rfl, z', i, hi, hz', hden⟩ := hfail v hv
     refine ⟨_, hden, ?_⟩
     simp only [Instr.typeAssert, Sem.run_bind, aj hd, Result.andThen_ok, ← dx]
     cases d <;> first | (simp [hu, fQ hi hz']; done) | exact absurd rfl (hni _)
   ·cases dx
  ·cases hv
 ·cases hv
end ops
section ops
variable {P : Program} {ρ : aq} {s : S} {w : World} {t : T V} {tm : Array Value}
theorem kY {a b : Nat} (h : Nat.blt a b = true) : a < b := Nat.le_of_ble_eq_true h
theorem fy {a : Ad} {z len sz : Nat} {cap : Option Nat} {y : Value} (h : den ρ (.slice a z len cap sz) = some y) (hz : sz ≠ 0 ∨ 0 < len) :
 ∃ l, ρ a.f a.v = some l ∧ l.base ≤ bm l a z cap sz ∧ l.base ≤ a.c ∧ len ≤ cC l a cap sz ∧ 0 < sz ∧ y = .slice (some ⟨l.b, bm l a z cap sz - l.base, none⟩) len (cC l a cap sz) := by
 simp only [den, jW] at h
 split at h
 ·rename_i h0
  split at h
  ·rename_i h1; omega
  ·cases h
 split at h
 ·rename_i l hl
  split at h
  ·rename_i hc
   simp only [Option.some.injEq] at h
   exact ⟨l, hl, hc.1, hc.2.1, hc.2.2.1, hc.2.2.2, h.symm⟩
  ·cases h
 ·cases h
theorem dN {a : Ad} {z len sz : Nat} {cap : Option Nat} {l : wF} (hl : ρ a.f a.v = some l) (h1 : l.base ≤ bm l a z cap sz) (h2 : l.base ≤ a.c) (h3 : len ≤ cC l a cap sz) (h4 : 0 < sz) :
 den ρ (.slice a z len cap sz) = some (.slice (some ⟨l.b, bm l a z cap sz - l.base, none⟩) len (cC l a cap sz)) := by
 simp only [den, jW]
 rw [if_neg (show ¬ sz = 0 by omega)]
 simp only [hl]
 rw [if_pos ⟨h1, h2, h3, h4⟩]
theorem sj {a : Ad} {z len sz : Nat} {cap : Option Nat} {y : Value} (h : den ρ (.slice a z len cap sz) = some y) : ∃ b c, y = .slice b len c ∧ ∀ c', cap = some c' → c = c' := by
 by_cases hz : sz = 0
 ·simp only [den, jW] at h
  rw [if_pos hz] at h
  split at h
  ·rename_i h1
   cases h
   exact ⟨_, 0, by rw [h1.1], fun c' hc => by rw [h1.2] at hc; exact Option.some.inj hc⟩
  ·cases h
 ·obtain ⟨l, _, _, _, _, _, rfl⟩ := fy h (.inl hz)
  exact ⟨_, _, rfl, fun c' hc => by subst hc; rfl⟩
theorem Hr {n : Nat} (h : Nat.beq n 0 = false) : n ≠ 0 := fun e => by subst e; cases h
theorem eD {l : wF} {a : Ad} {z len sz : Nat} {cap : Option Nat} (h : len ≤ cC l a cap sz) (h0 : 0 < len) : bm l a z cap sz = a.c := by
 cases cap with
 | some c => rfl
 | none => simp only [bm, cC] at *; rw [if_neg (by omega)]
theorem gj (ht : TR ρ t tm) {x : Operand} {n : Nat} (h : eU (eval t x) = some n) : ∃ k, rv tm x = .int k (.ofNat n) := by
 obtain ⟨k, hk⟩ := Fe h
 have := am ht hk
 simp only [den, Option.some.injEq] at this
 exact ⟨k, this.symm⟩
theorem kJ (h : HR ρ s w) (ht : TR ρ t tm) {ty : TypeId} {x i : Operand} {nx : Nx} (e : bc s (bF P ty (eval t x) (eU (eval t i))) = some nx) :
 wx P ρ w s nx ((do pure (Next.value (← Instr.indexAt ty (rv tm x) (rv tm i))) : Sem Next).run P w) := by
 refine aZ h e fun v hv => ?_
 unfold bF at hv
 split at hv
 ·rename_i j hj
  obtain ⟨k, hi⟩ := gj ht hj
  split at hv
  ·rename_i el hu
   split at hv
   ·rename_i a z len cap sz hx
    split at hv
    ·rename_i n hn
     cases hb : (Nat.beq n sz && Nat.blt j len) with
     | false => simp [hb] at hv
     | true =>
      simp only [hb, cond_true, Option.some.injEq] at hv
      simp only [Bool.and_eq_true] at hb
      obtain rfl := Nat.eq_of_beq_eq_true hb.1
      have hlt : j < len := kY hb.2
      obtain ⟨l, h1, h2, h3, h4, h5, h6⟩ := fy (am ht hx) (.inr (by omega))
      subst hv
      have hc := eD (z := z) h4 (by omega)
      rw [hc] at h6
      refine ⟨.pointer (some ((⟨l.b, a.c - l.base, none⟩ : Addr).add (j * n))), by simp only [den, qL _ (qJ h1 h3)], ?_⟩
      have hr : (0:Int) ≤ (j:Int) ∧ (j:Int) < (len:Int) := by omega
      simp [Instr.indexAt, hi, h6, asIntOf, aj hu, cI hn, hlt]
    ·cases hv
   ·cases hv
  ·rename_i len el hu
   split at hv
   ·rename_i a hx
    have h1 := am ht hx
    simp only [den] at h1
    split at h1
    ·rename_i ad had
     simp only [Option.some.injEq] at h1
     split at hv
     ·rename_i n hn
      cases hb : Nat.blt j len with
      | false => simp [hb] at hv
      | true =>
       simp only [hb, cond_true, Option.some.injEq] at hv
       have hlt : j < len := kY hb
       subst hv
       refine ⟨.pointer (some (ad.add (j * n))), by simp only [den, qL _ had], ?_⟩
       simp [Instr.indexAt, hi, ← h1, asIntOf, Instr.sureAddr, aj hu, cI hn, hlt]
     ·cases hv
    ·cases h1
   ·cases hv
  ·cases hv
 ·cases hv
theorem Ot (l : List Nat) (i : Nat) (c : Nat) (h : l[i]? = some c) : (ar l)[i]? = some (UInt8.ofNat c) := by
 have hi : i < l.length := (List.getElem?_eq_some_iff.1 h).1
 have hs : (ar l).size = l.length := by simp [ar, ByteArray.size]
 have hi' : i < (ar l).size := by omega
 rw [getElem?_pos (ar l) i hi']
 have hv := (List.getElem?_eq_some_iff.1 h).2
 congr 1
 show (ar l).data[i] = _
 simp [ar, hv]
theorem oL (h : HR ρ s w) (ht : TR ρ t tm) {ty : TypeId} {x i : Operand} {nx : Nx} (e : bc s (mj P ty (eval t x) (eU (eval t i))) = some nx) :
 wx P ρ w s nx ((do pure (Next.value (← Instr.index ty (rv tm x) (rv tm i))) : Sem Next).run P w) := by
 refine aZ h e fun v hv => ?_
 unfold mj at hv
 split at hv
 ·rename_i j hj
  obtain ⟨k, hi⟩ := gj ht hj
  split at hv
  ·rename_i hu
   split at hv
   ·rename_i l hx
    have h1 := am ht hx
    simp only [den, Option.some.injEq] at h1
    split at hv
    ·rename_i c hc
     cases hv
     refine ⟨_, rfl, ?_⟩
     have hb := Ot l j c hc
     simp [Instr.index, hi, ← h1, asIntOf, aj hu, hb]
     rfl
    ·cases hv
   ·cases hv
  ·rename_i len el hu
   split at hv
   ·rename_i cs hx
    have h1 := am ht hx
    simp only [den] at h1
    split at h1
    ·rename_i l hl
     simp only [Option.some.injEq] at h1
     split at hv
     ·rename_i n hn
      cases hb : Nat.blt j len with
      | false => simp [hb] at hv
      | true =>
       simp only [hb, cond_true] at hv
       have hlt : j < len := kY hb
       obtain ⟨y, h2, h3⟩ := kw (w := w) (ys := l.toArray) (by simpa using hl) hv
       exact ⟨y, h2, by simp [Instr.index, hi, ← h1, asIntOf, aj hu, cI hn, hlt, h3]⟩
     ·cases hv
    ·cases h1
   ·cases hv
  ·cases hv
 ·cases hv
theorem tk (h : HR ρ s w) {ty : TypeId} : Bs P ρ w (.val (.map s.next) (s.alloc (.map [] 0))) ((do pure (Next.value (← Instr.makeMap ty none)) : Sem Next).run P w) := by
 have hfree : ρ s.next 0 = none := h.fresh _ _ (Nat.le_refl _)
 obtain ⟨h1, h2⟩ := h.alloc (.map [] 0) (.map #[] 0) 0 0 (Nat.le_refl _) ⟨⟨w.heap.size, 0, 0⟩, #[], aq.put_same _ _ _ _, ez _ _, trivial⟩
 exact ⟨_, .map (some w.heap.size), _, by simp [Instr.makeMap], by simp [den, aq.put_same], h1, h2⟩
theorem vS (zs : List Value) (k : Nat) (hk : zs.length = k) (h0 : 0 < k) : ∀ c : Nat, (List.range (c * k)).map (fun i => zs.toArray[i % zs.toArray.size]!) = (List.replicate c zs).flatten
 | 0 => by simp
 | c + 1 => by
  rw [List.replicate_succ, List.flatten_cons, ← vS zs k hk h0 c, Nat.succ_mul, Nat.add_comm, List.range_add, List.map_append, List.map_map]
  congr 1
  ·apply List.ext_getElem
   ·simp [hk]
   ·intro i h1 h2
    simp at h1
    simp [hk, Nat.mod_eq_of_lt h1]
    rw [List.getElem?_eq_getElem h2]; rfl
  ·apply List.map_congr_left
   intro i _
   simp [hk]
theorem gU {l : List V} {m : List Value} (h : aY ρ l = some m) : ∀ c : Nat, aY ρ (List.replicate c l).flatten = some (List.replicate c m).flatten
 | 0 => rfl
 | c + 1 => by
  rw [List.replicate_succ, List.flatten_cons, List.replicate_succ, List.flatten_cons]
  exact dK h (gU h c)
theorem qn (h : HR ρ s w) {elem : TypeId} {cs : List V} {ys : Array Value} (hd : aY ρ cs = some ys.toList) {len sz : Nat} {cap : Nat} (hl : len ≤ cap) (hsz : 0 < sz) :
 Bs P ρ w (.val (.slice (bS s elem cs).1 0 len (some cap) sz) (bS s elem cs).2) ((do pure (Next.value (.slice (some (← newRow elem ys)) len cap)) : Sem Next).run P w) := by
 have hlen : cs.length = ys.size := by have := bG hd; simpa using this.symm
 obtain ⟨ρ', h1, h2, h3⟩ := gM h false elem elem (cs := cs) (ys := ys) (by rw [hd, hlen, List.take_of_length_le (by simp)]) (0, 0) ⟨fun _ => rfl, by simp⟩
 refine ⟨ρ', .slice (some ⟨w.heap.size, 0, none⟩) len cap, _, by simp [newRow], ?_, h2, h3⟩
 exact dN (l := ⟨w.heap.size, 0, ys.size⟩) h1 (Nat.zero_le _) (Nat.zero_le _) hl hsz
theorem lD (n : Nat) (h : n ≤ 2199023255552) : IntKind.i64.wrap (Int.ofNat n) = Int.ofNat n := by
 simp only [IntKind.wrap, IntKind.bits, IntKind.signed]
 simp
 omega
theorem tj (h : HR ρ s w) (ht : TR ρ t tm) {ty : TypeId} {l c : Operand} {nx : Nx} (e : eQ P s ty (eU (eval t l)) (eU (eval t c)) = some nx) :
 Bs P ρ w nx ((do pure (Next.value (← Instr.makeSlice ty (rv tm l) (rv tm c))) : Sem Next).run P w) := by
 unfold eQ at e
 split at e
 ·rename_i el hu
  split at e
  ·rename_i l' hl
   split at e
   ·rename_i c' hc
    obtain ⟨k1, e1⟩ := gj ht hl
    obtain ⟨k2, e2⟩ := gj ht hc
    split at e
    ·rename_i z hz
     obtain ⟨zv, i, hi, hzi, hden⟩ := eM hz
     split at e
     ·rename_i n hn
      cases hb : (Nat.ble l' c' && Nat.ble c' 2199023255552 && !(Nat.beq n 0) && Nat.beq z.cells.length n && mX P el c') with
      | false => simp [hb] at e
      | true =>
       simp only [hb, cond_true] at e
       simp only [Bool.and_eq_true] at hb
       obtain ⟨⟨⟨⟨b1, b2⟩, b3⟩, b4⟩, b5⟩ := hb
       have b1 := Nat.le_of_ble_eq_true b1
       have b2 := Nat.le_of_ble_eq_true b2
       have b4 := Nat.eq_of_beq_eq_true b4
       have b3 : 0 < n := by
        rcases Nat.eq_zero_or_pos n with h0 | h0
        ·subst h0; simp at b3
        ·exact h0
       have b5 : i.bytes * c' ≤ 100000000000000 := by
        unfold mX at b5
        simp only [hi] at b5
        exact Nat.le_of_ble_eq_true b5
       have hzc := eB (hden ρ)
       have hzl : zv.cells.toList.length = n := by have := bG hzc; omega
       have hrow := vS zv.cells.toList n hzl b3 c'
       have hd : aY ρ (List.replicate c' z.cells).flatten = some ((List.replicate c' zv.cells.toList).flatten.toArray).toList := by simpa using gU hzc c'
       have key := qn (P := P) h (elem := el) hd (len := l') (sz := n) (cap := c') b1 b3
       simp only [bS, bV] at e key
       cases e
       have hrun : (Instr.makeSlice ty (rv tm l) (rv tm c)).run P w = (do pure (.slice (some (← newRow el (List.replicate c' zv.cells.toList).flatten.toArray)) l' c') : Sem Value).run P w := by
        have hsz := cI hn w
        have w1 := lD l' (by omega)
        have w2 := lD c' b2
        simp only [Int.ofNat_eq_natCast] at w1 w2
        have hA : ∀ k n, (asInt (.int k n)).run P w = .ok n w := fun k n => by simp [asInt, asIntOf]
        have hrow2 : Array.map (fun x => zv.cells[x % zv.cells.size]!) (Array.range (c' * n)) = (List.replicate c' zv.cells.toList).flatten.toArray := by
         apply Array.toList_inj.1
         rw [← hrow]
         simp [Array.toList_range]
        have hbig : (decide ((c' : Int) < 0) || decide ((i.bytes : Int) * (c' : Int) > 2 ^ 48)) = false := by
         have g1 : ¬ ((c' : Int) < 0) := by omega
         have g2 : ¬ ((i.bytes : Int) * (c' : Int) > 2 ^ 48) := by
          have e : (i.bytes : Int) * (c' : Int) = ((i.bytes * c' : Nat) : Int) := (Int.natCast_mul _ _).symm
          rw [e]
          generalize i.bytes * c' = q at b5
          have : (2 : Int) ^ 48 = 281474976710656 := rfl
          omega
         rw [decide_eq_false g1, decide_eq_false g2]; rfl
        have hl0 : decide ((l' : Int) < 0) = false := by simp
        have hlc : decide ((l' : Int) > (c' : Int)) = false := by simp; omega
        have hti : (typeInfo el).run P w = .ok i w := by simp [typeInfo, hi]
        have hzr := fQ hi hzi w
        simp only [Instr.makeSlice, Sem.run_bind, aj hu, Result.andThen_ok, e1, e2, hA, Sem.run_pure, hti, Int.ofNat_eq_natCast, w1, w2, Int.toNat_natCast]
        rw [if_neg (by rw [hbig, hl0, hlc]; simp)]
        simp only [Sem.run_bind, run_askRoom, Result.andThen_ok, hsz]
        by_cases hc0 : c' * n = 0
        ·rw [if_pos hc0]
         have g : ∀ f : Nat → Value, Array.map f (Array.range 0) = #[] := fun f => by simp
         simp only [Sem.run_bind, Sem.run_pure, Result.andThen_ok, ← hrow2, hc0, g]
        ·rw [if_neg hc0]
         simp only [Sem.run_bind, hzr, Result.andThen_ok, Sem.run_pure, hrow2]
       simp only [Sem.run_bind] at hrun key ⊢
       rw [hrun]
       simpa [newRow] using key
     ·cases e
    ·cases e
   ·cases e
  ·cases e
 ·cases e
theorem IR {v : V} {n : Nat} (h : jL v = some n) : ∃ k, v = .int k (.ofNat n) := by
 cases v <;> try (cases h; done)
 rename_i k m
 cases m <;> cases h
 exact ⟨k, rfl⟩
def Bp (ρ : aq) : Option V → Option Value → Prop
 | none, none => True
 | some v, some y => den ρ v = some y
 | _, _ => False
theorem nB (ht : TR ρ t tm) {x : Option Operand} {v : Option V} (h : gm t x = some v) : Bp ρ v (x.map (rv tm)) := by
 cases x with
 | none => cases h; trivial
 | some x =>
  simp only [gm] at h
  split at h
  ·rename_i u hu; cases h; exact am ht hu
  ·cases h
theorem fB (k : IntKind) (n y : Nat) (c : BoundsCode) (h : n ≤ y) : (Instr.sliceBound (.int k (.ofNat n)) y c).run P w = .ok n w := by
 have : (0 : Int) ≤ (n : Int) ∧ (n : Int) ≤ (y : Int) := by omega
 simp [Instr.sliceBound, asIntOf, h]
theorem jH {isS : Bool} {len cap m h b : Nat} {lo hi mx : Option V} {lo' hi' mx' : Option Value} (r1 : Bp ρ lo lo') (r2 : Bp ρ hi hi') (r3 : Bp ρ mx mx')
 (e3 : mq mx cap = some m) (e2 : mq hi len = some h) (e1 : mq lo 0 = some b)
 (l3 : m ≤ cap) (l2 : h ≤ m) (l1 : b ≤ h) (hm : mx.isSome = true → hi.isSome = true) : (Instr.sliceBounds isS len cap lo' hi' mx').run P w = .ok (b, h, m) w := by
 have key : ∀ (o : Option V) (o' : Option Value) (n : Nat), Bp ρ o o' → ∀ d : Nat, mq o d = some n → (o = none ∧ o' = none ∧ n = d) ∨ ∃ k v, o = some v ∧ o' = some (.int k (.ofNat n)) := by
  intro o o' n hr d he
  cases o with
  | none => cases o' with
   | none => exact .inl ⟨rfl, rfl, by cases he; rfl⟩
   | some _ => exact hr.elim
  | some v => cases o' with
   | none => exact hr.elim
   | some y =>
    obtain ⟨k, rfl⟩ := IR he
    simp only [Bp, den, Option.some.injEq] at hr
    exact .inr ⟨k, _, rfl, by rw [← hr]⟩
 rcases key mx mx' m r3 cap e3 with ⟨rfl, rfl, rfl⟩ | ⟨k3, v3, rfl, rfl⟩
 ·rcases key hi hi' h r2 len e2 with ⟨rfl, rfl, rfl⟩ | ⟨k2, v2, rfl, rfl⟩
  ·rcases key lo lo' b r1 0 e1 with ⟨rfl, rfl, rfl⟩ | ⟨k1, v1, rfl, rfl⟩
   ·simp [Instr.sliceBounds]
   ·simp only [Instr.sliceBounds, Sem.run_bind, Sem.run_pure, Result.andThen_ok, fB k1 b _ _ l1]
  ·rcases key lo lo' b r1 0 e1 with ⟨rfl, rfl, rfl⟩ | ⟨k1, v1, rfl, rfl⟩
   ·simp only [Instr.sliceBounds, Sem.run_bind, Sem.run_pure, Result.andThen_ok, fB k2 h _ _ l2]
   ·simp only [Instr.sliceBounds, Sem.run_bind, Sem.run_pure, Result.andThen_ok, fB k2 h _ _ l2, fB k1 b _ _ l1]
 ·rcases key hi hi' h r2 len e2 with ⟨rfl, rfl, rfl⟩ | ⟨k2, v2, rfl, rfl⟩
  ·simp at hm
  ·rcases key lo lo' b r1 0 e1 with ⟨rfl, rfl, rfl⟩ | ⟨k1, v1, rfl, rfl⟩
   ·simp only [Instr.sliceBounds, Sem.run_bind, Sem.run_pure, Result.andThen_ok, fB k3 m _ _ l3, fB k2 h _ _ l2]
   ·simp only [Instr.sliceBounds, Sem.run_bind, Sem.run_pure, Result.andThen_ok, fB k3 m _ _ l3, fB k2 h _ _ l2, fB k1 b _ _ l1]
theorem kU (l : List Nat) (b h : Nat) : (ar l).extract b h = ar ((l.drop b).take (h - b)) := by
 apply ByteArray.ext
 apply Array.toList_inj.1
 simp [ar, ByteArray.data_extract, List.map_drop, List.map_take, List.extract_eq_take_drop]
theorem Js {l : wF} {a : Ad} {sz b : Nat} (hsz : 0 < sz) : (l.lim - (a.c + b * sz)) / sz = (l.lim - a.c) / sz - b := by
 rw [← Nat.sub_sub, Nat.mul_comm b sz, Nat.sub_mul_div]
theorem zK {ty : TypeId} {x : V} {X : Value} {lo hi mx : Option V} {lo' hi' mx' : Option Value} {v : V} (hx : den ρ x = some X) (r1 : Bp ρ lo lo') (r2 : Bp ρ hi hi') (r3 : Bp ρ mx mx')
 (e : pd P ty x lo hi mx = some v) : ∃ y, den ρ v = some y ∧ (Instr.sliceAt ty X lo' hi' mx').run P w = .ok y w := by
 unfold pd at e
 split at e
 ·rename_i hu
  split at e
  ·rename_i l
   cases mx' with
   | some _ => exact r3.elim
   | none =>
   simp only at e
   split at e
   ·rename_i b h hb hh
    cases hc : (Nat.ble h l.length && Nat.ble b h) with
    | false => simp [hc] at e
    | true =>
     simp only [hc, cond_true, Option.some.injEq] at e
     simp only [Bool.and_eq_true] at hc
     subst e
     cases hx
     have hs : (ar l).size = l.length := by simp [ar, ByteArray.size]
     have := jH (P := P) (w := w) (isS := false) (len := l.length) (cap := l.length) (m := l.length) r1 r2 r3 rfl hh hb (Nat.le_refl _) (Nat.le_of_ble_eq_true hc.1) (Nat.le_of_ble_eq_true hc.2) (by simp)
     exact ⟨_, rfl, by simp [Instr.sliceAt, Instr.slice, aj hu, hs, this, kU]⟩
   ·cases e
  ·cases e
 ·rename_i el hu
  split at e
  ·rename_i sz hsz
   split at e
   ·
    cases hx
    cases hm : (mx.isSome && !hi.isSome) with
    | true => rw [hm] at e; cases e
    | false =>
     rw [hm] at e
     simp only [cond_false] at e
     cases hc : (lC (mq lo 0) && lC (mq hi 0) && lC (mq mx 0)) with
     | false => simp [hc] at e
     | true =>
      simp only [hc, cond_true, Option.some.injEq] at e
      subst e
      simp only [Bool.and_eq_true] at hc
      have hz : ∀ o : Option Nat, lC o = true → o = some 0 := fun o ho => by
       cases o with
       | none => cases ho
       | some n => rw [Nat.eq_of_beq_eq_true ho]
      have := jH (P := P) (w := w) (isS := true) (len := 0) (cap := 0) r1 r2 r3 (hz _ hc.2) (hz _ hc.1.2) (hz _ hc.1.1) (Nat.le_refl _) (Nat.le_refl _) (Nat.le_refl _)
       (fun h1 => by cases hh : hi with | some _ => rfl | none => simp [h1, hh] at hm)
      exact ⟨_, rfl, by simp [Instr.sliceAt, Instr.slice, aj hu, cI hsz, this]⟩
   ·
    rename_i a z len cap sz'
    cases hz0 : Nat.beq sz' 0 with
    | true => rw [hz0] at e; cases e
    | false =>
    rw [hz0] at e
    simp only [cond_false] at e
    obtain ⟨l, g1, g2, g3, g4, g5, rfl⟩ := fy hx (.inl (Hr hz0))
    cases hm : (Nat.beq sz sz' && !(mx.isSome && !hi.isSome)) with
    | false => rw [hm] at e; cases e
    | true =>
     rw [hm] at e
     simp only [cond_true] at e
     simp only [Bool.and_eq_true] at hm
     obtain rfl := Nat.eq_of_beq_eq_true hm.1
     have hmh : mx.isSome = true → hi.isSome = true := fun h1 => by cases hh : hi with | some _ => rfl | none => simp [h1, hh] at hm
     split at e
     ·rename_i b h hb hh
      split at e
      ·cases mx' with
       | some _ => exact r3.elim
       | none =>
       split at e
       ·rename_i c
        cases hc : (Nat.ble h c && Nat.ble b h) with
        | false => simp [hc] at e
        | true =>
         simp only [hc, cond_true] at e
         simp only [Bool.and_eq_true] at hc
         have c1 := Nat.le_of_ble_eq_true hc.1
         have c2 := Nat.le_of_ble_eq_true hc.2
         have hrun := jH (P := P) (w := w) (isS := true) (len := len) (cap := c) r1 r2 r3 rfl hh hb (Nat.le_refl _) c1 c2 (by simp)
         have hgo : (Instr.sliceAt ty (.slice (some ⟨l.b, a.c - l.base, none⟩) len c) lo' hi' none).run P w = .ok (.slice (some (if c = b then ⟨l.b, a.c - l.base, none⟩ else (⟨l.b, a.c - l.base, none⟩ : Addr).add (b * sz))) (h - b) (c - b)) w := by
          simp only [Instr.sliceAt, Instr.slice, Sem.run_bind, aj hu, Result.andThen_ok, hrun, cI hsz, Sem.run_pure]
          split <;> simp
         cases hcb : Nat.beq c b with
         | true =>
          simp only [hcb, cond_true, Option.some.injEq] at e
          subst e
          obtain rfl := Nat.eq_of_beq_eq_true hcb
          refine ⟨_, dN g1 g3 g3 (by show h - c ≤ 0; omega) g5, ?_⟩
          refine Eq.trans hgo ?_
          rw [if_pos rfl]
          simp [bm, cC]
         | false =>
          simp only [hcb, cond_false, Option.some.injEq] at e
          subst e
          have hne : ¬ c = b := fun e => by subst e; simp at hcb
          refine ⟨_, dN (l := l) g1 (by show l.base ≤ a.c + b * sz; omega) (by show l.base ≤ a.c + b * sz; omega) (by show h - b ≤ c - b; omega) g5, ?_⟩
          refine Eq.trans hgo ?_
          rw [if_neg hne, jY]
          simp only [bm, cC, eK]
          rw [show a.c + b * sz - l.base = a.c - l.base + b * sz by omega]
       ·cases hc : (Nat.ble h len && Nat.ble b h) with
        | false => simp [hc] at e
        | true =>
         simp only [hc, cond_true] at e
         simp only [Bool.and_eq_true] at hc
         have c1 := Nat.le_of_ble_eq_true hc.1
         have c2 := Nat.le_of_ble_eq_true hc.2
         have hrun := jH (P := P) (w := w) (isS := true) (len := len) (cap := cC l a none sz) r1 r2 r3 rfl hh hb (Nat.le_refl _) (Nat.le_trans c1 g4) c2 (by simp)
         have hgo : ∀ q : Addr, (Instr.sliceAt ty (.slice (some q) len (cC l a none sz)) lo' hi' none).run P w = .ok (.slice (some (if cC l a none sz = b then q else q.add (b * sz))) (h - b) (cC l a none sz - b)) w := by
          intro q
          simp only [Instr.sliceAt, Instr.slice, Sem.run_bind, aj hu, Result.andThen_ok, hrun, cI hsz, Sem.run_pure]
          split <;> simp
         cases hcb : Nat.beq b 0 with
         | true =>
          simp only [hcb, cond_true, Option.some.injEq] at e
          subst e
          obtain rfl := Nat.eq_of_beq_eq_true hcb
          refine ⟨_, dN g1 g2 g3 (Nat.le_trans c1 g4) g5, ?_⟩
          rw [hgo]
          simp [jY]
         | false =>
          simp only [hcb, cond_false, Option.some.injEq] at e
          subst e
          have hb0 : 0 < b := Nat.pos_of_ne_zero fun e => by subst e; simp at hcb
          have hcap : cC l (eK a (b * sz)) none sz = cC l a none sz - b := Js g5
          have hco : bm l a z none sz = a.c := eD (len := len) g4 (by omega)
          have hco2 : bm l (eK a (b * sz)) a.c none sz = if cC l a none sz = b then a.c else a.c + b * sz := by
           show (if cC l (eK a (b * sz)) none sz = 0 then a.c else a.c + b * sz) = _
           rw [hcap]
           by_cases hq : cC l a none sz = b
           ·rw [if_pos hq, if_pos (by omega)]
           ·rw [if_neg hq, if_neg (by omega)]
          refine ⟨_, dN (l := l) g1 (by rw [hco2]; split <;> omega) (by show l.base ≤ a.c + b * sz; omega) (by rw [hcap]; omega) g5, ?_⟩
          rw [hgo, hco, hco2, hcap]
          congr 4
          split
          ·rfl
          ·rw [jY, show a.c + b * sz - l.base = a.c - l.base + b * sz by omega]
      ·rename_i mv
       split at e
       ·rename_i m hmn
        cases hc : (Nat.ble m len && Nat.ble h m && Nat.ble b h) with
        | false => simp [hc] at e
        | true =>
         simp only [hc, cond_true] at e
         simp only [Bool.and_eq_true] at hc
         have c1 := Nat.le_of_ble_eq_true hc.1.1
         have c2 := Nat.le_of_ble_eq_true hc.1.2
         have c3 := Nat.le_of_ble_eq_true hc.2
         have hrun := jH (P := P) (w := w) (isS := true) (len := len) (cap := cC l a cap sz) r1 r2 r3 hmn hh hb (Nat.le_trans c1 g4) c2 c3 hmh
         have hgo : ∀ q : Addr, (Instr.sliceAt ty (.slice (some q) len (cC l a cap sz)) lo' hi' mx').run P w = .ok (.slice (some (if m = b then q else q.add (b * sz))) (h - b) (m - b)) w := by
          intro q
          simp only [Instr.sliceAt, Instr.slice, Sem.run_bind, aj hu, Result.andThen_ok, hrun, cI hsz, Sem.run_pure]
          split <;> simp
         cases hcb : Nat.beq m b with
         | true =>
          simp only [hcb, cond_true] at e
          cases hk : (cap.isSome || Nat.blt 0 len || Nat.beq z a.c) with
          | false => simp [hk] at e
          | true =>
           simp only [hk, cond_true, Option.some.injEq] at e
           subst e
           obtain rfl := Nat.eq_of_beq_eq_true hcb
           have hco : bm l a z cap sz = a.c := by
            simp only [Bool.or_eq_true] at hk
            rcases hk with (hk | hk) | hk
            ·cases cap with
             | some c => rfl
             | none => cases hk
            ·exact eD g4 (kY hk)
            ·obtain rfl := Nat.eq_of_beq_eq_true hk
             cases cap with
             | some c => rfl
             | none => simp [bm]
           refine ⟨_, dN g1 g3 g3 (by show h - m ≤ 0; omega) g5, ?_⟩
           rw [hgo, if_pos rfl, hco]
           simp [bm, cC]
         | false =>
          simp only [hcb, cond_false, Option.some.injEq] at e
          subst e
          have hne : ¬ m = b := fun e => by subst e; simp at hcb
          have hco : bm l a z cap sz = a.c := eD g4 (by omega)
          refine ⟨_, dN (l := l) g1 (by show l.base ≤ a.c + b * sz; omega) (by show l.base ≤ a.c + b * sz; omega) (by show h - b ≤ m - b; omega) g5, ?_⟩
          rw [hgo, if_neg hne, hco, jY]
          simp only [bm, cC, eK]
          rw [show a.c + b * sz - l.base = a.c - l.base + b * sz by omega]
       ·cases e
     ·cases e
   ·cases e
  ·cases e
 ·cases e
theorem oK (h : HR ρ s w) (ht : TR ρ t tm) {ty : TypeId} {x : Operand} {lo hi mx : Option Operand} {nx : Nx} (e : bc s (gT P ty (eval t x) (gm t lo) (gm t hi) (gm t mx)) = some nx) :
 wx P ρ w s nx ((do pure (Next.value (← Instr.sliceAt ty (rv tm x) (lo.map (rv tm)) (hi.map (rv tm)) (mx.map (rv tm)))) : Sem Next).run P w) := by
 refine aZ h e fun v hv => ?_
 unfold gT at hv
 split at hv
 ·rename_i x' hx
  split at hv
  ·rename_i lo' hlo
   split at hv
   ·rename_i hi' hhi
    split at hv
    ·rename_i mx' hmx
     exact zK (am ht hx) (nB ht hlo) (nB ht hhi) (nB ht hmx) hv
    ·cases hv
   ·cases hv
  ·cases hv
 ·cases hv
end ops
section ops
variable {P : Program} {ρ : aq} {s : S} {w : World} {t : T V} {tm : Array Value}
def GG (ρ : aq) : List (Nat × V) → List (Nat × Value) → Prop
 | [], [] => True
 | (i, v) :: r, (j, y) :: q => i = j ∧ den ρ v = some y ∧ GG ρ r q
 | _, _ => False
theorem jm (ht : TR ρ t tm) : ∀ {l : List (Nat × Operand)} {vs : List (Nat × V)}, dR t l = some vs → GG ρ vs (l.map fun (i, x) => (i, rv tm x))
 | [], vs, h => by cases h; trivial
 | (i, x) :: r, vs, h => by
  simp only [dR] at h
  cases hx : eval t x with
  | none => simp [hx] at h
  | some v =>
   cases hr : dR t r with
   | none => simp [hx, hr] at h
   | some q =>
    simp only [hx, hr] at h; cases h
    exact ⟨rfl, am ht hx, jm ht hr⟩
theorem yt (off : Nat) : ∀ (vs : List Value) (k : Nat) (c : Array Value), off + k + vs.length ≤ c.size →
 ((vs.zipIdx k).foldl (fun cs x => cs.setIfInBounds (off + x.2) x.1) c).size = c.size ∧
 ∀ j, ((vs.zipIdx k).foldl (fun cs x => cs.setIfInBounds (off + x.2) x.1) c)[j]? = if off + k ≤ j ∧ j < off + k + vs.length then vs[j - (off + k)]? else c[j]?
 | [], k, c, _ => ⟨rfl, fun j => by rw [if_neg (by simp)]; rfl⟩
 | v :: r, k, c, h => by
  simp only [List.length_cons] at h
  simp only [List.zipIdx_cons, List.foldl_cons]
  obtain ⟨h1, h2⟩ := yt off r (k + 1) (c.setIfInBounds (off + k) v) (by simp; omega)
  refine ⟨by simpa using h1, fun j => ?_⟩
  rw [h2 j]
  by_cases hj : off + (k + 1) ≤ j ∧ j < off + (k + 1) + r.length
  ·rw [if_pos hj, if_pos (by simp; omega)]
   have : j - (off + k) = (j - (off + (k + 1))) + 1 := by omega
   rw [this]; simp
  ·rw [if_neg hj]
   by_cases hj2 : j = off + k
   ·subst hj2; rw [if_pos (by simp)]; simp [show off + k < c.size by omega]
   ·rw [if_neg (by simp; omega)]; simp [Ne.symm hj2]
theorem jT {placeV place : Nat → Option (Nat × Nat)} (hp : ∀ i x, placeV i = some x → place i = some x) : ∀ {parts : List (Nat × V)} {parts' : List (Nat × Value)} {cs out : List V} {ys : Array Value},
 GG ρ parts parts' → aY ρ cs = some ys.toList → kE placeV cs parts = some out → ∃ zs : Array Value, Instr.fill place ys parts' = some zs ∧ aY ρ out = some zs.toList
 | [], [], cs, out, ys, _, hd, h => by cases h; exact ⟨ys, rfl, hd⟩
 | (i, v) :: r, (j, y) :: q, cs, out, ys, ⟨hij, hv, hr⟩, hd, h => by
  subst hij
  simp only [kE] at h
  split at h
  ·cases h
  ·rename_i off n hpl
   cases hb : (Nat.beq v.cells.length n && Nat.blt 0 n) with
   | false => rw [hb] at h; cases h
   | true =>
    rw [hb] at h
    simp only [cond_true] at h
    simp only [Bool.and_eq_true] at hb
    obtain rfl := Nat.eq_of_beq_eq_true hb.1
    have hpos := kY hb.2
    cases ho : bw cs off v.cells with
    | none => simp [ho] at h
    | some cs' =>
     simp only [ho, Option.bind_some] at h
     obtain ⟨g1, g2, g3⟩ := gJ ho
     have hcl := mn hv
     have hlen := bG hd
     rw [Array.length_toList] at hlen
     have hvc := eB hv
     let c' : Array Value := (y.cells.toList.zipIdx 0).foldl (fun cs x => cs.setIfInBounds (off + x.2) x.1) ys
     have hc' : c' = y.cells.zipIdx.foldl (fun cs (c, j) => cs.setIfInBounds (off + j) c) ys := by
      show List.foldl _ _ _ = _
      rw [← Array.foldl_toList, Array.toList_zipIdx]
     have hroom : off + 0 + y.cells.toList.length ≤ ys.size := by
      rcases g2 with g2 | g2
      ·rw [g2] at hpos; simp at hpos
      ·rw [Array.length_toList]; omega
     obtain ⟨k1, k2⟩ := yt off y.cells.toList 0 ys hroom
     have hsz : c'.toList.length = ys.size := (Array.length_toList (xs := c')).trans k1
     have hd' : aY ρ cs' = some c'.toList := by
      refine kL (by rw [g1, hsz, hlen]) fun i x hx => ?_
      rw [g3 i] at hx
      rw [Array.getElem?_toList, show c'[i]? = _ from k2 i]
      have hyl : y.cells.toList.length = v.cells.length := by rw [Array.length_toList, hcl]
      by_cases hj : off ≤ i ∧ i < off + v.cells.length
      ·rw [if_pos hj] at hx
       rw [if_pos (by omega)]
       obtain ⟨z, hz, hz'⟩ := eC _ hvc hx
       exact ⟨z, hz, by simpa using hz'⟩
      ·rw [if_neg hj] at hx
       rw [if_neg (by omega)]
       obtain ⟨z, hz, hz'⟩ := eC _ hd hx
       exact ⟨z, hz, by rw [← hz', Array.getElem?_toList]⟩
     obtain ⟨zs, hz, hzd⟩ := jT hp hr hd' h
     refine ⟨zs, ?_, hzd⟩
     simp only [Instr.fill, hp _ _ hpl]
     rw [Array.length_toList] at hroom
     rw [if_neg (by simp [hcl]; omega), ← hc']
     exact hz
 | [], _ :: _, _, _, _, h, _, _ => h.elim
 | _ :: _, [], _, _, _, h, _, _ => h.elim
theorem uX : ∀ {fs : List Field}, fs.all (fun f => (size P f.type).isSome) = true →
 ∃ places, fs.mapM (fun f => (P.info? f.type).map fun i => (f.offset, i.size)) = some places ∧ ∀ (i : Nat) (f : Field) (n : Nat), fs[i]? = some f → size P f.type = some n → places[i]? = some (f.offset, n)
 | [], _ => ⟨[], rfl, fun i f n h => by simp at h⟩
 | f :: r, h => by
  simp only [List.all_cons, Bool.and_eq_true] at h
  obtain ⟨q, h1, h2⟩ := uX h.2
  obtain ⟨n, hn⟩ := Option.isSome_iff_exists.1 h.1
  obtain ⟨i, hi, rfl⟩ := rj hn
  refine ⟨(f.offset, i.size) :: q, by simp [List.mapM_cons, hi, h1], fun j g m hj hm => ?_⟩
  cases j with
  | zero => simp at hj; subst hj; rw [hn] at hm; cases hm; rfl
  | succ j => simp at hj; simpa using h2 j g m hj hm
theorem wr {x : Option (List V)} {v : V} (h : DO x = some v) : ∃ l, x = some l ∧ v = .agg l := by
 cases x with
 | none => cases h
 | some l => cases h; exact ⟨l, rfl, rfl⟩
theorem oN (h : HR ρ s w) (ht : TR ρ t tm) {ty : TypeId} {parts : Array (Nat × Operand)} {nx : Nx} (e : bc s (fZ P ty (dR t parts.toList)) = some nx) :
 wx P ρ w s nx ((do pure (Next.value (← Instr.build ty (parts.map fun (i, x) => (i, rv tm x)))) : Sem Next).run P w) := by
 refine aZ h e fun v hv => ?_
 unfold fZ at hv
 split at hv
 ·rename_i z hz
  obtain ⟨zv, it, hi, hzi, hden⟩ := eM hz
  have hzc := eB (hden ρ)
  split at hv
  ·rename_i l hl
   have hp := jm ht hl
   have hpl : (parts.toList.map fun (i, x) => (i, rv tm x)) = (parts.map fun (i, x) => (i, rv tm x)).toList := by simp
   rw [hpl] at hp
   split at hv
   ·rename_i fs hu
    cases hs : fs.toList.all (fun f => (size P f.type).isSome) with
    | false => rw [hs] at hv; cases hv
    | true =>
     rw [hs] at hv
     simp only [cond_true] at hv
     obtain ⟨out, ho, rfl⟩ := wr hv
     obtain ⟨places, h1, h2⟩ := uX hs
     obtain ⟨zs, hz1, hz2⟩ := jT (place := (places.toArray[·]?)) (fun i x hx => by
      unfold nz at hx
      split at hx
      ·rename_i f hf
       split at hx
       ·rename_i n hn
        cases hx
        simpa using h2 i f n (by simpa using hf) hn
       ·cases hx
      ·cases hx) hp hzc ho
     refine ⟨.agg zs, by simp only [den, hz2], run_build w ty _ zs ?_⟩
     simp only [Program.built, hi, hu, hzi, h1, hz1]
   ·rename_i n el hu
    split at hv
    ·rename_i m hm
     obtain ⟨ie, hie, rfl⟩ := rj hm
     obtain ⟨out, ho, rfl⟩ := wr hv
     obtain ⟨zs, hz1, hz2⟩ := jT (place := fun i => some (i * ie.size, ie.size)) (fun i x hx => hx) hp hzc ho
     refine ⟨.agg zs, by simp only [den, hz2], run_build w ty _ zs ?_⟩
     simp only [Program.built, hi, hu, hzi, hie, hz1]
    ·cases hv
   ·cases hv
  ·cases hv
 ·cases hv
theorem pE (h : HR ρ s w) (ht : TR ρ t tm) {ty : TypeId} {len : Nat} {parts : Array (Nat × Operand)} {nx : Nx} (e : bt P s ty len (dR t parts.toList) = some nx) :
 Bs P ρ w nx ((do pure (Next.value (← Instr.buildSlice ty len (parts.map fun (i, x) => (i, rv tm x)))) : Sem Next).run P w) := by
 unfold bt at e
 split at e
 ·rename_i el hu
  split at e
  ·rename_i l hl
   have hp := jm ht hl
   have hpl : (parts.toList.map fun (i, x) => (i, rv tm x)) = (parts.map fun (i, x) => (i, rv tm x)).toList := by simp
   rw [hpl] at hp
   split at e
   ·rename_i z hz
    obtain ⟨zv, it, hi, hzi, hden⟩ := eM hz
    have hzc := eB (hden ρ)
    split at e
    ·rename_i n hn
     cases hb : (Nat.ble (len * n) 10000 && !(Nat.beq n 0) && Nat.beq z.cells.length n) with
     | false => rw [hb] at e; cases e
     | true =>
      rw [hb] at e
      simp only [cond_true] at e
      simp only [Bool.and_eq_true] at hb
      have b1 := Nat.le_of_ble_eq_true hb.1.1
      have b2 : 0 < n := by
       rcases Nat.eq_zero_or_pos n with h0 | h0
       ·subst h0; simp at hb
       ·exact h0
      have b3 := Nat.eq_of_beq_eq_true hb.2
      unfold lh at e
      split at e
      ·rename_i cs hcs
       have hzl : zv.cells.toList.length = n := by have := bG hzc; omega
       have hrow := vS zv.cells.toList n hzl b2 len
       have hd : aY ρ (List.replicate len z.cells).flatten = some ((List.replicate len zv.cells.toList).flatten.toArray).toList := by simpa using gU hzc len
       obtain ⟨zs, hz1, hz2⟩ := jT (place := fun i => some (i * n, n)) (fun i x hx => hx) hp hd hcs
       have key := qn (P := P) h (elem := el) hz2 (len := len) (sz := n) (cap := len) (Nat.le_refl _) b2
       simp only [bS, bV] at e key
       cases e
       have hrow2 : Array.map (fun x => zv.cells[x % zv.cells.size]!) (Array.range (len * n)) = (List.replicate len zv.cells.toList).flatten.toArray := by
        apply Array.toList_inj.1
        rw [← hrow]
        simp [Array.toList_range]
       have hrun : (Instr.buildSlice ty len (parts.map fun (i, x) => (i, rv tm x))).run P w = (do pure (.slice (some (← newRow el zs)) len len) : Sem Value).run P w := by
        simp only [Instr.buildSlice, Sem.run_bind, aj hu, Result.andThen_ok, cI hn]
        rw [if_neg (by omega)]
        by_cases hc0 : len * n = 0
        ·rw [if_pos hc0]
         have g : ∀ f : Nat → Value, Array.map f (Array.range 0) = #[] := fun f => by simp
         rw [← hrow2, hc0, g] at hz1
         simp only [Sem.run_bind, Sem.run_pure, Result.andThen_ok, hc0, g, hz1]
        ·rw [if_neg hc0]
         simp only [Sem.run_bind, fQ hi hzi, Result.andThen_ok, Sem.run_pure, hrow2, hz1]
       simp only [Sem.run_bind] at hrun key ⊢
       rw [hrun]
       simpa [newRow] using key
      ·cases e
    ·cases e
   ·cases e
  ·cases e
 ·cases e
end ops
end Go.AI
