/- The evaluator by which runs of the program are reckoned, and that it is sound: part 5. No conditions beyond those of the row. -/
import Derived.Test.YtkeaedhoaamfnaaGreatDoorA4
import Derived.Lib.Bytealg
import Derived.Defers
import Derived.Recover
import Derived.RangeFuncRecord
set_option linter.unusedVariables false
set_option linter.unusedSimpArgs false
noncomputable section
namespace Go.AI
section ops
variable {P : Program} {ρ : aq} {s : S} {w : World} {t : T V} {tm : Array Value}
theorem ml {x : V} {ys : List Value} (h : aY ρ [x] = some ys) : ∃ X, den ρ x = some X ∧ ys = [X] := by
 obtain ⟨X, q, h1, h2, rfl⟩ := aW.1 h
 cases h2; exact ⟨X, h1, rfl⟩
theorem AP {x y : V} {ys : List Value} (h : aY ρ [x, y] = some ys) : ∃ X Y, den ρ x = some X ∧ den ρ y = some Y ∧ ys = [X, Y] := by
 obtain ⟨X, q, h1, h2, rfl⟩ := aW.1 h
 obtain ⟨Y, h3, rfl⟩ := ml h2
 exact ⟨X, Y, h1, h3, rfl⟩
theorem vg (h : HR ρ s w) {ts : Array TypeId} {ty t0 : TypeId} {x : V} {X : Value} {v : V} (h0 : ts[0]? = some t0) (hx : den ρ x = some X) (e : mK P t0 s x = some v) :
 ∃ y, den ρ v = some y ∧ (Builtin.len_ ts ty #[X]).run P w = .ok y w := by
 unfold mK at e
 split at e
 ·rename_i l hu
  cases e; cases hx
  exact ⟨_, by rw [aS]; rfl, by simp [Builtin.len_, h0, aj hu, eh, goInt]⟩
 ·rename_i n _ _ hu
  cases e
  exact ⟨_, rfl, by simp [Builtin.len_, h0, aj hu, goInt]⟩
 ·rename_i el a z n cap sz hu
  cases e
  obtain ⟨b', c', rfl, _⟩ := sj hx
  exact ⟨_, by rw [aS]; rfl, by simp [Builtin.len_, h0, aj hu, goInt]⟩
 ·rename_i el hu
  cases e; cases hx
  exact ⟨_, rfl, by simp [Builtin.len_, h0, aj hu, goInt]⟩
 ·rename_i k el hu
  cases e; cases hx
  exact ⟨_, rfl, by simp [Builtin.len_, h0, aj hu, goInt]⟩
 ·rename_i k el r hu
  split at e
  ·rename_i es c hg
   cases e
   obtain ⟨l, hl, rfl⟩ := Ar hx
   obtain ⟨l', rs, g1, g2, g3⟩ := h.blk _ _ hg
   rw [hl] at g1; cases g1
   have : es.length = rs.size := (fV.length g3).trans (Array.length_toList (xs := rs))
   exact ⟨.int .i64 (rs.size : Nat), by rw [← this]; rfl, by simp [Builtin.len_, h0, aj hu, goInt, lS g2]⟩
  ·cases e
 ·cases e
theorem wg {ts : Array TypeId} {ty t0 : TypeId} {x : V} {X : Value} {v : V} (h0 : ts[0]? = some t0) (hx : den ρ x = some X) (e : Rp P t0 x = some v) :
 ∃ y, den ρ v = some y ∧ (Builtin.cap_ ts ty #[X]).run P w = .ok y w := by
 unfold Rp at e
 split at e
 ·rename_i el hu
  split at e
  ·cases e; cases hx
   exact ⟨_, rfl, by simp [Builtin.cap_, h0, aj hu, goInt]⟩
  ·rename_i a z n c sz
   cases e
   obtain ⟨b', c', rfl, hcc⟩ := sj hx
   obtain rfl := hcc _ rfl
   exact ⟨_, by rw [aS]; rfl, by simp [Builtin.cap_, h0, aj hu, goInt]⟩
  ·cases e
 ·cases e
theorem jS {f : V → V → Option V} {g : Value → Value → Sem Value} (hfg : ∀ x y v X Y, f x y = some v → den ρ x = some X → den ρ y = some Y → ∃ z, den ρ v = some z ∧ (g X Y).run P w = .ok z w) :
 ∀ (l : List V) (ys : List Value) (x : V) (X : Value) (v : V), aY ρ l = some ys → den ρ x = some X → l.foldlM f x = some v → ∃ y, den ρ v = some y ∧ (ys.foldlM g X).run P w = .ok y w
 | [], ys, x, X, v, hl, hx, h => by
  cases hl
  simp at h; subst h
  exact ⟨X, hx, rfl⟩
 | a :: l, ys, x, X, v, hl, hx, h => by
  obtain ⟨y, q, h1, h2, rfl⟩ := aW.1 hl
  simp only [List.foldlM_cons] at h
  cases hf : f x a with
  | none => rw [hf] at h; simp at h
  | some u =>
   rw [hf] at h
   simp at h
   obtain ⟨z, z1, z2⟩ := hfg _ _ _ _ _ hf hx h1
   obtain ⟨y', k1, k2⟩ := jS hfg l q u z v h2 z1 h
   exact ⟨y', k1, by simp only [List.foldlM_cons, Sem.run_bind, z2, Result.andThen_ok, k2]⟩
theorem uW (x y v : V) (X Y : Value) (h : Qh x y = some v) (hx : den ρ x = some X) (hy : den ρ y = some Y) : ∃ z, den ρ v = some z ∧ (Builtin.max2 X Y).run P w = .ok z w := by
 unfold Qh at h
 split at h
 ·rename_i j a k b
  cases hk : aR j k with
  | false => rw [hk] at h; cases h
  | true =>
   rw [hk] at h
   simp only [cond_true, Option.some.injEq] at h
   subst h; cases hx; cases hy
   refine ⟨_, rfl, ?_⟩
   simp only [Builtin.max2, Sem.run_pure]
   by_cases hc : b > a <;> simp [hc]
 ·cases h
theorem uV (x y v : V) (X Y : Value) (h : Qg x y = some v) (hx : den ρ x = some X) (hy : den ρ y = some Y) : ∃ z, den ρ v = some z ∧ (Builtin.min2 X Y).run P w = .ok z w := by
 unfold Qg at h
 split at h
 ·rename_i j a k b
  cases hk : aR j k with
  | false => rw [hk] at h; cases h
  | true =>
   rw [hk] at h
   simp only [cond_true, Option.some.injEq] at h
   subst h; cases hx; cases hy
   refine ⟨_, rfl, ?_⟩
   simp only [Builtin.min2, Sem.run_pure]
   by_cases hc : b < a <;> simp [hc]
 ·cases h
theorem AS (h : HR ρ s w) {sz n k : Nat} {y : V} {Y : Value} {l : List V} (hy : den ρ y = some Y) (e : FN s sz n y = some (l, k)) :
 ∃ ys m, aY ρ l = some ys ∧ (Builtin.lenOf Y).run P w = .ok m w ∧ k = Nat.min m n ∧ (Builtin.firstCells sz k Y).run P w = .ok ys.toArray w := by
 unfold FN at e
 split at e
 ·cases e; cases hy
  exact ⟨[], 0, rfl, rfl, by simp, rfl⟩
 ·rename_i b z m cap sz'
  cases hz0 : Nat.beq sz' 0 with
  | true => rw [hz0] at e; cases e
  | false =>
  rw [hz0] at e
  simp only [cond_false] at e
  cases hb : Nat.beq sz sz' with
  | false => rw [hb] at e; cases e
  | true =>
   rw [hb] at e
   obtain rfl := Nat.eq_of_beq_eq_true hb
   simp only [cond_true] at e
   split at e
   ·rename_i l' hl
    cases e
    obtain ⟨lo, g1, g2, g3, g4, g5, rfl⟩ := fy hy (.inl (Hr hz0))
    obtain ⟨lo', ys, k1, k2, k3, k4, k5⟩ := nq (P := P) h hl
    rw [g1] at k1; cases k1
    refine ⟨ys, m, k3, rfl, rfl, ?_⟩
    rcases Nat.eq_zero_or_pos m with h0 | h0
    ·subst h0
     have : ys = [] := by simpa using k4
     subst this
     have := run_loadCells_list (P := P) (w := w) ⟨lo.b, bm lo b z cap sz - lo.base, none⟩ [] (fun j v h => by simp at h)
     simp only [Builtin.firstCells, Nat.zero_min, Nat.zero_mul]
     simpa using this
    ·rw [eD g4 h0]; exact k5
   ·cases e
 ·rename_i l'
  cases e; cases hy
  refine ⟨_, l'.length, oo (l'.take (Nat.min l'.length n)), by simp [Builtin.lenOf, eh], rfl, ?_⟩
  have : (ar l').extract 0 (Nat.min l'.length n) = ar (l'.take (Nat.min l'.length n)) := by rw [kU]; simp
  have e2 : ∀ q : List Nat, Array.map (fun b => Value.int IntKind.u8 (b.toNat : Int)) (ar q).data = ((ar q).data.toList.map fun b => Value.int .u8 (b.toNat : Int)).toArray := fun q => by simp [← Array.toList_inj]
  simp only [Builtin.firstCells, this, Sem.run_pure, e2]
 ·cases e
theorem Do (h : HR ρ s w) {ts : Array TypeId} {ty t0 : TypeId} {x y : V} {X Y : Value} {nx : Nx} (h0 : ts[0]? = some t0) (hx : den ρ x = some X) (hy : den ρ y = some Y) (e : Mg P t0 s x y = some nx) :
 Bs P ρ w nx ((do pure (Next.value (← Builtin.copy_ ts ty #[X, Y])) : Sem Next).run P w) := by
 unfold Mg at e
 split at e
 ·rename_i el hu
  split at e
  ·rename_i a z n cap sz
   split at e
   ·rename_i sz' hsz
    cases hb : (Nat.beq sz sz' && Nat.blt 0 n) with
    | false => rw [hb] at e; cases e
    | true =>
     rw [hb] at e
     simp only [cond_true] at e
     simp only [Bool.and_eq_true] at hb
     obtain rfl := Nat.eq_of_beq_eq_true hb.1
     have hn := kY hb.2
     obtain ⟨lo, g1, g2, g3, g4, g5, rfl⟩ := fy hx (.inr hn)
     rw [eD g4 hn]
     unfold Mh at e
     split at e
     ·rename_i l k hc
      obtain ⟨ys, m, y1, y2, rfl, y4⟩ := AS (P := P) h hy hc
      split at e
      ·rename_i s1 hst
       cases e
       obtain ⟨ad, w', q1, q2, q3, q4⟩ := ii P h hst y1
       rw [qJ g1 g3] at q1; cases q1
       refine ⟨ρ, _, w', ?_, by rw [aS]; rfl, q3, q4⟩
       simp [Builtin.copy_, h0, aj hu, cI hsz, y2, y4, q2, goInt]
      ·cases e
     ·cases e
   ·cases e
  ·cases e
 ·cases e
theorem DC (h : HR ρ s w) {b : Builtin} {ts : Array TypeId} {ty : TypeId} {consts : Array Bool} {args : List V} {ys : List Value} (hd : aY ρ args = some ys) {nx : Nx} (e : eg P b ts args s = some nx) :
 Bs P ρ w nx ((Go.builtin b ts ty consts ys.toArray).run P w) := by
 unfold eg at e
 split at e
 ·split at e
  ·rename_i t0 h0
   split at e
   ·rename_i t1 h1
    split at e
    ·rename_i x y
     obtain ⟨X, Y, hx, hy, rfl⟩ := AP hd
     unfold ff at e
     split at e
     ·rename_i v s' ha
      cases e
      obtain ⟨ρ', r, w', j1, j2, j3, j4⟩ := xw (ty := ty) h h0 h1 hx hy ha
      exact ⟨ρ', r, w', by simp [Go.builtin, j1], j2, j3, j4⟩
     ·cases e
    ·cases e
   ·cases e
  ·cases e
 ·split at e
  ·rename_i t0 h0
   split at e
   ·rename_i x
    obtain ⟨X, hx, rfl⟩ := ml hd
    exact (aZ h e fun v hv => vg h h0 hx hv).toR h
   ·cases e
  ·cases e
 ·refine (aZ (m := Builtin.max_ ts ty ys.toArray) h e fun v hv => ?_).toR h
  cases args with
  | nil => cases hv
  | cons x r =>
   obtain ⟨X, q, hx, hr, rfl⟩ := aW.1 hd
   exact jS uW r q x X v hr hx hv
 ·refine (aZ (m := Builtin.min_ ts ty ys.toArray) h e fun v hv => ?_).toR h
  cases args with
  | nil => cases hv
  | cons x r =>
   obtain ⟨X, q, hx, hr, rfl⟩ := aW.1 hd
   exact jS uV r q x X v hr hx hv
 ·cases e; exact ⟨rfl, h⟩
 ·split at e
  ·rename_i t0 h0
   split at e
   ·rename_i x y
    obtain ⟨X, Y, hx, hy, rfl⟩ := AP hd
    exact Do h h0 hx hy e
   ·cases e
  ·cases e
 ·split at e
  ·rename_i t0 h0
   split at e
   ·rename_i x
    obtain ⟨X, hx, rfl⟩ := ml hd
    exact (aZ h e fun v hv => wg h0 hx hv).toR h
   ·cases e
  ·cases e
 ·split at e
  ·rename_i tt v
   cases e
   obtain ⟨X, hx, rfl⟩ := ml hd
   refine ⟨X, hx, ?_, h⟩
   simp only [den] at hx
   split at hx
   ·cases hx
    simp [Go.builtin, Instr.panic]
   ·cases hx
  ·cases e
 ·cases e
def xE.entry : xE → Array Value → Sem Value
 | .indexByte => Extern.BytealgIndexByte.indexByte
 | .count => Extern.BytealgCount.count
structure iQ (E : cg) : Prop where
 ext : ∀ f k fn, E.ext f = some k → E.P.funcs[f]? = some fn → fn.body = none → (fn.name == "runtime.NumGoroutine") = false ∧ Extern.findNext fn = none ∧ Extern.find fn = some k.entry
theorem HU (x c : Nat) : (UInt8.ofNat x == UInt8.ofNat c) = Nat.beq (Nat.mod x 256) (Nat.mod c 256) := by
 rw [Bool.eq_iff_iff]
 simp only [beq_iff_eq, Nat.beq_eq]
 constructor
 ·intro h
  have := congrArg UInt8.toNat h
  simp at this; exact this
 ·intro h
  apply UInt8.toNat_inj.1
  simp; exact h
theorem qu (c : Nat) : ∀ (l : List Nat) (i : Nat), (match ce (Nat.mod c 256) l i with | some j => (Int.ofNat j) | none => -1) = if Lib.indexByte (l.map UInt8.ofNat) (UInt8.ofNat c) = -1 then -1 else Lib.indexByte (l.map UInt8.ofNat) (UInt8.ofNat c) + i
 | [], i => rfl
 | x :: l, i => by
  have ih := qu c l (i + 1)
  have hge := Lib.indexByte_ge (l.map UInt8.ofNat) (UInt8.ofNat c)
  simp only [ce, List.map_cons, Lib.indexByte, HU]
  cases hb : Nat.beq (Nat.mod x 256) (Nat.mod c 256) with
  | true => simp
  | false =>
   simp only [cond_false, Bool.false_eq_true, if_false]
   rw [ih]
   by_cases hq : Lib.indexByte (l.map UInt8.ofNat) (UInt8.ofNat c) = -1
   ·simp [hq]
   ·have h1 : (Lib.indexByte (l.map UInt8.ofNat) (UInt8.ofNat c) == -1) = false := by simpa using hq
    rw [if_neg hq, h1]
    simp only [Bool.false_eq_true, if_false]
    rw [if_neg (by omega)]
    push_cast
    omega
theorem vR (c : Nat) : ∀ (l : List Nat), countByte (Nat.mod c 256) l = Lib.countByte (l.map UInt8.ofNat) (UInt8.ofNat c)
 | [] => rfl
 | x :: l => by
  have ih := vR c l
  simp only [countByte, List.map_cons, Lib.countByte, List.count_cons, HU] at ih ⊢
  cases hb : Nat.beq (Nat.mod x 256) (Nat.mod c 256) with
  | true => simp [ih]
  | false => simp [ih]
theorem xg {k : xE} {args : List V} {ys : List Value} (hd : aY ρ args = some ys) {v : V} (e : fY k args = some v) :
 ∃ y, den ρ v = some y ∧ (k.entry ys.toArray).run P w = .ok y w := by
 unfold fY at e
 split at e
 ·rename_i l c
  obtain ⟨X, Y, hx, hy, rfl⟩ := AP hd
  cases hx; cases hy
  have hl : (ar l).data.toList = l.map UInt8.ofNat := by simp [ar]
  have hc : (Int.ofNat c).toNat.toUInt8 = UInt8.ofNat c := rfl
  split at e
  ·have := Lib.run_indexByteString (P := P) (ar l) (Int.ofNat c) w
   have h2 := qu c l 0
   rw [hl, hc] at this
   refine ⟨_, ?_, this⟩
   simp only [Option.some.injEq] at e
   subst e
   have hge := Lib.indexByte_ge (l.map UInt8.ofNat) (UInt8.ofNat c)
   generalize Lib.indexByte (l.map UInt8.ofNat) (UInt8.ofNat c) = r at *
   cases hq : ce (Nat.mod c 256) l 0 with
   | none =>
    rw [hq] at h2
    simp only at h2 ⊢
    by_cases hr : r = -1
    ·subst hr; rfl
    ·rw [if_neg hr] at h2; simp at h2; omega
   | some j =>
    rw [hq] at h2
    simp only at h2 ⊢
    by_cases hr : r = -1
    ·rw [if_pos hr] at h2; simp at h2
    ·rw [if_neg hr] at h2; simp at h2; rw [← h2]; rfl
  ·have := Lib.run_countString (P := P) (ar l) (Int.ofNat c) w
   rw [hl, hc] at this
   refine ⟨_, ?_, this⟩
   simp only [Option.some.injEq] at e
   subst e
   rw [aS, vR]; rfl
 ·cases e
theorem DB {E : cg} (hE : iQ E) (h : HR ρ s w) {f : FuncId} {args : List V} {ys : List Value} (hd : aY ρ args = some ys) {nx : Nx} (e : fU E f args s = some nx) :
 Bs E.P ρ w nx ((callFunc f ys.toArray).run E.P w) := by
 unfold fU at e
 split at e
 ·cases e
 ·rename_i fn hf
  split at e
  ·rename_i hb
   split at e
   ·rename_i k hk
    obtain ⟨h1, h2, h3⟩ := hE.ext f k fn hk hf hb
    unfold bc at e
    split at e
    ·rename_i v hv
     cases e
     obtain ⟨y, y1, y2⟩ := xg (P := E.P) (w := w) hd hv
     exact ⟨ρ, y, w, by rw [run_callFunc_extern hf h1 (by simp [hb]) h2 h3, y2]; rfl, y1, h, FR.refl ρ w⟩
    ·cases e
   ·cases e
  ·cases e
   exact ⟨ys, hd, rfl, h⟩
theorem vF {fn : Fn} {first cap : List V} {X : Value} (h : den ρ (.func fn first cap) = some X) : ∃ g a b, mF ρ fn = some g ∧ aY ρ first = some a ∧ aY ρ cap = some b ∧ X = .func g a.toArray b.toArray := by
 simp only [den] at h
 split at h
 ·rename_i g hg
  split at h
  ·rename_i a ha
   split at h
   ·rename_i b hb
    cases h
    exact ⟨g, a, b, hg, ha, hb, rfl⟩
   ·cases h
  ·cases h
 ·cases h
theorem wn (ht : TR ρ t tm) {args : Array Operand} {vs : List V} (h : evals t args.toList = some vs) : ∃ ys, aY ρ vs = some ys ∧ args.map (rv tm) = ys.toArray :=
 ⟨_, kF ht h, by simp [← Array.toList_inj]⟩
theorem Ba {E : cg} (hE : iQ E) (h : HR ρ s w) (ht : TR ρ t tm) {c : Call} {ty : TypeId} {nx : Nx} (e : bx E t s c.argTypes (evals t c.args.toList) c.callee = some nx) :
 Bs E.P ρ w nx ((do let d ← resolve (rv tm) c ty; invoke d.target d.args : Sem Next).run E.P w) := by
 unfold bx at e
 split at e
 ·rename_i args ha
  obtain ⟨ys, y1, y2⟩ := wn ht ha
  split at e
  ·rename_i b hc
   simp only [resolve, hc, Sem.run_bind, Sem.run_pure, Result.andThen_ok, invoke, y2]
   exact DC h y1 e
  ·rename_i f hc
   unfold ft at e
   split at e
   ·rename_i fn first cap hf
    obtain ⟨g, a, b, g1, g2, g3, g4⟩ := vF (am ht hf)
    simp only [resolve, hc, g4, Deferred.ofValue, Sem.run_bind, Sem.run_pure, Result.andThen_ok, y2]
    split at e
    ·rename_i g'
     cases g1
     have := DB hE h (dK g2 (dK y1 g3)) e
     simpa [invoke] using this
    ·rename_i l
     simp only [mF] at g1
     split at g1
     ·rename_i lb hlb
      cases g1
      cases e
      exact ⟨lb, a ++ ys, hlb, dK g2 y1, by simp [invoke], h⟩
     ·cases g1
    ·cases e
   ·cases e
  ·cases e
 ·cases e
theorem xm (h : HR ρ s w) (ht : TR ρ t tm) {c : Call} {ty : TypeId} {nx : Nx} (e : qM t s (evals t c.args.toList) c.callee = some nx) :
 Bs P ρ w nx ((do pure (.defer (← resolve (rv tm) c ty)) : Sem Next).run P w) := by
 unfold qM at e
 split at e
 ·rename_i args ha
  obtain ⟨ys, y1, y2⟩ := wn ht ha
  split at e
  ·rename_i f hc
   unfold FJ at e
   split at e
   ·rename_i fn first cap hf
    cases e
    obtain ⟨g, a, b, g1, g2, g3, g4⟩ := vF (am ht hf)
    refine ⟨_, ⟨g, b, a ++ ys, g1, g3, dK g2 y1, rfl⟩, ?_, h⟩
    simp [resolve, hc, g4, Deferred.ofValue, y2]
   ·cases e
  ·cases e
 ·cases e
theorem xj (h : HR ρ s w) (ht : TR ρ t tm) {x : Operand} {nx : Nx} (e : qH s (eval t x) = some nx) :
 Bs P ρ w nx ((do pure (Next.value (← Instr.panic (rv tm x))) : Sem Next).run P w) := by
 unfold qH at e
 split at e
 ·rename_i tt v hx
  cases e
  have hv := am ht hx
  refine ⟨_, hv, ?_, h⟩
  generalize rv tm x = X at *
  simp only [den] at hv
  split at hv
  ·cases hv
   simp [Instr.panic]
  ·cases hv
 ·cases e
theorem qo (h : HR ρ s w) (ht : TR ρ t tm) {x : Operand} {nx : Nx} (e : bc s (eval t x) = some nx) : wx P ρ w s nx ((pure (Next.value (rv tm x)) : Sem Next).run P w) := by
 unfold bc at e
 split at e
 ·rename_i v hv
  cases e
  exact ⟨_, _, rfl, rfl, am ht hv⟩
 ·cases e
theorem ma {E : cg} (hE : iQ E) (h : HR ρ s w) (ht : TR ρ t tm) (o : Oper) {nx : Nx} (e : dV E t s o = some nx) : Bs E.P ρ w nx ((execOp (rv tm) o).run E.P w) := by
 obtain ⟨dst, op, type, pos, after, guard⟩ := o
 unfold dV at e
 simp only at e
 cases op <;> simp only [az] at e <;> try (cases e; done)
 case move x => exact (qo h ht e).toR h
 case assign x => exact (qo h ht e).toR h
 case pick c a b => exact (qG h ht e).toR h
 case alloc elem => exact xl h e
 case box elem x => exact Dk h ht e
 case build ty parts => exact (oN h ht e).toR h
 case buildSlice ty len parts => exact pE h ht e
 case load ty x => exact (qI h ht e).toR h
 case store ty x y => exact xi h ht e
 case nilCheck x => exact (lq h ht e).toR h
 case binOp op ty x y z => exact (sN h ht e).toR h
 case unOp op ty x => exact (vN h ht e).toR h
 case convert src dst x => exact AL h ht e
 case makeInterface ty x => exact (mD h ht e).toR h
 case makeFunc fn first cap => exact (nH h ht e).toR h
 case makeMap ty r =>
  cases r with
  | none => cases e; exact tk h
  | some _ => cases e
 case makeSlice ty l c => exact tj h ht e
 case slice ty x lo hi mx => exact (oK h ht e).toR h
 case fieldAddr ty x f => exact (kK h ht e).toR h
 case field ty x f => exact (oM h ht e).toR h
 case indexAddr ty x i => exact (kJ h ht e).toR h
 case index ty x i => exact (oL h ht e).toR h
 case lookup ty x k ok => exact (nJ h ht e).toR h
 case mapUpdate ty m k x => exact kI h ht e
 case insert ty m k x => exact kI h ht e
 case typeAssert x xt ty ok => exact (nM h ht e).toR h
 case extract x i => exact (mE h ht e).toR h
 case call c => exact Ba hE h ht e
 case defer c => exact xm h ht e
 case panic x => exact xj h ht e
end ops
def ow (ρ : aq) : List tX → List PanicEntry → Prop
 | [], [] => True
 | p :: ps, e :: es => (den ρ p.v = some e.v ∧ p.recovered = e.recovered ∧ e.goexit = false) ∧ ow ρ ps es
 | _, _ => False
theorem ow.mono {ρ ρ' : aq} (h : ρ.le ρ') : ∀ {c : List tX} {ch : List PanicEntry}, ow ρ c ch → ow ρ' c ch
 | [], [], _ => trivial
 | _ :: _, _ :: _, ⟨⟨a, b⟩, k⟩ => ⟨⟨bA h _ _ a, b⟩, ow.mono h k⟩
 | [], _ :: _, k => k.elim
 | _ :: _, [], k => k.elim
theorem ow.append {ρ : aq} : ∀ {c d : List tX} {ch dh : List PanicEntry}, ow ρ c ch → ow ρ d dh → ow ρ (c ++ d) (ch ++ dh)
 | [], _, [], _, _, k => k
 | _ :: _, _, _ :: _, _, ⟨a, h⟩, k => ⟨a, ow.append h k⟩
 | [], _, _ :: _, _, h, _ => h.elim
 | _ :: _, _, [], _, h, _ => h.elim
def JD (ρ : aq) : Md → FrameMode → Prop
 | .run, .run => True
 | .returning, .returning => True
 | .panicking c, .panicking ch => ow ρ c ch
 | _, _ => False
theorem JD.mono {ρ ρ' : aq} (h : ρ.le ρ') {m : Md} {fm : FrameMode} (k : JD ρ m fm) : JD ρ' m fm := by
 cases m <;> cases fm <;> first | exact k | exact ow.mono h k
theorem JB.mono {ρ ρ' : aq} (h : ρ.le ρ') {d : dT} {r : Deferred} (k : JB ρ d r) : JB ρ' d r := by
 cases d with
 | call fn cap args =>
  obtain ⟨g, c, a, h1, h2, h3, h4⟩ := k
  exact ⟨g, c, a, vQ h h1, fI h _ _ h2, fI h _ _ h3, h4⟩
 | collected r =>
  obtain ⟨l, h1, h2⟩ := k
  exact ⟨l, h _ _ _ h1, h2⟩
def wB (ρ : aq) : List dT → List Deferred → Prop
 | [], [] => True
 | d :: ds, r :: rs => JB ρ d r ∧ wB ρ ds rs
 | _, _ => False
theorem wB.mono {ρ ρ' : aq} (h : ρ.le ρ') : ∀ {c : List dT} {ch : List Deferred}, wB ρ c ch → wB ρ' c ch
 | [], [], _ => trivial
 | _ :: _, _ :: _, ⟨a, k⟩ => ⟨a.mono h, wB.mono h k⟩
 | [], _ :: _, k => k.elim
 | _ :: _, [], k => k.elim
def MV (ρ : aq) : TH → Ending → Prop
 | .returned v, .returned y => den ρ v = some y
 | .panicked c, .panicked ch => ow ρ c ch
 | _, _ => False
def cE (c : Frame) : Ending → Frame
 | .returned v => c.finish v
 | .panicked ch => c.raise ch
 | .outgrown => c
def TQ (ρ : aq) (up : Option Md) (rd ro : Option Nat) : Prop := match rd with
 | none => ro = none
 | some l => up = none ∧ ∃ lb : wF, ρ l 0 = some lb ∧ ro = some lb.b
def TP (ρ : aq) (up : Option Md) (kind : CallKind) (cs : List Frame) : Prop := match up with
 | none => kind = .normal
 | some u => kind = .deferred ∧ ∃ c cs', cs = c :: cs' ∧ JD ρ u c.mode
structure iY (P : Program) (ρ : aq) (f : FuncId) (fn : Func) (t : T V) (todo : List Item) (ds : List dT) (m : Md) (up : Option Md) (rd : Option Nat) (fr : Frame) (cs : List Frame) : Prop where
 name : fr.fn = f
 func : P.funcs[f]? = some fn
 tr : TR ρ t fr.tmps
 size : fn.ntmps ≤ fr.tmps.size
 todo : m = .run → fr.todo = todo
 ds : wB ρ ds fr.defers
 md : JD ρ m fr.mode
 rd : TQ ρ up rd fr.roundOf
 up : TP ρ up fr.kind cs
def oU (P : Program) (f : FuncId) (up rd : Bool) (cs : List Frame) (M : Machine) (ρ : aq) (w : World) (out : cX) : Prop :=
 ∃ ρ' w', HR ρ' out.s w' ∧ FR ρ w ρ' w' ∧
  match rd, up with
  | true, _ => ∀ c cs', cs = c :: cs' → ∃ e, MV ρ' out.e e ∧ Steps P M (lone (cE c e) cs' w')
  | false, false => ∃ fr' e, MV ρ' out.e e ∧ Steps P M (lone fr' cs w') ∧ fr'.fn = f ∧ fr'.leaving P w' e
  | false, true => ∀ c cs', cs = c :: cs' → ∃ fr' e u u', out.up = some u ∧ JD ρ' u u' ∧ MV ρ' out.e e ∧
   Steps P M (lone fr' ({ c with mode := u' } :: cs') w') ∧ fr'.kind = .deferred ∧ fr'.going P w' e
theorem oU.of_steps {P : Program} {f : FuncId} {up rd : Bool} {cs : List Frame} {M M0 : Machine} {ρ ρ1 : aq} {w w1 : World} {out : cX} (hs : Steps P M0 M) (hf : FR ρ w ρ1 w1) (h : oU P f up rd cs M ρ1 w1 out) :
 oU P f up rd cs M0 ρ w out := by
 obtain ⟨ρ', w', h1, h2, h3⟩ := h
 refine ⟨ρ', w', h1, hf.trans h2, ?_⟩
 cases rd with
 | true => intro c cs' hc; obtain ⟨e, k1, k2⟩ := h3 c cs' hc; exact ⟨e, k1, hs.trans k2⟩
 | false => cases up with
  | false => obtain ⟨fr', e, k1, k2, k3⟩ := h3; exact ⟨fr', e, k1, hs.trans k2, k3⟩
  | true => intro c cs' hc; obtain ⟨fr', e, u, u', k1, k2, k3, k4, k5⟩ := h3 c cs' hc; exact ⟨fr', e, u, u', k1, k2, k3, hs.trans k4, k5⟩
theorem oU.of_mode {P : Program} {f : FuncId} {c : Frame} {cs : List Frame} {M : Machine} {ρ : aq} {w : World} {out : cX} {u1 : FrameMode} (h : oU P f true false ({ c with mode := u1 } :: cs) M ρ w out) :
 oU P f true false (c :: cs) M ρ w out := by
 obtain ⟨ρ', w', h1, h2, h3⟩ := h
 refine ⟨ρ', w', h1, h2, fun c1 cs1 hc => ?_⟩
 cases hc
 exact h3 { c with mode := u1 } cs rfl
def Bm (P : Program) (f : FuncId) (fn : Func) (t : T V) (todo : List Item) (ds : List dT) (m : Md) (up : Option Md) (rd : Option Nat) (s : S) (out : cX) : Prop :=
 ∀ ρ w fr cs, HR ρ s w → iY P ρ f fn t todo ds m up rd fr cs → oU P f up.isSome rd.isSome cs (lone fr cs w) ρ w out
def Qn : Option Md → CallKind
 | none => .normal
 | some _ => .deferred
def fN (P : Program) (f : FuncId) (args : List V) (up : Option Md) (s : S) (out : cX) : Prop :=
 ∀ ρ w ys, HR ρ s w → aY ρ args = some ys → (∀ w, (callFunc f ys.toArray).run P w = .ok (.enter f ys.toArray) w) ∧
  ∀ cs, (∀ u, up = some u → ∃ c cs', cs = c :: cs' ∧ JD ρ u c.mode) → oU P f up.isSome false cs (lone (Frame.enter P f ys.toArray (Qn up)) cs w) ρ w out
def ML (P : Program) (l : Nat) (args : List V) (s : S) (out : cX) : Prop :=
 ∀ ρ w lb ys, HR ρ s w → ρ l 0 = some lb → aY ρ args = some ys →
  ∃ f tmps assign body, (Instr.yield lb.b ys.toArray).run P w = .ok (.round lb.b f tmps assign body) w ∧
   ∀ cs, oU P f false true cs (lone (Frame.round lb.b f tmps assign body .normal) cs w) ρ w out
def SM (P : Program) : sd → S → cX → Prop
 | .frame f fn t todo ds m up rd, s, out => Bm P f fn t todo ds m up rd s out
 | .call f args up, s, out => fN P f args up s out
 | .round l args, s, out => ML P l args s out
def Good (P : Program) (ih : sd → S → Option cX) : Prop := ∀ j s out, ih j s = some out → SM P j s out
section steps
variable {P : Program} {fr : Frame} {k : List Item} {cs : List Frame} {w : World}
theorem Nr (hm : fr.mode = .run) (ht : fr.todo = .code .skip :: k) : step P (lone fr cs w) = .next (lone { fr with todo := k } cs w) := step_lone_go (by simp [stepG, stepG.exec, hm, ht])
theorem Ki {l : Nat} (hm : fr.mode = .run) (ht : fr.todo = .code (.label l) :: k) : step P (lone fr cs w) = .next (lone { fr with todo := k } cs w) := step_lone_go (by simp [stepG, stepG.exec, hm, ht])
theorem EH {l : Nat} (hm : fr.mode = .run) (ht : fr.todo = .inBlock l :: k) : step P (lone fr cs w) = .next (lone { fr with todo := k } cs w) := step_lone_go (by simp [stepG, stepG.exec, hm, ht])
theorem EG {c : Code} (hm : fr.mode = .run) (ht : fr.todo = .inScope c :: k) : step P (lone fr cs w) = .next (lone { fr with todo := k } cs w) := step_lone_go (by simp [stepG, stepG.exec, hm, ht])
theorem PK {a b : Code} (hm : fr.mode = .run) (ht : fr.todo = .code (.seq a b) :: k) : step P (lone fr cs w) = .next (lone { fr with todo := .code a :: .code b :: k } cs w) := step_lone_go (by simp [stepG, stepG.exec, hm, ht])
theorem Nv {c : Operand} {a b : Code} {q : Bool} (hm : fr.mode = .run) (ht : fr.todo = .code (.cond c a b) :: k) (hc : rv fr.tmps c = .bool q) : step P (lone fr cs w) = .next (lone { fr with todo := .code (if q then a else b) :: k } cs w) :=
 step_lone_go (by
  have he : fr.eval c = .bool q := by rw [pz]; exact hc
  simp [stepG, stepG.exec, hm, ht, he])
theorem Kk {id : Nat} {c : Code} (hm : fr.mode = .run) (ht : fr.todo = .code (.block id c) :: k) : step P (lone fr cs w) = .next (lone { fr with todo := .code c :: .inBlock id :: k } cs w) := step_lone_go (by simp [stepG, stepG.exec, hm, ht])
theorem Ns {c : Code} (hm : fr.mode = .run) (ht : fr.todo = .code (.loop c) :: k) : step P (lone fr cs w) = .next (lone { fr with todo := .code c :: .inLoop c :: k } cs w) := step_lone_go (by simp [stepG, stepG.exec, hm, ht])
theorem Ip {c : Code} (hm : fr.mode = .run) (ht : fr.todo = .inLoop c :: k) : step P (lone fr cs w) = .next (lone { fr with todo := .code c :: .inLoop c :: k } cs w) := step_lone_go (by simp [stepG, stepG.exec, hm, ht])
theorem Kg {c : Code} (hm : fr.mode = .run) (ht : fr.todo = .code (.scope c) :: k) : step P (lone fr cs w) = .next (lone { fr with todo := .code c :: .inScope c :: k } cs w) := step_lone_go (by simp [stepG, stepG.exec, hm, ht])
theorem Nu {id : Nat} {k' : List Item} (hm : fr.mode = .run) (ht : fr.todo = .code (.exit id) :: k) (h : exitTo id k = some k') : step P (lone fr cs w) = .next (lone { fr with todo := k' } cs w) := step_lone_go (by simp [stepG, stepG.exec, hm, ht, h])
theorem Nt {l : Nat} {k' : List Item} (hm : fr.mode = .run) (ht : fr.todo = .code (.goto l) :: k) (h : gotoIn l k = some k') : step P (lone fr cs w) = .next (lone { fr with todo := k' } cs w) := step_lone_go (by simp [stepG, stepG.exec, hm, ht, h])
theorem PL (hm : fr.mode = .run) (ht : fr.todo = .code .ret :: k) (hr : fr.roundOf = none) : step P (lone fr cs w) = .next (lone { fr with mode := .returning } cs w) := step_lone_go (by simp [stepG, stepG.exec, hm, ht, hr])
theorem PM (hm : fr.mode = .run) (ht : fr.todo = []) (hr : fr.roundOf = none) : step P (lone fr cs w) = .next (lone { fr with mode := .returning } cs w) := step_lone_go (by simp [stepG, stepG.exec, hm, ht, hr])
theorem Io {id : Nat} {ops : Array Oper} (hm : fr.mode = .run) (ht : fr.todo = .code (.region id ops false) :: k) : step P (lone fr cs w) = .next (lone { fr with todo := .inRegion ops (List.range ops.size) :: k } cs w) := step_lone_go (by simp [stepG, stepG.exec, hm, ht])
theorem pV {ops : Array Oper} (hm : fr.mode = .run) (ht : fr.todo = .inRegion ops [] :: k) : step P (lone fr cs w) = .next (lone { fr with todo := k } cs w) := step_lone_go (by simp [stepG, stepG.exec, hm, ht])
theorem iC {ops : Array Oper} {i : Nat} {rest : List Nat} (hm : fr.mode = .run) (ht : fr.todo = .inRegion ops (i :: rest) :: k) (h : ((ops[i]?).map (Region.wanted · (yielded ops fr.tmps))).getD false = false) :
 step P (lone fr cs w) = .next (lone (fr.finish undef) cs w) := step_lone_go (by simp [stepG, stepG.exec, hm, ht, h])
theorem ij {ops : Array Oper} {i : Nat} {rest : List Nat} {o : Oper} (hm : fr.mode = .run) (ht : fr.todo = .inRegion ops (i :: rest) :: k) (ho : ops[i]? = some o) (hw : Region.wanted o (yielded ops fr.tmps) = true)
 (hd : fr.roundOf = none ∨ ∀ c, o.op ≠ .defer c) :
 stepG P true { frame := fr, callers := cs, status := .running, dying := none } w = stepG.apply P true fr cs none (execOp (rv fr.tmps) o) w := by
 have he : fr.eval = rv fr.tmps := pz fr
 rcases hd with hd | hd
 ·simp [stepG, stepG.exec, stepG.oper, Frame.oper?, hm, ht, ho, hw, he, hd]
 ·cases hr : fr.roundOf with
  | none => simp [stepG, stepG.exec, stepG.oper, Frame.oper?, hm, ht, ho, hw, he, hr]
  | some l =>
   simp only [stepG, stepG.exec, stepG.oper, Frame.oper?, hm, ht, ho, hw, he, hr, Option.map_some, Option.getD_some, if_true]
   split
   ·rename_i hc; exact absurd hc (hd _)
   ·rfl
end steps
theorem th {P : Program} {ρ : aq} {f : FuncId} {fn : Func} {t : T V} {todo : List Item} {ds : List dT} {up : Option Md} {rd : Option Nat} {fr : Frame} {cs : List Frame}
 (h : iY P ρ f fn t todo ds .run up rd fr cs) : fr.mode = .run := by
 have := h.md
 cases hm : fr.mode <;> rw [hm] at this <;> first | rfl | exact this.elim
theorem iY.to {P : Program} {ρ : aq} {f : FuncId} {fn : Func} {t : T V} {todo : List Item} {ds : List dT} {up : Option Md} {rd : Option Nat} {fr : Frame} {cs : List Frame}
 (h : iY P ρ f fn t todo ds .run up rd fr cs) (todo' : List Item) : iY P ρ f fn t todo' ds .run up rd { fr with todo := todo' } cs :=
 ⟨h.name, h.func, h.tr, h.size, fun _ => rfl, h.ds, h.md, h.rd, h.up⟩
theorem iY.mono {P : Program} {ρ ρ' : aq} (hl : ρ.le ρ') {f : FuncId} {fn : Func} {t : T V} {todo : List Item} {ds : List dT} {m : Md} {up : Option Md} {rd : Option Nat} {fr : Frame} {cs : List Frame}
 (h : iY P ρ f fn t todo ds m up rd fr cs) : iY P ρ' f fn t todo ds m up rd fr cs := by
 refine ⟨h.name, h.func, h.tr.mono hl, h.size, h.todo, h.ds.mono hl, h.md.mono hl, ?_, ?_⟩
 ·have := h.rd
  cases rd with
  | none => exact this
  | some l => obtain ⟨h1, lb, h2, h3⟩ := this; exact ⟨h1, lb, hl _ _ _ h2, h3⟩
 ·have := h.up
  cases up with
  | none => exact this
  | some u => obtain ⟨h1, c, cs', h2, h3⟩ := this; exact ⟨h1, c, cs', h2, h3.mono hl⟩
theorem eb {P : Program} {ρ : aq} {w : World} {f : FuncId} {fn : Func} {t' : T V} {todo' : List Item} {ds' : List dT} {m' : Md} {up : Option Md} {rd : Option Nat} {fr fr' : Frame} {cs : List Frame} {s : S} {out : cX}
 (h : HR ρ s w) (hs : step P (lone fr cs w) = .next (lone fr' cs w)) (hF : iY P ρ f fn t' todo' ds' m' up rd fr' cs) (hgo : Bm P f fn t' todo' ds' m' up rd s out) : oU P f up.isSome rd.isSome cs (lone fr cs w) ρ w out :=
 oU.of_steps (.one hs) (FR.refl ρ w) (hgo _ _ _ _ h hF)
def qW (up : Option Md) (cs cs' : List Frame) : Prop := match up with
 | none => cs' = cs
 | some _ => ∃ c tl u, cs = c :: tl ∧ cs' = { c with mode := u } :: tl
theorem qW.refl {P : Program} {ρ : aq} {f : FuncId} {fn : Func} {t : T V} {todo : List Item} {ds : List dT} {m : Md} {up : Option Md} {rd : Option Nat} {fr : Frame} {cs : List Frame}
 (h : iY P ρ f fn t todo ds m up rd fr cs) : qW up cs cs := by
 have := h.up
 cases up with
 | none => rfl
 | some u => obtain ⟨_, c, cs', h2, _⟩ := this; exact ⟨c, cs', c.mode, h2, h2⟩
theorem qW.trans {up up' : Option Md} (hu : up'.isSome = up.isSome) {a b c : List Frame} (h : qW up a b) (k : qW up' b c) : qW up a c := by
 cases up with
 | none => cases up' with
  | none => exact Eq.trans k h
  | some _ => cases hu
 | some _ => cases up' with
  | none => cases hu
  | some _ =>
   obtain ⟨c1, t1, u1, rfl, rfl⟩ := h
   obtain ⟨c2, t2, u2, h1, rfl⟩ := k
   cases h1
   exact ⟨c1, t1, u2, rfl, rfl⟩
theorem oU.of_tops {P : Program} {f : FuncId} {up : Option Md} {rd : Option Nat} {cs cs' : List Frame} {M : Machine} {ρ : aq} {w : World} {out : cX} (hr : up.isSome = true → rd = none)
 (ht : qW up cs cs') (h : oU P f up.isSome rd.isSome cs' M ρ w out) : oU P f up.isSome rd.isSome cs M ρ w out := by
 cases up with
 | none => cases ht; exact h
 | some u =>
  cases hr rfl
  obtain ⟨c, tl, u1, rfl, rfl⟩ := ht
  exact oU.of_mode h
theorem iY.lone_up {P : Program} {ρ : aq} {f : FuncId} {fn : Func} {t : T V} {todo : List Item} {ds : List dT} {m : Md} {up : Option Md} {rd : Option Nat} {fr : Frame} {cs : List Frame}
 (h : iY P ρ f fn t todo ds m up rd fr cs) : up.isSome = true → rd = none := by
 intro hu
 have := h.rd
 cases rd with
 | none => rfl
 | some l => rw [this.1] at hu; cases hu
def putD (t : T V) (d : Option Tmp) (v : V) : T V := mJ t d (some v) id
theorem cV {β : Type} (t : T V) (d : Option Tmp) (v : V) (k : T V → β) : mJ t d (some v) k = k (putD t d v) := NH t d (some v) k
def ni (tm : Array Value) (d : Option Tmp) (y : Value) : Array Value := match d with
 | some i => tm.setIfInBounds i y
 | none => tm
theorem TR.putD {ρ : aq} {t : T V} {tm : Array Value} (h : TR ρ t tm) {d : Option Tmp} {v : V} {y : Value} (hv : den ρ v = some y) (hd : ∀ i, d = some i → i < tm.size) : TR ρ (AI.putD t d v) (ni tm d y) := by
 cases d with
 | none => exact h
 | some i =>
  have := TR.put h hv (hd i rfl)
  exact this
theorem yw {fr : Frame} {ops : Array Oper} {i : Nat} {rest : List Nat} {k : List Item} {o : Oper} (ht : fr.todo = .inRegion ops (i :: rest) :: k) (ho : ops[i]? = some o) (y : Value) :
 fr.finish y = { fr with tmps := ni fr.tmps o.dst y, todo := .inRegion ops rest :: k } := by
 simp only [Frame.finish, ht, ho, Option.bind_some, ni]
 cases o.dst <;> rfl
section
variable {P : Program} {ρ : aq} {f : FuncId} {fn : Func} {t : T V} {ds : List dT} {up : Option Md} {rd : Option Nat} {fr : Frame} {cs : List Frame} {ops : Array Oper} {i : Nat} {rest : List Nat} {k : List Item} {o : Oper}
theorem iY.finish (h : iY P ρ f fn t (.inRegion ops (i :: rest) :: k) ds .run up rd fr cs) (ho : ops[i]? = some o) (hd : ∀ d, o.dst = some d → d < fn.ntmps) {v : V} {y : Value} (hv : den ρ v = some y) :
 iY P ρ f fn (putD t o.dst v) (.inRegion ops rest :: k) ds .run up rd (fr.finish y) cs := by
 rw [yw (h.todo rfl) ho]
 refine ⟨h.name, h.func, h.tr.putD hv fun i hi => Nat.lt_of_lt_of_le (hd i hi) h.size, ?_, fun _ => rfl, h.ds, h.md, h.rd, h.up⟩
 show fn.ntmps ≤ (ni fr.tmps o.dst y).size
 have := h.size
 unfold ni
 split <;> simpa using this
theorem eN (h : TR ρ t fr.tmps) {b : Bool} (e : aM ops t o = some b) : Region.wanted o (yielded ops fr.tmps) = b := by
 unfold aM at e
 unfold Region.wanted
 split at e
 ·rename_i hg; rw [hg]; cases e; rfl
 ·rename_i j want hg
  rw [hg]
  split at e
  ·rename_i d hd
   split at e
   ·rename_i q hq
    obtain ⟨y, h1, h2⟩ := h d _ hq
    cases h1; cases e
    simp [yielded, hd, h2]
   ·rename_i q hq
    obtain ⟨y, h1, h2⟩ := h d _ hq
    cases e
    simp only [den] at h1
    split at h1
    ·cases h1; simp [yielded, hd, h2]
    ·cases h1
   ·cases e
  ·cases e
end
def Rw (P : Program) (ρ : aq) (w : World) (f : FuncId) (fn : Func) (k : List Item) (up : Option Md) (rd : Option Nat) (cs : List Frame) (M : Machine) (r : fv) : Prop :=
 ∃ ρ' w' fr' cs', Steps P M (lone fr' cs' w') ∧ FR ρ w ρ' w' ∧ qW up cs cs' ∧ match r with
  | .on t' ds' up' s' => HR ρ' s' w' ∧ iY P ρ' f fn t' k ds' .run up' rd fr' cs' ∧ up'.isSome = up.isSome
  | .panicked c t' ds' up' s' => HR ρ' s' w' ∧ iY P ρ' f fn t' k ds' (.panicking c) up' rd fr' cs' ∧ up'.isSome = up.isSome
theorem Rw.of_steps {P : Program} {ρ ρ1 : aq} {w w1 : World} {f : FuncId} {fn : Func} {k : List Item} {up up1 : Option Md} {rd : Option Nat} {cs cs1 : List Frame} {M M0 : Machine} {r : fv}
 (hs : Steps P M0 M) (hf : FR ρ w ρ1 w1) (ht : qW up cs cs1) (hu : up1.isSome = up.isSome) (h : Rw P ρ1 w1 f fn k up1 rd cs1 M r) : Rw P ρ w f fn k up rd cs M0 r := by
 obtain ⟨ρ', w', fr', cs', h1, h2, h3, h4⟩ := h
 refine ⟨ρ', w', fr', cs', hs.trans h1, hf.trans h2, ht.trans hu h3, ?_⟩
 cases r <;> (simp only at h4 ⊢; exact ⟨h4.1, h4.2.1, h4.2.2.trans hu⟩)
theorem pD {ops : Array Oper} {n : Nat} (h : gp ops n = true) {i : Nat} {o : Oper} (ho : ops[i]? = some o) : ∀ d, o.dst = some d → d < n := by
 intro d hd
 have := List.all_eq_true.1 h o (by
  have := Array.mem_of_getElem? ho
  simpa using this)
 rw [hd] at this
 exact kY this
theorem bp {fr : Frame} (hm : fr.mode = .run) (ch : List PanicEntry) : fr.raise ch = { fr with mode := .panicking ch } := by
 simp [Frame.raise, hm]
theorem li {E : cg} {ih : sd → S → Option cX} (hg : Good E.P ih) {ρ : aq} {w : World} {s : S} (h : HR ρ s w) {f : FuncId} {args : List V} {ys : List Value} (hd : aY ρ args = some ys) {out : cX}
 (e : bq ih f args none s = some out) : (∀ w, (callFunc f ys.toArray).run E.P w = .ok (.enter f ys.toArray) w) ∧ ∀ c cs, ∃ ρ' w' e, HR ρ' out.s w' ∧ FR ρ w ρ' w' ∧ MV ρ' out.e e ∧
  Steps E.P (lone (Frame.enter E.P f ys.toArray .normal) (c :: cs) w) (lone (cE c e) cs w') := by
 have hs := hg (.call f args none) s out e
 obtain ⟨h1, h2⟩ := hs ρ w ys h hd
 refine ⟨h1, fun c cs => ?_⟩
 obtain ⟨ρ', w', k1, k2, fr', e', k3, k4, k5, k6⟩ := h2 (c :: cs) (fun u hu => by cases hu)
 refine ⟨ρ', w', e', k1, k2, k3, k4.trans (.one ?_)⟩
 cases e' with
 | returned v => exact step_leave_returned k6
 | panicked ch => exact step_leave_panicked k6
 | outgrown => cases hout : out.e <;> rw [hout] at k3 <;> exact k3.elim
section ap
variable {P : Program} {fr : Frame} {cs : List Frame} {w w' : World} {sem : Sem Next}
theorem nQ {v : Value} (hst : stepG P true { frame := fr, callers := cs, status := .running, dying := none } w = stepG.apply P true fr cs none sem w) (hr : sem.run P w = .ok (.value v) w') :
 step P (lone fr cs w) = .next (lone (fr.finish v) cs w') := step_lone_go (by rw [hst]; simp [stepG.apply, hr])
theorem Bd (hst : stepG P true { frame := fr, callers := cs, status := .running, dying := none } w = stepG.apply P true fr cs none sem w) (hr : sem.run P w = .ok .skip w') :
 step P (lone fr cs w) = .next (lone (fr.finish undef) cs w') := step_lone_go (by rw [hst]; simp [stepG.apply, hr])
theorem qV {ops : Array Oper} {l : List Nat} {k : List Item} {f : FuncId} {args : Array Value} (ht : fr.todo = .inRegion ops l :: k) (hst : stepG P true { frame := fr, callers := cs, status := .running, dying := none } w = stepG.apply P true fr cs none sem w) (hr : sem.run P w = .ok (.enter f args) w') :
 step P (lone fr cs w) = .next (lone (Frame.enter P f args .normal) (fr :: cs) w') := step_lone_go (by rw [hst]; simp [stepG.apply, hr, ht])
theorem MD {l : Nat} {f : FuncId} {tmps : Array Value} {a b : Code} (hst : stepG P true { frame := fr, callers := cs, status := .running, dying := none } w = stepG.apply P true fr cs none sem w) (hr : sem.run P w = .ok (.round l f tmps a b) w') :
 step P (lone fr cs w) = .next (lone (Frame.round l f tmps a b .normal) (fr :: cs) w') := step_lone_go (by rw [hst]; simp [stepG.apply, hr])
theorem MF {d : Deferred} (hst : stepG P true { frame := fr, callers := cs, status := .running, dying := none } w = stepG.apply P true fr cs none sem w) (hr : sem.run P w = .ok (.defer d) w') :
 step P (lone fr cs w) = .next (lone ({ fr with defers := d :: fr.defers }.finish undef) cs w') := step_lone_go (by rw [hst]; simp [stepG.apply, hr])
theorem DI {v : Value} (hst : stepG P true { frame := fr, callers := cs, status := .running, dying := none } w = stepG.apply P true fr cs none sem w) (hr : sem.run P w = .halt (.panic v) w') :
 step P (lone fr cs w) = .next (lone (fr.raise [{ v, recovered := false }]) cs w') := step_lone_go (by rw [hst]; simp [stepG.apply, hr])
theorem tv {v : Value} {cs' : List Frame} (hro : fr.roundOf = none) (ht : tryRecover fr cs = some (v, cs')) (hst : stepG P true { frame := fr, callers := cs, status := .running, dying := none } w = stepG.apply P true fr cs none sem w) (hr : sem.run P w = .ok .recover w') :
 step P (lone fr cs w) = .next (lone (fr.finish v) cs' w') := step_lone_go (by rw [hst]; simp [stepG.apply, hr, hro, ht])
theorem tw (hro : fr.roundOf = none) (ht : tryRecover fr cs = none) (hst : stepG P true { frame := fr, callers := cs, status := .running, dying := none } w = stepG.apply P true fr cs none sem w) (hr : sem.run P w = .ok .recover w') :
 step P (lone fr cs w) = .next (lone (fr.finish .nilIface) cs w') := step_lone_go (by rw [hst]; simp [stepG.apply, hr, hro, ht])
end ap
section
variable {E : cg} {ih : sd → S → Option cX} {f : FuncId} {fn : Func} {ops : Array Oper} {k : List Item} {rd : Option Nat}
def Px (P : Program) (f : FuncId) (fn : Func) (ops : Array Oper) (rest : List Nat) (k : List Item) (rd : Option Nat) (kk : RK) : Prop :=
 ∀ t ds up s r, kk t ds up s = some r → ∀ ρ w fr cs, HR ρ s w → iY P ρ f fn t (.inRegion ops rest :: k) ds .run up rd fr cs → Rw P ρ w f fn k up rd cs (lone fr cs w) r
theorem dy {o : Oper} {t : T V} {s : S} {nx : Nx} (h : dV E t s o = some nx) (hn : ∀ d s', nx ≠ .defer d s') : ∀ c, o.op ≠ .defer c := by
 intro c hc
 unfold dV at h
 rw [hc] at h
 simp only [az, qM] at h
 split at h
 ·split at h
  ·unfold FJ at h
   split at h
   ·cases h; exact hn _ _ rfl
   ·cases h
  ·cases h
 ·cases h
theorem Ak (hE : iQ E) (hg : Good E.P ih) (hdst : gp ops fn.ntmps = true) {i : Nat} {rest : List Nat} {o : Oper} (ho : ops[i]? = some o) {kk : RK} (hk : Px E.P f fn ops rest k rd kk)
 {t : T V} {ds : List dT} {up : Option Md} {s : S} {r : fv} (e : lZ E (bq ih) (dW ih) rd o t ds up s kk (aM ops t o) = some r)
 {ρ : aq} {w : World} {fr : Frame} {cs : List Frame} (h : HR ρ s w) (hF : iY E.P ρ f fn t (.inRegion ops (i :: rest) :: k) ds .run up rd fr cs) : Rw E.P ρ w f fn k up rd cs (lone fr cs w) r := by
 have hm := th hF
 have ht := hF.todo rfl
 have hd := pD hdst ho
 have hT := qW.refl hF
 unfold lZ at e
 split at e
 ·rename_i hw
  have hwant := eN hF.tr hw
  cases hdo : dV E t s o with
  | none => rw [hdo] at e; cases e
  | some nx =>
   rw [hdo] at e
   have hop := ma hE h hF.tr o hdo
   have hst : fr.roundOf = none ∨ (∀ c, o.op ≠ .defer c) → stepG E.P true { frame := fr, callers := cs, status := .running, dying := none } w = stepG.apply E.P true fr cs none (execOp (rv fr.tmps) o) w := fun q => ij hm ht ho hwant q
   cases nx with
   | val v s1 =>
    obtain ⟨ρ1, y, w1, h1, h2, h3, h4⟩ := hop
    have hst := hst (.inr (dy hdo (fun d s' => by intro h; cases h)))
    simp only [dX, cV] at e
    exact (hk _ _ _ _ _ e ρ1 w1 (fr.finish y) cs h3 ((hF.mono h4.ext).finish ho hd h2)).of_steps (.one (nQ hst h1)) h4 hT rfl
   | skip s1 =>
    obtain ⟨ρ1, w1, h1, h3, h4⟩ := hop
    have hst := hst (.inr (dy hdo (fun d s' => by intro h; cases h)))
    simp only [dX, cV] at e
    exact (hk _ _ _ _ _ e ρ1 w1 (fr.finish undef) cs h3 ((hF.mono h4.ext).finish ho hd rfl)).of_steps (.one (Bd hst h1)) h4 hT rfl
   | enter g args s1 =>
    obtain ⟨ys, h1, h2, h3⟩ := hop
    have hst := hst (.inr (dy hdo (fun d s' => by intro h; cases h)))
    simp only [dX] at e
    cases hr : bq ih g args none s1 with
    | none => rw [hr] at e; cases e
    | some out =>
     rw [hr] at e
     obtain ⟨hcall, hfin⟩ := li hg h3 h1 hr
     rw [hcall] at h2
     obtain ⟨ρ1, w1, en, j1, j2, j3, j4⟩ := hfin fr cs
     have hsteps : Steps E.P (lone fr cs w) (lone (cE fr en) cs w1) := .head (qV ht hst h2) j4
     obtain ⟨oe, oup, os⟩ := out
     cases oe with
     | returned v =>
      cases en with
      | returned y =>
       simp only [eH, cV] at e
       exact (hk _ _ _ _ _ e ρ1 w1 (fr.finish y) cs j1 ((hF.mono j2.ext).finish ho hd j3)).of_steps hsteps j2 hT rfl
      | panicked _ => exact j3.elim
      | outgrown => exact j3.elim
     | panicked c =>
      cases en with
      | returned _ => exact j3.elim
      | outgrown => exact j3.elim
      | panicked ch =>
       simp only [eH, Option.some.injEq] at e
       subst e
       have hF1 := hF.mono j2.ext
       exact ⟨ρ1, w1, _, cs, hsteps, j2, hT, j1, ⟨hF1.name.symm ▸ (by rw [cE, bp hm]), hF1.func, by rw [cE, bp hm]; exact hF1.tr, by rw [cE, bp hm]; exact hF1.size, (fun q => by cases q), by rw [cE, bp hm]; exact hF1.ds, by rw [cE, bp hm]; exact j3, by rw [cE, bp hm]; exact hF1.rd, by rw [cE, bp hm]; exact hF1.up⟩, rfl⟩
   | round l args s1 =>
    obtain ⟨lb, ys, h0, h1, h2, h3⟩ := hop
    have hst := hst (.inr (dy hdo (fun d s' => by intro h; cases h)))
    simp only [dX] at e
    cases hr : dW ih l args s1 with
    | none => rw [hr] at e; cases e
    | some out =>
     rw [hr] at e
     obtain ⟨f', tmps, a, b, hy, hfin⟩ := hg (.round l args) s1 out hr ρ w lb ys h3 h0 h1
     rw [hy] at h2
     obtain ⟨ρ1, w1, j1, j2, j5⟩ := hfin (fr :: cs)
     obtain ⟨en, j3, j4⟩ := j5 fr cs rfl
     have hsteps : Steps E.P (lone fr cs w) (lone (cE fr en) cs w1) := .head (MD hst h2) j4
     obtain ⟨oe, oup, os⟩ := out
     cases oe with
     | returned v =>
      cases en with
      | returned y =>
       simp only [eH, cV] at e
       exact (hk _ _ _ _ _ e ρ1 w1 (fr.finish y) cs j1 ((hF.mono j2.ext).finish ho hd j3)).of_steps hsteps j2 hT rfl
      | panicked _ => exact j3.elim
      | outgrown => exact j3.elim
     | panicked c =>
      cases en with
      | returned _ => exact j3.elim
      | outgrown => exact j3.elim
      | panicked ch =>
       simp only [eH, Option.some.injEq] at e
       subst e
       have hF1 := hF.mono j2.ext
       exact ⟨ρ1, w1, _, cs, hsteps, j2, hT, j1, ⟨hF1.name.symm ▸ (by rw [cE, bp hm]), hF1.func, by rw [cE, bp hm]; exact hF1.tr, by rw [cE, bp hm]; exact hF1.size, (fun q => by cases q), by rw [cE, bp hm]; exact hF1.ds, by rw [cE, bp hm]; exact j3, by rw [cE, bp hm]; exact hF1.rd, by rw [cE, bp hm]; exact hF1.up⟩, rfl⟩
   | defer df s1 =>
    obtain ⟨rdf, h1, h2, h3⟩ := hop
    simp only [dX] at e
    cases hrd : rd with
    | some l => rw [hrd] at e; cases e
    | none =>
     rw [hrd] at e
     simp only [Option.isSome_none, cond_false, cV] at e
     subst hrd
     have hro : fr.roundOf = none := hF.rd
     have hst := hst (.inl hro)
     have hF' : iY E.P ρ f fn t (.inRegion ops (i :: rest) :: k) (df :: ds) .run up none { fr with defers := rdf :: fr.defers } cs :=
      ⟨hF.name, hF.func, hF.tr, hF.size, hF.todo, ⟨h1, hF.ds⟩, hF.md, hF.rd, hF.up⟩
     exact (hk _ _ _ _ _ e ρ w _ cs h3 (hF'.finish ho hd rfl)).of_steps (.one (MF hst h2)) (FR.refl ρ w) hT rfl
   | recover s1 =>
    obtain ⟨h1, h2⟩ := hop
    have hst := hst (.inr (dy hdo (fun d s' => by intro h; cases h)))
    simp only [dX] at e
    cases up with
    | none => cases e
    | some u =>
     have hro : fr.roundOf = none := by cases hF.lone_up rfl; exact hF.rd
     obtain ⟨hkd, c, tl, rfl, hmd⟩ := hF.up
     have hrec : ∀ m', u = m' → (∀ v older, m' ≠ .panicking (⟨v, false⟩ :: older)) → tryRecover fr (c :: tl) = none := by
      intro m' hu hne
      subst hu
      cases hcm : c.mode with
      | run => simp [tryRecover, hkd, hcm]
      | returning => simp [tryRecover, hkd, hcm]
      | panicking ch =>
       cases u with
       | run => rw [hcm] at hmd; exact hmd.elim
       | returning => rw [hcm] at hmd; exact hmd.elim
       | panicking pl =>
        rw [hcm] at hmd
        cases pl with
        | nil => cases ch with
         | nil => simp [tryRecover, hkd, hcm]
         | cons _ _ => exact hmd.elim
        | cons p ps => cases ch with
         | nil => exact hmd.elim
         | cons q qs =>
          obtain ⟨⟨q1, q2, q3⟩, _⟩ := hmd
          obtain ⟨pv, pr⟩ := p
          cases pr with
          | false => exact absurd rfl (hne pv ps)
          | true =>
           obtain ⟨qv, qr, qg⟩ := q
           simp only at q2 q3
           subst q2
           simp [tryRecover, hkd, hcm]
     unfold recovered at e
     split at e
     ·rename_i v older hu
      cases hu
      cases hcm : c.mode with
      | run => rw [hcm] at hmd; exact hmd.elim
      | returning => rw [hcm] at hmd; exact hmd.elim
      | panicking ch =>
       rw [hcm] at hmd
       cases ch with
       | nil => exact hmd.elim
       | cons q qs =>
        obtain ⟨⟨q1, q2, q3⟩, q4⟩ := hmd
        obtain ⟨qv, qr, qg⟩ := q
        simp only at q1 q2 q3
        subst q2; subst q3
        have htr : tryRecover fr (c :: tl) = some (qv, { c with mode := .panicking ({ v := qv, recovered := true } :: qs) } :: tl) := by
         simp [tryRecover, hkd, hcm]
        rw [cV] at e
        have hF' := hF.finish ho hd q1
        have hF'' : iY E.P ρ f fn (putD t o.dst v) (.inRegion ops rest :: k) ds .run (some (.panicking (⟨v, true⟩ :: older))) rd (fr.finish qv) ({ c with mode := .panicking ({ v := qv, recovered := true } :: qs) } :: tl) := by
         refine ⟨hF'.name, hF'.func, hF'.tr, hF'.size, hF'.todo, hF'.ds, hF'.md, ?_, ?_⟩
         ·cases hF.lone_up rfl; exact hF'.rd
         ·exact ⟨hF'.up.1, _, _, rfl, ⟨⟨q1, rfl, rfl⟩, q4⟩⟩
        exact (hk _ _ _ _ _ e ρ w _ _ h2 hF'').of_steps (.one (tv hro htr hst h1)) (FR.refl ρ w) ⟨c, tl, _, rfl, rfl⟩ rfl
     ·rename_i hne hu
      cases hu
      rw [cV] at e
      have htr := hrec _ rfl (fun v older hq => hne v older hq)
      exact (hk _ _ _ _ _ e ρ w _ _ h2 (hF.finish ho hd rfl)).of_steps (.one (tw hro htr hst h1)) (FR.refl ρ w) hT rfl
     ·cases e
   | panic v s1 =>
    obtain ⟨y, h1, h2, h3⟩ := hop
    have hst := hst (.inr (dy hdo (fun d s' => by intro h; cases h)))
    simp only [dX, Option.some.injEq] at e
    subst e
    refine ⟨ρ, w, _, cs, .one (DI hst h2), FR.refl ρ w, hT, h3, ?_, rfl⟩
    rw [bp hm]
    exact ⟨hF.name, hF.func, hF.tr, hF.size, (fun q => by cases q), hF.ds, ⟨⟨h1, rfl, rfl⟩, trivial⟩, hF.rd, hF.up⟩
 ·rename_i hw
  have hwant := eN hF.tr hw
  rw [cV] at e
  exact (hk _ _ _ _ _ e ρ w _ _ h (hF.finish ho hd (y := undef) rfl)).of_steps (.one (iC hm ht (by simp [ho, hwant]))) (FR.refl ρ w) hT rfl
 ·cases e
theorem qb (hE : iQ E) (hg : Good E.P ih) (hdst : gp ops fn.ntmps = true) : ∀ (l : List Oper) (idx : List Nat), idx.map (ops[·]?) = l.map some → Px E.P f fn ops idx k rd (gG E ops (bq ih) (dW ih) rd l)
 | [], [], _ => fun t ds up s r e ρ w fr cs h hF => by
  simp only [gG, Option.some.injEq] at e
  subst e
  exact ⟨ρ, w, _, cs, .one (pV (th hF) (hF.todo rfl)), FR.refl ρ w, qW.refl hF, h, hF.to k, rfl⟩
 | o :: l, i :: idx, hl => fun t ds up s r e ρ w fr cs h hF => by
  simp only [List.map_cons, List.cons.injEq] at hl
  exact Ak hE hg hdst hl.1 (qb hE hg hdst l idx hl.2) e h hF
 | [], _ :: _, hl => by cases hl
 | _ :: _, [], hl => by cases hl
theorem NT (ops : Array Oper) : (List.range ops.size).map (ops[·]?) = ops.toList.map some := by
 apply List.ext_getElem?
 intro j
 rw [List.getElem?_map, List.getElem?_map, Array.getElem?_toList]
 by_cases hj : j < ops.size
 ·simp [hj]
 ·simp [hj]
end
section st
variable {P : Program} {fr : Frame} {c : Frame} {cs : List Frame} {w w' : World} {k : List Item} {l : Nat} {v : Value}
theorem Qk (hm : fr.mode = .run) (hk : fr.kind = .normal) (hro : fr.roundOf = some l) (ht : fr.todo = []) (hr : (Instr.endRound l none).run P w = .ok v w') :
 step P (lone fr (c :: cs) w) = .next (lone (c.finish v) cs w') := step_lone_go (by simp [stepG, stepG.exec, hm, ht, hro, hr, doReturn, hk])
theorem Qj (hm : fr.mode = .run) (hk : fr.kind = .normal) (hro : fr.roundOf = some l) (ht : fr.todo = .code .ret :: k) (hr : (Instr.endRound l (some .ret)).run P w = .ok v w') :
 step P (lone fr (c :: cs) w) = .next (lone (c.finish v) cs w') := step_lone_go (by simp [stepG, stepG.exec, hm, ht, hro, hr, doReturn, hk])
theorem NO {id : Nat} (hm : fr.mode = .run) (hk : fr.kind = .normal) (hro : fr.roundOf = some l) (ht : fr.todo = .code (.exit id) :: k) (hx : exitTo id k = none) (hr : (Instr.endRound l (some (.exit id))).run P w = .ok v w') :
 step P (lone fr (c :: cs) w) = .next (lone (c.finish v) cs w') := step_lone_go (by simp [stepG, stepG.exec, hm, ht, hro, hr, doReturn, hk, hx])
theorem NN {id : Nat} (hm : fr.mode = .run) (hk : fr.kind = .normal) (hro : fr.roundOf = some l) (ht : fr.todo = .code (.goto id) :: k) (hx : gotoIn id k = none) (hr : (Instr.endRound l (some (.goto id))).run P w = .ok v w') :
 step P (lone fr (c :: cs) w) = .next (lone (c.finish v) cs w') := step_lone_go (by simp [stepG, stepG.exec, hm, ht, hro, hr, doReturn, hk, hx])
theorem wO (hm : fr.mode = .run) (hro : fr.roundOf = some l) (ht : fr.todo = .beginRound :: k) (hr : (Instr.beginRound l).run P w = .ok () w') :
 step P (lone fr cs w) = .next (lone { fr with todo := k } cs w') := step_lone_go (by simp [stepG, stepG.exec, stepG.apply, hm, ht, hro, hr, Frame.finish])
theorem BT {j : Option Code} (hm : fr.mode = .run) (ht : fr.todo = .endRangeFunc l :: k) (hr : (Instr.endLoop l).run P w = .ok j w') :
 step P (lone fr cs w) = .next (lone { fr with todo := (j.map Item.code).toList ++ k } cs w') := step_lone_go (by simp [stepG, stepG.exec, hm, ht, hr])
theorem Kh {g : Operand} {ps : Array Tmp} {a b : Code} {fid : FuncId} {first cap : Array Value} {f2 : FuncId} {args : Array Value} (hm : fr.mode = .run) (ht : fr.todo = .code (.rangeFunc g ps a b) :: k) (hro : fr.roundOf = none)
 (hg : rv fr.tmps g = .func (.func fid) first cap)
 (hc : ∀ w, (callFunc fid (first ++ #[.func (.yield (w'.heap.size - 1)) #[] #[]] ++ cap)).run P w = .ok (.enter f2 args) w)
 (hw : w' = (w.alloc (.deferred (some []))).alloc (.loop { state := .ready, pending := none, fn := fr.fn, tmps := fr.tmps, params := ps, assign := a, body := b, defers := w.heap.size })) :
 step P (lone fr cs w) = .next (lone (Frame.enter P f2 args .normal) ({ fr with todo := .inRangeFunc (w'.heap.size - 1) :: k, defers := { target := .collected w.heap.size, args := #[] } :: fr.defers } :: cs) w') := by
 refine step_lone_go ?_
 have hl : w'.heap.size - 1 = w.heap.size + 1 := by rw [hw]; simp
 rw [hl] at hc ⊢
 have hen := run_enterLoop_outer (P := P) (w := w) fr.fn fr.tmps ps a b
 rw [← hw] at hen
 simp only [stepG, stepG.exec, hm, ht, hro, Sem.runT_eq, hen, GStep.bare_after]
 have hcst : ∀ v : Value, rv fr.tmps (.const v) = v := fun _ => rfl
 have hc' : (callFunc fid (first.push (.func (.yield (w.heap.size + 1)) #[] #[]) ++ cap)).run P w' = .ok (.enter f2 args) w' := by simpa using hc w'
 simp [stepG.apply, pz, resolve, hg, Deferred.ofValue, invoke, hcst, hc']
theorem zI {b : Nat} {ds : List Deferred} {m : FrameMode} (hm : fr.mode = m) (hne : m ≠ .run) (hd : fr.defers = { target := .collected b, args := #[] } :: ds) {calls : List Deferred} (hr : (Instr.takeDeferred b).run P w = .ok calls w') :
 step P (lone fr cs w) = .next (lone { fr with defers := calls ++ ds } cs w') := by
 refine step_lone_go ?_
 cases m with
 | run => exact absurd rfl hne
 | returning => simp [stepG, unwind, hm, hd, hr]
 | panicking ch => simp [stepG, unwind, hm, hd, hr]
end st
section
variable {E : cg} {ih : sd → S → Option cX} {f : FuncId} {fn : Func}
theorem bY (hg : Good E.P ih) {t : T V} {todo : List Item} {ds : List dT} {m : Md} {up : Option Md} {rd : Option Nat} {s : S} {out : cX} (e : fF ih f fn t todo ds m up rd s = some out) : Bm E.P f fn t todo ds m up rd s out :=
 hg (.frame f fn t todo ds m up rd) s out e
theorem tI {ρ : aq} {s : S} {w : World} (h : HR ρ s w) {l : Nat} {st : LoopState} {pend : Option Code} {f' : FuncId} {t' : T V} {ps : Array Tmp} {a b : Code} {d nt : Nat} (hs : s.get l = some (.loop st pend f' t' ps a b d nt)) {lb : wF} (hl : ρ l 0 = some lb) :
 ∃ (r : Loop), w.heap[lb.b]? = some (.loop r) ∧ r.state = st ∧ r.pending = pend ∧ r.fn = f' ∧ r.params = ps ∧ r.assign = a ∧ r.body = b ∧ TR ρ t' r.tmps ∧ nt ≤ r.tmps.size ∧
  ∀ st2 pend2, HR ρ (s.put l (.loop st2 pend2 f' t' ps a b d nt)) (w.putObj lb.b (.loop { r with state := st2, pending := pend2 })) ∧ FR ρ w ρ (w.putObj lb.b (.loop { r with state := st2, pending := pend2 })) := by
 obtain ⟨l1, ld, tm, h1, h2, h3, h4, h5⟩ := h.blk _ _ hs
 rw [hl] at h1; cases h1
 refine ⟨_, h5, rfl, rfl, rfl, rfl, rfl, rfl, h3, h4, fun st2 pend2 => ?_⟩
 exact h.turn hl hs (fun _ h => by cases h) (tU w lb.b _) _ ⟨lb, ld, tm, hl, h2, h3, h4, World.putObj_heap_same (h.low _ _ _ hl)⟩
theorem jk (hg : Good E.P ih) {t : T V} {todo : List Item} {ds : List dT} {up : Option Md} {rd : Option Nat} {s : S} {out : cX} {jump : Option Code} (e : iU (fF ih f fn) t ds up rd s jump = some out)
 {ρ : aq} {w : World} {fr : Frame} {cs : List Frame} (h : HR ρ s w) (hF : iY E.P ρ f fn t todo ds .run up rd fr cs)
 (h0 : jump = none ∨ jump = some .ret → fr.roundOf = none → step E.P (lone fr cs w) = .next (lone { fr with mode := .returning } cs w))
 (h1 : ∀ l v w', fr.roundOf = some l → fr.kind = .normal → (Instr.endRound l jump).run E.P w = .ok v w' → ∀ c cs', cs = c :: cs' → step E.P (lone fr cs w) = .next (lone (c.finish v) cs' w')) :
 oU E.P f up.isSome rd.isSome cs (lone fr cs w) ρ w out := by
 have ret : ∀ up, iY E.P ρ f fn t todo ds .run up none fr cs → iY E.P ρ f fn t [] ds .returning up none { fr with mode := .returning } cs := fun up hF =>
  ⟨hF.name, hF.func, hF.tr, hF.size, (fun q => by cases q), hF.ds, trivial, hF.rd, hF.up⟩
 unfold iU at e
 split at e
 ·split at e
  ·exact eb h (h0 (.inl rfl) hF.rd) (ret up hF) (bY hg e)
  ·exact eb h (h0 (.inr rfl) hF.rd) (ret up hF) (bY hg e)
  ·cases e
 ·rename_i l
  split at e
  ·rename_i st pend f' t' ps a b d nt hs
   simp only [Option.some.injEq] at e
   subst e
   obtain ⟨rfl, lb, hl, hro⟩ := hF.rd
   obtain ⟨r, r1, r2, r3, r4, r5, r6, r7, r8, r9, r10⟩ := tI h hs hl
   have hrun := run_endRound (P := E.P) jump r1
   obtain ⟨j1, j2⟩ := r10 (if jump.isNone then .ready else .done) jump
   have hc : (bif jump.isNone then LoopState.ready else .done) = if jump.isNone then .ready else .done := by cases jump.isNone <;> rfl
   rw [hc]
   refine ⟨ρ, _, j1, j2, fun c cs' hcs => ⟨.returned (.bool jump.isNone), rfl, .one (h1 _ _ _ hro hF.up hrun c cs' hcs)⟩⟩
  ·cases e
def eo (E : cg) : Prop := ∀ (ih : sd → S → Option cX), Good E.P ih → ∀ (f : FuncId) (fn : Func) (id : Nat) (ops : Array Oper) (k : List Item) (rd : Option Nat) (t : T V) (ds : List dT) (up : Option Md) (s : S) (r : fv),
 gp ops fn.ntmps = true → gI E ops (bq ih) (dW ih) t ds up s = some r → ∀ ρ w fr cs, HR ρ s w → iY E.P ρ f fn t (.code (.region id ops true) :: k) ds .run up rd fr cs → Rw E.P ρ w f fn k up rd cs (lone fr cs w) r
theorem nh (hg : Good E.P ih) {k : List Item} {rd : Option Nat} {up : Option Md} {x : Option fv} {out : cX} (e : iE (fF ih f fn) k rd x = some out) {ρ : aq} {w : World} {cs : List Frame} {M : Machine} (hr : up.isSome = true → rd = none)
 (hx : ∀ r, x = some r → Rw E.P ρ w f fn k up rd cs M r) : oU E.P f up.isSome rd.isSome cs M ρ w out := by
 cases x with
 | none => cases e
 | some r =>
  obtain ⟨ρ', w', fr', cs', h1, h2, h3, h4⟩ := hx r rfl
  cases r with
  | on t' ds' up' s' =>
   obtain ⟨k1, k2, k3⟩ := h4
   have := bY hg e ρ' w' fr' cs' k1 k2
   rw [k3] at this
   exact oU.of_tops hr h3 (oU.of_steps h1 h2 this)
  | panicked c t' ds' up' s' =>
   obtain ⟨k1, k2, k3⟩ := h4
   have := bY hg e ρ' w' fr' cs' k1 k2
   rw [k3] at this
   exact oU.of_tops hr h3 (oU.of_steps h1 h2 this)
theorem td (hg : Good E.P ih) {t : T V} {ds : List dT} {up : Option Md} {rd : Option Nat} {s : S} {out : cX} {k : List Item} {g : Operand} {ps : Array Tmp} {a b : Code}
 (e : ik f fn.ntmps (fF ih f fn) (bq ih) k t ds up rd s ps a b (eval t g) = some out) {ρ : aq} {w : World} {fr : Frame} {cs : List Frame} (h : HR ρ s w) (hF : iY E.P ρ f fn t (.code (.rangeFunc g ps a b) :: k) ds .run up rd fr cs) :
 oU E.P f up.isSome rd.isSome cs (lone fr cs w) ρ w out := by
 unfold ik at e
 split at e
 ·rename_i fnv first cap hgv
  obtain ⟨gf, fi, ca, g1, g2, g3, g4⟩ := vF (am hF.tr hgv)
  split at e
  ·rename_i fid
   cases g1
   split at e
   ·
    have hro : fr.roundOf = none := hF.rd
    have hm := th hF
    simp only at e
    obtain ⟨A1, A2⟩ := h.alloc .deferred (.deferred (some [])) 0 0 (Nat.le_refl _) ⟨⟨w.heap.size, 0, 0⟩, aq.put_same _ _ _ _, ez _ _⟩
    have hd1 : (ρ.put s.next 0 ⟨w.heap.size, 0, 0⟩) s.next 0 = some ⟨w.heap.size, 0, 0⟩ := aq.put_same _ _ _ _
    obtain ⟨B1, B2⟩ := A1.alloc (.loop .ready none f t ps a b s.next fn.ntmps) (.loop { state := .ready, pending := none, fn := f, tmps := fr.tmps, params := ps, assign := a, body := b, defers := w.heap.size }) 0 0 (Nat.le_refl _) (by
     have hle := aq.le_put (ρ := ρ.put s.next 0 ⟨w.heap.size, 0, 0⟩) (f := (s.alloc .deferred).next) (v := 0) ⟨(w.alloc (.deferred (some []))).heap.size, 0, 0⟩ (A1.fresh _ _ (Nat.le_refl _))
     exact ⟨⟨(w.alloc (.deferred (some []))).heap.size, 0, 0⟩, ⟨w.heap.size, 0, 0⟩, fr.tmps, aq.put_same _ _ _ _, hle _ _ _ hd1, (hF.tr.mono A2.ext).mono hle, hF.size, ez _ _⟩)
    generalize hρ2 : (ρ.put s.next 0 ⟨w.heap.size, 0, 0⟩).put (s.alloc .deferred).next 0 ⟨(w.alloc (.deferred (some []))).heap.size, 0, 0⟩ = ρ2 at B1 B2
    have hl2 : ρ2 (s.alloc .deferred).next 0 = some ⟨w.heap.size + 1, 0, 0⟩ := by rw [← hρ2, aq.put_same]; simp
    have hd2 : ρ2 s.next 0 = some ⟨w.heap.size, 0, 0⟩ := B2.ext _ _ _ hd1
    have hAB := A2.trans B2
    have hargs : aY ρ2 (first ++ ([.func (.yield (s.alloc .deferred).next) [] []] ++ cap)) = some (fi ++ ([Value.func (.yield (w.heap.size + 1)) #[] #[]] ++ ca)) := by
     refine dK (fI hAB.ext _ _ g2) (dK ?_ (fI hAB.ext _ _ g3))
     simp [aY, den, mF, hl2]
    cases hr : bq ih fid (first ++ ([.func (.yield (s.alloc .deferred).next) [] []] ++ cap)) none ((s.alloc .deferred).alloc (.loop .ready none f t ps a b s.next fn.ntmps)) with
    | none => rw [hr] at e; cases e
    | some o1 =>
     rw [hr] at e
     obtain ⟨hcall, hfin⟩ := li hg B1 hargs hr
     have hname : fr.fn = f := hF.name
     obtain ⟨ρ3, w3, en, j1, j2, j3, j4⟩ := hfin { fr with todo := .inRangeFunc (w.heap.size + 1) :: k, defers := { target := .collected w.heap.size, args := #[] } :: fr.defers } cs
     have hstep := Kh (P := E.P) (fr := fr) (cs := cs) (w := w) (w' := (w.alloc (.deferred (some []))).alloc (.loop { state := .ready, pending := none, fn := f, tmps := fr.tmps, params := ps, assign := a, body := b, defers := w.heap.size }))
      (k := k) (th hF) (hF.todo rfl) hro g4 (f2 := fid) (args := (fi ++ ([Value.func (.yield (w.heap.size + 1)) #[] #[]] ++ ca)).toArray) (fun w => by
       have := hcall w
       simpa using this) (by rw [hname])
     have hsz : ((w.alloc (.deferred (some []))).alloc (.loop { state := .ready, pending := none, fn := f, tmps := fr.tmps, params := ps, assign := a, body := b, defers := w.heap.size })).heap.size - 1 = w.heap.size + 1 := by simp
     rw [hsz] at hstep
     have hsteps := Steps.head hstep j4
     have hABC := hAB.trans j2
     have hF3 := hF.mono hABC.ext
     have hdr : JB ρ3 (.collected s.next) { target := .collected w.heap.size, args := #[] } := ⟨_, j2.ext _ _ _ hd2, rfl⟩
     obtain ⟨oe, oup, os⟩ := o1
     cases oe with
     | returned v =>
      cases en with
      | panicked _ => exact j3.elim
      | outgrown => exact j3.elim
      | returned y =>
       simp only [kv] at e
       unfold qq at e
       split at e
       ·rename_i st pend f' t' ps' a' b' d' nt hs
        obtain ⟨r, r1, r2, r3, r4, r5, r6, r7, r8, r9, r10⟩ := tI j1 hs (j2.ext _ _ _ hl2)
        have hgo : ∃ hb : st ≠ .busy, fF ih f fn t ((pend.map Item.code).toList ++ k) (.collected s.next :: ds) .run up none (os.put (s.alloc .deferred).next (.loop .exhausted pend f' t' ps' a' b' d' nt)) = some out := by
         split at e
         ·cases e
         ·rename_i hne; exact ⟨hne, e⟩
        obtain ⟨hb, hgo⟩ := hgo
        obtain ⟨q1, q2⟩ := r10 .exhausted pend
        have hend := run_endLoop (P := E.P) r1 (by rw [r2]; exact hb)
        rw [r3] at hend
        have hres : cE { fr with todo := .inRangeFunc (w.heap.size + 1) :: k, defers := { target := .collected w.heap.size, args := #[] } :: fr.defers } (.returned y) = { fr with todo := .endRangeFunc (w.heap.size + 1) :: k, defers := { target := .collected w.heap.size, args := #[] } :: fr.defers } := rfl
        rw [hres] at hsteps
        have hst2 := BT (P := E.P) (fr := { fr with todo := .endRangeFunc (w.heap.size + 1) :: k, defers := { target := .collected w.heap.size, args := #[] } :: fr.defers }) (cs := cs) hm rfl hend
        refine oU.of_steps (hsteps.trans (.one hst2)) (hABC.trans q2) (bY hg hgo _ _ _ _ q1 ?_)
        exact ⟨hF3.name, hF3.func, hF3.tr, hF3.size, fun _ => rfl, ⟨hdr, hF3.ds⟩, hF3.md, hF3.rd, hF3.up⟩
       ·cases e
     | panicked c =>
      cases en with
      | returned _ => exact j3.elim
      | outgrown => exact j3.elim
      | panicked ch =>
       simp only [kv] at e
       refine oU.of_steps hsteps hABC (bY hg e _ _ _ _ j1 ?_)
       rw [cE, bp (show ({ fr with todo := .inRangeFunc (w.heap.size + 1) :: k, defers := { target := .collected w.heap.size, args := #[] } :: fr.defers } : Frame).mode = .run from hm)]
       exact ⟨hF3.name, hF3.func, hF3.tr, hF3.size, (fun q => by cases q), ⟨hdr, hF3.ds⟩, j3, hF3.rd, hF3.up⟩
   ·cases e
  ·cases e
 ·cases e
end
end Go.AI
