/- The evaluator by which runs of the program are reckoned, and that it is sound: part 5. No conditions beyond those of the row. -/
import Derived.Test.YtkeaedhoaamfnaaGreatDoorA4
import Derived.Lib.Bytealg
import Derived.Defers
import Derived.Recover
import Derived.RangeFuncRecord
set_option linter.unusedVariables false
set_option linter.unusedSimpArgs false
noncomputable section
namespace Go.AI
section ops
variable {P : Program} {ρ : aE} {s : S} {w : World} {t : T V} {tm : Array Value}
theorem mX {x : V} {ys : List Value} (h : bj ρ [x] = some ys) : ∃ X, den ρ x = some X ∧ ys = [X] := by
 obtain ⟨X, q, h1, h2, rfl⟩ := bi.1 h
 cases h2; exact ⟨X, h1, rfl⟩
theorem Di {x y : V} {ys : List Value} (h : bj ρ [x, y] = some ys) : ∃ X Y, den ρ x = some X ∧ den ρ y = some Y ∧ ys = [X, Y] := by
 obtain ⟨X, q, h1, h2, rfl⟩ := bi.1 h
 obtain ⟨Y, h3, rfl⟩ := mX h2
 exact ⟨X, Y, h1, h3, rfl⟩
theorem wM (h : HR ρ s w) {ts : Array TypeId} {ty t0 : TypeId} {x : V} {X : Value} {v : V} (h0 : ts[0]? = some t0) (hx : den ρ x = some X) (e : lM P t0 s x = some v) :
 ∃ y, den ρ v = some y ∧ (Builtin.len_ ts ty #[X]).run P w = .ok y w := by
 unfold lM at e
 split at e
 ·rename_i l hu
  cases e; cases hx
  exact ⟨_, by rw [aX]; rfl, by simp [Builtin.len_, h0, az hu, eC, goInt]⟩
 ·rename_i n _ _ hu
  cases e
  exact ⟨_, rfl, by simp [Builtin.len_, h0, az hu, goInt]⟩
 ·rename_i el a z n cap sz hu
  cases e
  obtain ⟨b', c', rfl, _⟩ := tI hx
  exact ⟨_, by rw [aX]; rfl, by simp [Builtin.len_, h0, az hu, goInt]⟩
 ·rename_i el hu
  cases e; cases hx
  exact ⟨_, rfl, by simp [Builtin.len_, h0, az hu, goInt]⟩
 ·rename_i k el hu
  cases e; cases hx
  exact ⟨_, rfl, by simp [Builtin.len_, h0, az hu, goInt]⟩
 ·rename_i k el r hu
  split at e
  ·rename_i es c hg
   cases e
   obtain ⟨l, hl, rfl⟩ := CE hx
   obtain ⟨l', rs, g1, g2, g3⟩ := h.blk _ _ hg
   rw [hl] at g1; cases g1
   have : es.length = rs.size := (gx.length g3).trans (Array.length_toList (xs := rs))
   exact ⟨.int .i64 (rs.size : Nat), by rw [← this]; rfl, by simp [Builtin.len_, h0, az hu, goInt, mH g2]⟩
  ·cases e
 ·cases e
theorem xQ {ts : Array TypeId} {ty t0 : TypeId} {x : V} {X : Value} {v : V} (h0 : ts[0]? = some t0) (hx : den ρ x = some X) (e : Vg P t0 x = some v) :
 ∃ y, den ρ v = some y ∧ (Builtin.cap_ ts ty #[X]).run P w = .ok y w := by
 unfold Vg at e
 split at e
 ·rename_i el hu
  split at e
  ·cases e; cases hx
   exact ⟨_, rfl, by simp [Builtin.cap_, h0, az hu, goInt]⟩
  ·rename_i a z n c sz
   cases e
   obtain ⟨b', c', rfl, hcc⟩ := tI hx
   obtain rfl := hcc _ rfl
   exact ⟨_, by rw [aX]; rfl, by simp [Builtin.cap_, h0, az hu, goInt]⟩
  ·cases e
 ·cases e
theorem ko {f : V → V → Option V} {g : Value → Value → Sem Value} (hfg : ∀ x y v X Y, f x y = some v → den ρ x = some X → den ρ y = some Y → ∃ z, den ρ v = some z ∧ (g X Y).run P w = .ok z w) :
 ∀ (l : List V) (ys : List Value) (x : V) (X : Value) (v : V), bj ρ l = some ys → den ρ x = some X → l.foldlM f x = some v → ∃ y, den ρ v = some y ∧ (ys.foldlM g X).run P w = .ok y w
 | [], ys, x, X, v, hl, hx, h => by
  cases hl
  simp at h; subst h
  exact ⟨X, hx, rfl⟩
 | a :: l, ys, x, X, v, hl, hx, h => by
  obtain ⟨y, q, h1, h2, rfl⟩ := bi.1 hl
  simp only [List.foldlM_cons] at h
  cases hf : f x a with
  | none => rw [hf] at h; simp at h
  | some u =>
   rw [hf] at h
   simp at h
   obtain ⟨z, z1, z2⟩ := hfg _ _ _ _ _ hf hx h1
   obtain ⟨y', k1, k2⟩ := ko hfg l q u z v h2 z1 h
   exact ⟨y', k1, by simp only [List.foldlM_cons, Sem.run_bind, z2, Result.andThen_ok, k2]⟩
theorem wE (x y v : V) (X Y : Value) (h : TV x y = some v) (hx : den ρ x = some X) (hy : den ρ y = some Y) : ∃ z, den ρ v = some z ∧ (Builtin.max2 X Y).run P w = .ok z w := by
 unfold TV at h
 split at h
 ·rename_i j a k b
  cases hk : aU j k with
  | false => rw [hk] at h; cases h
  | true =>
   rw [hk] at h
   simp only [cond_true, Option.some.injEq] at h
   subst h; cases hx; cases hy
   refine ⟨_, rfl, ?_⟩
   simp only [Builtin.max2, Sem.run_pure]
   by_cases hc : b > a <;> simp [hc]
 ·cases h
theorem wD (x y v : V) (X Y : Value) (h : TU x y = some v) (hx : den ρ x = some X) (hy : den ρ y = some Y) : ∃ z, den ρ v = some z ∧ (Builtin.min2 X Y).run P w = .ok z w := by
 unfold TU at h
 split at h
 ·rename_i j a k b
  cases hk : aU j k with
  | false => rw [hk] at h; cases h
  | true =>
   rw [hk] at h
   simp only [cond_true, Option.some.injEq] at h
   subst h; cases hx; cases hy
   refine ⟨_, rfl, ?_⟩
   simp only [Builtin.min2, Sem.run_pure]
   by_cases hc : b < a <;> simp [hc]
 ·cases h
theorem Dm (h : HR ρ s w) {sz n k : Nat} {y : V} {Y : Value} {l : List V} (hy : den ρ y = some Y) (e : Jg s sz n y = some (l, k)) :
 ∃ ys m, bj ρ l = some ys ∧ (Builtin.lenOf Y).run P w = .ok m w ∧ k = Nat.min m n ∧ (Builtin.firstCells sz k Y).run P w = .ok ys.toArray w := by
 unfold Jg at e
 split at e
 ·cases e; cases hy
  exact ⟨[], 0, rfl, rfl, by simp, rfl⟩
 ·rename_i b z m cap sz'
  cases hz0 : Nat.beq sz' 0 with
  | true => rw [hz0] at e; cases e
  | false =>
  rw [hz0] at e
  simp only [cond_false] at e
  cases hb : Nat.beq sz sz' with
  | false => rw [hb] at e; cases e
  | true =>
   rw [hb] at e
   obtain rfl := Nat.eq_of_beq_eq_true hb
   simp only [cond_true] at e
   split at e
   ·rename_i l' hl
    cases e
    obtain ⟨lo, g1, g2, g3, g4, g5, rfl⟩ := fU hy (.inl (KZ hz0))
    obtain ⟨lo', ys, k1, k2, k3, k4, k5⟩ := od (P := P) h hl
    rw [g1] at k1; cases k1
    refine ⟨ys, m, k3, rfl, rfl, ?_⟩
    rcases Nat.eq_zero_or_pos m with h0 | h0
    ·subst h0
     have : ys = [] := by simpa using k4
     subst this
     have := run_loadCells_list (P := P) (w := w) ⟨lo.b, bA lo b z cap sz - lo.base, none⟩ [] (fun j v h => by simp at h)
     simp only [Builtin.firstCells, Nat.zero_min, Nat.zero_mul]
     simpa using this
    ·rw [eT g4 h0]; exact k5
   ·cases e
 ·rename_i l'
  cases e; cases hy
  refine ⟨_, l'.length, ph (l'.take (Nat.min l'.length n)), by simp [Builtin.lenOf, eC], rfl, ?_⟩
  have : (aH l').extract 0 (Nat.min l'.length n) = aH (l'.take (Nat.min l'.length n)) := by rw [lz]; simp
  have e2 : ∀ q : List Nat, Array.map (fun b => Value.int IntKind.u8 (b.toNat : Int)) (aH q).data = ((aH q).data.toList.map fun b => Value.int .u8 (b.toNat : Int)).toArray := fun q => by simp [← Array.toList_inj]
  simp only [Builtin.firstCells, this, Sem.run_pure, e2]
 ·cases e
theorem Gp (h : HR ρ s w) {ts : Array TypeId} {ty t0 : TypeId} {x y : V} {X Y : Value} {nx : Nx} (h0 : ts[0]? = some t0) (hx : den ρ x = some X) (hy : den ρ y = some Y) (e : PZ P t0 s x y = some nx) :
 Ec P ρ w nx ((do pure (Next.value (← Builtin.copy_ ts ty #[X, Y])) : Sem Next).run P w) := by
 unfold PZ at e
 split at e
 ·rename_i el hu
  split at e
  ·rename_i a z n cap sz
   split at e
   ·rename_i sz' hsz
    cases hb : (Nat.beq sz sz' && Nat.blt 0 n) with
    | false => rw [hb] at e; cases e
    | true =>
     rw [hb] at e
     simp only [cond_true] at e
     simp only [Bool.and_eq_true] at hb
     obtain rfl := Nat.eq_of_beq_eq_true hb.1
     have hn := lD hb.2
     obtain ⟨lo, g1, g2, g3, g4, g5, rfl⟩ := fU hx (.inr hn)
     rw [eT g4 hn]
     unfold Qa at e
     split at e
     ·rename_i l k hc
      obtain ⟨ys, m, y1, y2, rfl, y4⟩ := Dm (P := P) h hy hc
      split at e
      ·rename_i s1 hst
       cases e
       obtain ⟨ad, w', q1, q2, q3, q4⟩ := iI P h hst y1
       rw [rO g1 g3] at q1; cases q1
       refine ⟨ρ, _, w', ?_, by rw [aX]; rfl, q3, q4⟩
       simp [Builtin.copy_, h0, az hu, dc hsz, y2, y4, q2, goInt]
      ·cases e
     ·cases e
   ·cases e
  ·cases e
 ·cases e
theorem GM (h : HR ρ s w) {b : Builtin} {ts : Array TypeId} {ty : TypeId} {consts : Array Bool} {args : List V} {ys : List Value} (hd : bj ρ args = some ys) {nx : Nx} (e : dS P b ts args s = some nx) :
 Ec P ρ w nx ((Go.builtin b ts ty consts ys.toArray).run P w) := by
 unfold dS at e
 split at e
 ·split at e
  ·rename_i t0 h0
   split at e
   ·rename_i t1 h1
    split at e
    ·rename_i x y
     obtain ⟨X, Y, hx, hy, rfl⟩ := Di hd
     unfold fF at e
     split at e
     ·rename_i v s' ha
      cases e
      obtain ⟨ρ', r, w', j1, j2, j3, j4⟩ := zn (ty := ty) h h0 h1 hx hy ha
      exact ⟨ρ', r, w', by simp [Go.builtin, j1], j2, j3, j4⟩
     ·cases e
    ·cases e
   ·cases e
  ·cases e
 ·split at e
  ·rename_i t0 h0
   split at e
   ·rename_i x
    obtain ⟨X, hx, rfl⟩ := mX hd
    exact (bm h e fun v hv => wM h h0 hx hv).toR h
   ·cases e
  ·cases e
 ·refine (bm (m := Builtin.max_ ts ty ys.toArray) h e fun v hv => ?_).toR h
  cases args with
  | nil => cases hv
  | cons x r =>
   obtain ⟨X, q, hx, hr, rfl⟩ := bi.1 hd
   exact ko wE r q x X v hr hx hv
 ·refine (bm (m := Builtin.min_ ts ty ys.toArray) h e fun v hv => ?_).toR h
  cases args with
  | nil => cases hv
  | cons x r =>
   obtain ⟨X, q, hx, hr, rfl⟩ := bi.1 hd
   exact ko wD r q x X v hr hx hv
 ·cases e; exact ⟨rfl, h⟩
 ·split at e
  ·rename_i t0 h0
   split at e
   ·rename_i x y
    obtain ⟨X, Y, hx, hy, rfl⟩ := Di hd
    exact Gp h h0 hx hy e
   ·cases e
  ·cases e
 ·split at e
  ·rename_i t0 h0
   split at e
   ·rename_i x
    obtain ⟨X, hx, rfl⟩ := mX hd
    exact (bm h e fun v hv => xQ h0 hx hv).toR h
   ·cases e
  ·cases e
 ·split at e
  ·rename_i tt v
   cases e
   obtain ⟨X, hx, rfl⟩ := mX hd
   refine ⟨X, hx, ?_, h⟩
   simp only [den] at hx
   split at hx
   ·cases hx
    simp [Go.builtin, Instr.panic]
   ·cases hx
  ·cases e
 ·cases e
def zz.entry : zz → Array Value → Sem Value
 | .indexByte => Extern.BytealgIndexByte.indexByte
 | .count => Extern.BytealgCount.count
structure jp (E : cx) : Prop where
 ext : ∀ f k fn, E.ext f = some k → E.P.funcs[f]? = some fn → fn.body = none → (fn.name == "runtime.NumGoroutine") = false ∧ Extern.findNext fn = none ∧ Extern.find fn = some k.entry
theorem LI (x c : Nat) : (UInt8.ofNat x == UInt8.ofNat c) = Nat.beq (Nat.mod x 256) (Nat.mod c 256) := by
 rw [Bool.eq_iff_iff]
 simp only [beq_iff_eq, Nat.beq_eq]
 constructor
 ·intro h
  have := congrArg UInt8.toNat h
  simp at this; exact this
 ·intro h
  apply UInt8.toNat_inj.1
  simp; exact h
theorem rA (c : Nat) : ∀ (l : List Nat) (i : Nat), (match cv (Nat.mod c 256) l i with | some j => (Int.ofNat j) | none => -1) = if Lib.indexByte (l.map UInt8.ofNat) (UInt8.ofNat c) = -1 then -1 else Lib.indexByte (l.map UInt8.ofNat) (UInt8.ofNat c) + i
 | [], i => rfl
 | x :: l, i => by
  have ih := rA c l (i + 1)
  have hge := Lib.indexByte_ge (l.map UInt8.ofNat) (UInt8.ofNat c)
  simp only [cv, List.map_cons, Lib.indexByte, LI]
  cases hb : Nat.beq (Nat.mod x 256) (Nat.mod c 256) with
  | true => simp
  | false =>
   simp only [cond_false, Bool.false_eq_true, if_false]
   rw [ih]
   by_cases hq : Lib.indexByte (l.map UInt8.ofNat) (UInt8.ofNat c) = -1
   ·simp [hq]
   ·have h1 : (Lib.indexByte (l.map UInt8.ofNat) (UInt8.ofNat c) == -1) = false := by simpa using hq
    rw [if_neg hq, h1]
    simp only [Bool.false_eq_true, if_false]
    rw [if_neg (by omega)]
    push_cast
    omega
theorem xu (c : Nat) : ∀ (l : List Nat), countByte (Nat.mod c 256) l = Lib.countByte (l.map UInt8.ofNat) (UInt8.ofNat c)
 | [] => rfl
 | x :: l => by
  have ih := xu c l
  simp only [countByte, List.map_cons, Lib.countByte, List.count_cons, LI] at ih ⊢
  cases hb : Nat.beq (Nat.mod x 256) (Nat.mod c 256) with
  | true => simp [ih]
  | false => simp [ih]
theorem yX {k : zz} {args : List V} {ys : List Value} (hd : bj ρ args = some ys) {v : V} (e : gE k args = some v) :
 ∃ y, den ρ v = some y ∧ (k.entry ys.toArray).run P w = .ok y w := by
 unfold gE at e
 split at e
 ·rename_i l c
  obtain ⟨X, Y, hx, hy, rfl⟩ := Di hd
  cases hx; cases hy
  have hl : (aH l).data.toList = l.map UInt8.ofNat := by simp [aH]
  have hc : (Int.ofNat c).toNat.toUInt8 = UInt8.ofNat c := rfl
  split at e
  ·have := Lib.run_indexByteString (P := P) (aH l) (Int.ofNat c) w
   have h2 := rA c l 0
   rw [hl, hc] at this
   refine ⟨_, ?_, this⟩
   simp only [Option.some.injEq] at e
   subst e
   have hge := Lib.indexByte_ge (l.map UInt8.ofNat) (UInt8.ofNat c)
   generalize Lib.indexByte (l.map UInt8.ofNat) (UInt8.ofNat c) = r at *
   cases hq : cv (Nat.mod c 256) l 0 with
   | none =>
    rw [hq] at h2
    simp only at h2 ⊢
    by_cases hr : r = -1
    ·subst hr; rfl
    ·rw [if_neg hr] at h2; simp at h2; omega
   | some j =>
    rw [hq] at h2
    simp only at h2 ⊢
    by_cases hr : r = -1
    ·rw [if_pos hr] at h2; simp at h2
    ·rw [if_neg hr] at h2; simp at h2; rw [← h2]; rfl
  ·have := Lib.run_countString (P := P) (aH l) (Int.ofNat c) w
   rw [hl, hc] at this
   refine ⟨_, ?_, this⟩
   simp only [Option.some.injEq] at e
   subst e
   rw [aX, xu]; rfl
 ·cases e
theorem GL {E : cx} (hE : jp E) (h : HR ρ s w) {f : FuncId} {args : List V} {ys : List Value} (hd : bj ρ args = some ys) {nx : Nx} (e : gc E f args s = some nx) :
 Ec E.P ρ w nx ((callFunc f ys.toArray).run E.P w) := by
 unfold gc at e
 split at e
 ·cases e
 ·rename_i fn hf
  split at e
  ·rename_i hb
   split at e
   ·rename_i k hk
    obtain ⟨h1, h2, h3⟩ := hE.ext f k fn hk hf hb
    unfold bp at e
    split at e
    ·rename_i v hv
     cases e
     obtain ⟨y, y1, y2⟩ := yX (P := E.P) (w := w) hd hv
     exact ⟨ρ, y, w, by rw [run_callFunc_extern hf h1 (by simp [hb]) h2 h3, y2]; rfl, y1, h, FR.refl ρ w⟩
    ·cases e
   ·cases e
  ·cases e
   exact ⟨ys, hd, rfl, h⟩
theorem xe {fn : Fn} {first cap : List V} {X : Value} (h : den ρ (.func fn first cap) = some X) : ∃ g a b, nw ρ fn = some g ∧ bj ρ first = some a ∧ bj ρ cap = some b ∧ X = .func g a.toArray b.toArray := by
 simp only [den] at h
 split at h
 ·rename_i g hg
  split at h
  ·rename_i a ha
   split at h
   ·rename_i b hb
    cases h
    exact ⟨g, a, b, hg, ha, hb, rfl⟩
   ·cases h
  ·cases h
 ·cases h
theorem xZ (ht : TR ρ t tm) {args : Array Operand} {vs : List V} (h : evals t args.toList = some vs) : ∃ ys, bj ρ vs = some ys ∧ args.map (rv tm) = ys.toArray :=
 ⟨_, kS ht h, by simp [← Array.toList_inj]⟩
theorem DB {E : cx} (hE : jp E) (h : HR ρ s w) (ht : TR ρ t tm) {c : Call} {ty : TypeId} {nx : Nx} (e : bB E t s c.argTypes (evals t c.args.toList) c.callee = some nx) :
 Ec E.P ρ w nx ((do let d ← resolve (rv tm) c ty; invoke d.target d.args : Sem Next).run E.P w) := by
 unfold bB at e
 split at e
 ·rename_i args ha
  obtain ⟨ys, y1, y2⟩ := xZ ht ha
  split at e
  ·rename_i b hc
   simp only [resolve, hc, Sem.run_bind, Sem.run_pure, Result.andThen_ok, invoke, y2]
   exact GM h y1 e
  ·rename_i f hc
   unfold fA at e
   split at e
   ·rename_i fn first cap hf
    obtain ⟨g, a, b, g1, g2, g3, g4⟩ := xe (aD ht hf)
    simp only [resolve, hc, g4, Deferred.ofValue, Sem.run_bind, Sem.run_pure, Result.andThen_ok, y2]
    split at e
    ·rename_i g'
     cases g1
     have := GL hE h (ec g2 (ec y1 g3)) e
     simpa [invoke] using this
    ·rename_i l
     simp only [nw] at g1
     split at g1
     ·rename_i lb hlb
      cases g1
      cases e
      exact ⟨lb, a ++ ys, hlb, ec g2 y1, by simp [invoke], h⟩
     ·cases g1
    ·cases e
   ·cases e
  ·cases e
 ·cases e
theorem zd (h : HR ρ s w) (ht : TR ρ t tm) {c : Call} {ty : TypeId} {nx : Nx} (e : rR t s (evals t c.args.toList) c.callee = some nx) :
 Ec P ρ w nx ((do pure (.defer (← resolve (rv tm) c ty)) : Sem Next).run P w) := by
 unfold rR at e
 split at e
 ·rename_i args ha
  obtain ⟨ys, y1, y2⟩ := xZ ht ha
  split at e
  ·rename_i f hc
   unfold Jd at e
   split at e
   ·rename_i fn first cap hf
    cases e
    obtain ⟨g, a, b, g1, g2, g3, g4⟩ := xe (aD ht hf)
    refine ⟨_, ⟨g, b, a ++ ys, g1, g3, ec g2 y1, rfl⟩, ?_, h⟩
    simp [resolve, hc, g4, Deferred.ofValue, y2]
   ·cases e
  ·cases e
 ·cases e
theorem za (h : HR ρ s w) (ht : TR ρ t tm) {x : Operand} {nx : Nx} (e : rM s (eval t x) = some nx) :
 Ec P ρ w nx ((do pure (Next.value (← Instr.panic (rv tm x))) : Sem Next).run P w) := by
 unfold rM at e
 split at e
 ·rename_i tt v hx
  cases e
  have hv := aD ht hx
  refine ⟨_, hv, ?_, h⟩
  generalize rv tm x = X at *
  simp only [den] at hv
  split at hv
  ·cases hv
   simp [Instr.panic]
  ·cases hv
 ·cases e
theorem rt (h : HR ρ s w) (ht : TR ρ t tm) {x : Operand} {nx : Nx} (e : bp s (eval t x) = some nx) : yj P ρ w s nx ((pure (Next.value (rv tm x)) : Sem Next).run P w) := by
 unfold bp at e
 split at e
 ·rename_i v hv
  cases e
  exact ⟨_, _, rfl, rfl, aD ht hv⟩
 ·cases e
theorem mR {E : cx} (hE : jp E) (h : HR ρ s w) (ht : TR ρ t tm) (o : Oper) {nx : Nx} (e : em E t s o = some nx) : Ec E.P ρ w nx ((execOp (rv tm) o).run E.P w) := by
 obtain ⟨dst, op, type, pos, after, guard⟩ := o
 unfold em at e
 simp only at e
 cases op <;> simp only [aG] at e <;> try (cases e; done)
 case move x => exact (rt h ht e).toR h
 case assign x => exact (rt h ht e).toR h
 case pick c a b => exact (rL h ht e).toR h
 case alloc elem => exact zc h e
 case box elem x => exact Gg h ht e
 case build ty parts => exact (pO h ht e).toR h
 case buildSlice ty len parts => exact qE h ht e
 case load ty x => exact (rN h ht e).toR h
 case store ty x y => exact yZ h ht e
 case nilCheck x => exact (lQ h ht e).toR h
 case binOp op ty x y z => exact (ul h ht e).toR h
 case unOp op ty x => exact (xm h ht e).toR h
 case convert src dst x => exact Df h ht e
 case makeInterface ty x => exact (ns h ht e).toR h
 case makeFunc fn first cap => exact (oB h ht e).toR h
 case makeMap ty r =>
  cases r with
  | none => cases e; exact uP h
  | some _ => cases e
 case makeSlice ty l c => exact uO h ht e
 case slice ty x lo hi mx => exact (pL h ht e).toR h
 case fieldAddr ty x f => exact (kY h ht e).toR h
 case field ty x f => exact (pN h ht e).toR h
 case indexAddr ty x i => exact (kW h ht e).toR h
 case index ty x i => exact (pM h ht e).toR h
 case lookup ty x k ok => exact (oD h ht e).toR h
 case mapUpdate ty m k x => exact kV h ht e
 case insert ty m k x => exact kV h ht e
 case typeAssert x xt ty ok => exact (oG h ht e).toR h
 case extract x i => exact (nu h ht e).toR h
 case call c => exact DB hE h ht e
 case defer c => exact zd h ht e
 case panic x => exact za h ht e
end ops
def pq (ρ : aE) : List vJ → List PanicEntry → Prop
 | [], [] => True
 | p :: ps, e :: es => (den ρ p.v = some e.v ∧ p.recovered = e.recovered ∧ e.goexit = false) ∧ pq ρ ps es
 | _, _ => False
theorem pq.mono {ρ ρ' : aE} (h : ρ.le ρ') : ∀ {c : List vJ} {ch : List PanicEntry}, pq ρ c ch → pq ρ' c ch
 | [], [], _ => trivial
 | _ :: _, _ :: _, ⟨⟨a, b⟩, k⟩ => ⟨⟨bO h _ _ a, b⟩, pq.mono h k⟩
 | [], _ :: _, k => k.elim
 | _ :: _, [], k => k.elim
theorem pq.append {ρ : aE} : ∀ {c d : List vJ} {ch dh : List PanicEntry}, pq ρ c ch → pq ρ d dh → pq ρ (c ++ d) (ch ++ dh)
 | [], _, [], _, _, k => k
 | _ :: _, _, _ :: _, _, ⟨a, h⟩, k => ⟨a, pq.append h k⟩
 | [], _, _ :: _, _, h, _ => h.elim
 | _ :: _, _, [], _, h, _ => h.elim
def NN (ρ : aE) : Md → FrameMode → Prop
 | .run, .run => True
 | .returning, .returning => True
 | .panicking c, .panicking ch => pq ρ c ch
 | _, _ => False
theorem NN.mono {ρ ρ' : aE} (h : ρ.le ρ') {m : Md} {fm : FrameMode} (k : NN ρ m fm) : NN ρ' m fm := by
 cases m <;> cases fm <;> first | exact k | exact pq.mono h k
theorem NL.mono {ρ ρ' : aE} (h : ρ.le ρ') {d : ei} {r : Deferred} (k : NL ρ d r) : NL ρ' d r := by
 cases d with
 | call fn cap args =>
  obtain ⟨g, c, a, h1, h2, h3, h4⟩ := k
  exact ⟨g, c, a, xp h h1, gb h _ _ h2, gb h _ _ h3, h4⟩
 | collected r =>
  obtain ⟨l, h1, h2⟩ := k
  exact ⟨l, h _ _ _ h1, h2⟩
def yn (ρ : aE) : List ei → List Deferred → Prop
 | [], [] => True
 | d :: ds, r :: rs => NL ρ d r ∧ yn ρ ds rs
 | _, _ => False
theorem yn.mono {ρ ρ' : aE} (h : ρ.le ρ') : ∀ {c : List ei} {ch : List Deferred}, yn ρ c ch → yn ρ' c ch
 | [], [], _ => trivial
 | _ :: _, _ :: _, ⟨a, k⟩ => ⟨a.mono h, yn.mono h k⟩
 | [], _ :: _, k => k.elim
 | _ :: _, [], k => k.elim
def QM (ρ : aE) : XE → Ending → Prop
 | .returned v, .returned y => den ρ v = some y
 | .panicked c, .panicked ch => pq ρ c ch
 | _, _ => False
def cW (c : Frame) : Ending → Frame
 | .returned v => c.finish v
 | .panicked ch => c.raise ch
 | .outgrown => c
def XK (ρ : aE) (up : Option Md) (rd ro : Option Nat) : Prop := match rd with
 | none => ro = none
 | some l => up = none ∧ ∃ lb : yu, ρ l 0 = some lb ∧ ro = some lb.b
def XJ (ρ : aE) (up : Option Md) (kind : CallKind) (cs : List Frame) : Prop := match up with
 | none => kind = .normal
 | some u => kind = .deferred ∧ ∃ c cs', cs = c :: cs' ∧ NN ρ u c.mode
structure jw (P : Program) (ρ : aE) (f : FuncId) (fn : Func) (t : T V) (todo : List Item) (ds : List ei) (m : Md) (up : Option Md) (rd : Option Nat) (fr : Frame) (cs : List Frame) : Prop where
 name : fr.fn = f
 func : P.funcs[f]? = some fn
 tr : TR ρ t fr.tmps
 size : fn.ntmps ≤ fr.tmps.size
 todo : m = .run → fr.todo = todo
 ds : yn ρ ds fr.defers
 md : NN ρ m fr.mode
 rd : XK ρ up rd fr.roundOf
 up : XJ ρ up fr.kind cs
def pV (P : Program) (f : FuncId) (up rd : Bool) (cs : List Frame) (M : Machine) (ρ : aE) (w : World) (out : dz) : Prop :=
 ∃ ρ' w', HR ρ' out.s w' ∧ FR ρ w ρ' w' ∧
  match rd, up with
  | true, _ => ∀ c cs', cs = c :: cs' → ∃ e, QM ρ' out.e e ∧ Steps P M (lone (cW c e) cs' w')
  | false, false => ∃ fr' e, QM ρ' out.e e ∧ Steps P M (lone fr' cs w') ∧ fr'.fn = f ∧ fr'.leaving P w' e
  | false, true => ∀ c cs', cs = c :: cs' → ∃ fr' e u u', out.up = some u ∧ NN ρ' u u' ∧ QM ρ' out.e e ∧
   Steps P M (lone fr' ({ c with mode := u' } :: cs') w') ∧ fr'.kind = .deferred ∧ fr'.going P w' e
theorem pV.of_steps {P : Program} {f : FuncId} {up rd : Bool} {cs : List Frame} {M M0 : Machine} {ρ ρ1 : aE} {w w1 : World} {out : dz} (hs : Steps P M0 M) (hf : FR ρ w ρ1 w1) (h : pV P f up rd cs M ρ1 w1 out) :
 pV P f up rd cs M0 ρ w out := by
 obtain ⟨ρ', w', h1, h2, h3⟩ := h
 refine ⟨ρ', w', h1, hf.trans h2, ?_⟩
 cases rd with
 | true => intro c cs' hc; obtain ⟨e, k1, k2⟩ := h3 c cs' hc; exact ⟨e, k1, hs.trans k2⟩
 | false => cases up with
  | false => obtain ⟨fr', e, k1, k2, k3⟩ := h3; exact ⟨fr', e, k1, hs.trans k2, k3⟩
  | true => intro c cs' hc; obtain ⟨fr', e, u, u', k1, k2, k3, k4, k5⟩ := h3 c cs' hc; exact ⟨fr', e, u, u', k1, k2, k3, hs.trans k4, k5⟩
theorem pV.of_mode {P : Program} {f : FuncId} {c : Frame} {cs : List Frame} {M : Machine} {ρ : aE} {w : World} {out : dz} {u1 : FrameMode} (h : pV P f true false ({ c with mode := u1 } :: cs) M ρ w out) :
 pV P f true false (c :: cs) M ρ w out := by
 obtain ⟨ρ', w', h1, h2, h3⟩ := h
 refine ⟨ρ', w', h1, h2, fun c1 cs1 hc => ?_⟩
 cases hc
 exact h3 { c with mode := u1 } cs rfl
def DW (P : Program) (f : FuncId) (fn : Func) (t : T V) (todo : List Item) (ds : List ei) (m : Md) (up : Option Md) (rd : Option Nat) (s : S) (out : dz) : Prop :=
 ∀ ρ w fr cs, HR ρ s w → jw P ρ f fn t todo ds m up rd fr cs → pV P f up.isSome rd.isSome cs (lone fr cs w) ρ w out
def Ud : Option Md → CallKind
 | none => .normal
 | some _ => .deferred
def gk (P : Program) (f : FuncId) (args : List V) (up : Option Md) (s : S) (out : dz) : Prop :=
 ∀ ρ w ys, HR ρ s w → bj ρ args = some ys → (∀ w, (callFunc f ys.toArray).run P w = .ok (.enter f ys.toArray) w) ∧
  ∀ cs, (∀ u, up = some u → ∃ c cs', cs = c :: cs' ∧ NN ρ u c.mode) → pV P f up.isSome false cs (lone (Frame.enter P f ys.toArray (Ud up)) cs w) ρ w out
def QD (P : Program) (l : Nat) (args : List V) (s : S) (out : dz) : Prop :=
 ∀ ρ w lb ys, HR ρ s w → ρ l 0 = some lb → bj ρ args = some ys →
  ∃ f tmps assign body, (Instr.yield lb.b ys.toArray).run P w = .ok (.round lb.b f tmps assign body) w ∧
   ∀ cs, pV P f false true cs (lone (Frame.round lb.b f tmps assign body .normal) cs w) ρ w out
def WK (P : Program) : tA → S → dz → Prop
 | .frame f fn t todo ds m up rd, s, out => DW P f fn t todo ds m up rd s out
 | .call f args up, s, out => gk P f args up s out
 | .round l args, s, out => QD P l args s out
def Good (P : Program) (ih : tA → S → Option dz) : Prop := ∀ j s out, ih j s = some out → WK P j s out
section steps
variable {P : Program} {fr : Frame} {k : List Item} {cs : List Frame} {w : World}
theorem Rj (hm : fr.mode = .run) (ht : fr.todo = .code .skip :: k) : step P (lone fr cs w) = .next (lone { fr with todo := k } cs w) := step_lone_go (by simp [stepG, stepG.exec, hm, ht])
theorem Ow {l : Nat} (hm : fr.mode = .run) (ht : fr.todo = .code (.label l) :: k) : step P (lone fr cs w) = .next (lone { fr with todo := k } cs w) := step_lone_go (by simp [stepG, stepG.exec, hm, ht])
theorem HY {l : Nat} (hm : fr.mode = .run) (ht : fr.todo = .inBlock l :: k) : step P (lone fr cs w) = .next (lone { fr with todo := k } cs w) := step_lone_go (by simp [stepG, stepG.exec, hm, ht])
theorem HX {c : Code} (hm : fr.mode = .run) (ht : fr.todo = .inScope c :: k) : step P (lone fr cs w) = .next (lone { fr with todo := k } cs w) := step_lone_go (by simp [stepG, stepG.exec, hm, ht])
theorem Tz {a b : Code} (hm : fr.mode = .run) (ht : fr.todo = .code (.seq a b) :: k) : step P (lone fr cs w) = .next (lone { fr with todo := .code a :: .code b :: k } cs w) := step_lone_go (by simp [stepG, stepG.exec, hm, ht])
theorem Rn {c : Operand} {a b : Code} {q : Bool} (hm : fr.mode = .run) (ht : fr.todo = .code (.cond c a b) :: k) (hc : rv fr.tmps c = .bool q) : step P (lone fr cs w) = .next (lone { fr with todo := .code (if q then a else b) :: k } cs w) :=
 step_lone_go (by
  have he : fr.eval c = .bool q := by rw [qz]; exact hc
  simp [stepG, stepG.exec, hm, ht, he])
theorem Oy {id : Nat} {c : Code} (hm : fr.mode = .run) (ht : fr.todo = .code (.block id c) :: k) : step P (lone fr cs w) = .next (lone { fr with todo := .code c :: .inBlock id :: k } cs w) := step_lone_go (by simp [stepG, stepG.exec, hm, ht])
theorem Rk {c : Code} (hm : fr.mode = .run) (ht : fr.todo = .code (.loop c) :: k) : step P (lone fr cs w) = .next (lone { fr with todo := .code c :: .inLoop c :: k } cs w) := step_lone_go (by simp [stepG, stepG.exec, hm, ht])
theorem Mg {c : Code} (hm : fr.mode = .run) (ht : fr.todo = .inLoop c :: k) : step P (lone fr cs w) = .next (lone { fr with todo := .code c :: .inLoop c :: k } cs w) := step_lone_go (by simp [stepG, stepG.exec, hm, ht])
theorem Ou {c : Code} (hm : fr.mode = .run) (ht : fr.todo = .code (.scope c) :: k) : step P (lone fr cs w) = .next (lone { fr with todo := .code c :: .inScope c :: k } cs w) := step_lone_go (by simp [stepG, stepG.exec, hm, ht])
theorem Rm {id : Nat} {k' : List Item} (hm : fr.mode = .run) (ht : fr.todo = .code (.exit id) :: k) (h : exitTo id k = some k') : step P (lone fr cs w) = .next (lone { fr with todo := k' } cs w) := step_lone_go (by simp [stepG, stepG.exec, hm, ht, h])
theorem Rl {l : Nat} {k' : List Item} (hm : fr.mode = .run) (ht : fr.todo = .code (.goto l) :: k) (h : gotoIn l k = some k') : step P (lone fr cs w) = .next (lone { fr with todo := k' } cs w) := step_lone_go (by simp [stepG, stepG.exec, hm, ht, h])
theorem TA (hm : fr.mode = .run) (ht : fr.todo = .code .ret :: k) (hr : fr.roundOf = none) : step P (lone fr cs w) = .next (lone { fr with mode := .returning } cs w) := step_lone_go (by simp [stepG, stepG.exec, hm, ht, hr])
theorem TB (hm : fr.mode = .run) (ht : fr.todo = []) (hr : fr.roundOf = none) : step P (lone fr cs w) = .next (lone { fr with mode := .returning } cs w) := step_lone_go (by simp [stepG, stepG.exec, hm, ht, hr])
theorem Mf {id : Nat} {ops : Array Oper} (hm : fr.mode = .run) (ht : fr.todo = .code (.region id ops false) :: k) : step P (lone fr cs w) = .next (lone { fr with todo := .inRegion ops (List.range ops.size) :: k } cs w) := step_lone_go (by simp [stepG, stepG.exec, hm, ht])
theorem qY {ops : Array Oper} (hm : fr.mode = .run) (ht : fr.todo = .inRegion ops [] :: k) : step P (lone fr cs w) = .next (lone { fr with todo := k } cs w) := step_lone_go (by simp [stepG, stepG.exec, hm, ht])
theorem jc {ops : Array Oper} {i : Nat} {rest : List Nat} (hm : fr.mode = .run) (ht : fr.todo = .inRegion ops (i :: rest) :: k) (h : ((ops[i]?).map (Region.wanted · (yielded ops fr.tmps))).getD false = false) :
 step P (lone fr cs w) = .next (lone (fr.finish undef) cs w) := step_lone_go (by simp [stepG, stepG.exec, hm, ht, h])
theorem iJ {ops : Array Oper} {i : Nat} {rest : List Nat} {o : Oper} (hm : fr.mode = .run) (ht : fr.todo = .inRegion ops (i :: rest) :: k) (ho : ops[i]? = some o) (hw : Region.wanted o (yielded ops fr.tmps) = true)
 (hd : fr.roundOf = none ∨ ∀ c, o.op ≠ .defer c) :
 stepG P true { frame := fr, callers := cs, status := .running, dying := none } w = stepG.apply P true fr cs none (execOp (rv fr.tmps) o) w := by
 have he : fr.eval = rv fr.tmps := qz fr
 rcases hd with hd | hd
 ·simp [stepG, stepG.exec, stepG.oper, Frame.oper?, hm, ht, ho, hw, he, hd]
 ·cases hr : fr.roundOf with
  | none => simp [stepG, stepG.exec, stepG.oper, Frame.oper?, hm, ht, ho, hw, he, hr]
  | some l =>
   simp only [stepG, stepG.exec, stepG.oper, Frame.oper?, hm, ht, ho, hw, he, hr, Option.map_some, Option.getD_some, if_true]
   split
   ·rename_i hc; exact absurd hc (hd _)
   ·rfl
end steps
theorem uL {P : Program} {ρ : aE} {f : FuncId} {fn : Func} {t : T V} {todo : List Item} {ds : List ei} {up : Option Md} {rd : Option Nat} {fr : Frame} {cs : List Frame}
 (h : jw P ρ f fn t todo ds .run up rd fr cs) : fr.mode = .run := by
 have := h.md
 cases hm : fr.mode <;> rw [hm] at this <;> first | rfl | exact this.elim
theorem jw.to {P : Program} {ρ : aE} {f : FuncId} {fn : Func} {t : T V} {todo : List Item} {ds : List ei} {up : Option Md} {rd : Option Nat} {fr : Frame} {cs : List Frame}
 (h : jw P ρ f fn t todo ds .run up rd fr cs) (todo' : List Item) : jw P ρ f fn t todo' ds .run up rd { fr with todo := todo' } cs :=
 ⟨h.name, h.func, h.tr, h.size, fun _ => rfl, h.ds, h.md, h.rd, h.up⟩
theorem jw.mono {P : Program} {ρ ρ' : aE} (hl : ρ.le ρ') {f : FuncId} {fn : Func} {t : T V} {todo : List Item} {ds : List ei} {m : Md} {up : Option Md} {rd : Option Nat} {fr : Frame} {cs : List Frame}
 (h : jw P ρ f fn t todo ds m up rd fr cs) : jw P ρ' f fn t todo ds m up rd fr cs := by
 refine ⟨h.name, h.func, h.tr.mono hl, h.size, h.todo, h.ds.mono hl, h.md.mono hl, ?_, ?_⟩
 ·have := h.rd
  cases rd with
  | none => exact this
  | some l => obtain ⟨h1, lb, h2, h3⟩ := this; exact ⟨h1, lb, hl _ _ _ h2, h3⟩
 ·have := h.up
  cases up with
  | none => exact this
  | some u => obtain ⟨h1, c, cs', h2, h3⟩ := this; exact ⟨h1, c, cs', h2, h3.mono hl⟩
theorem ez {P : Program} {ρ : aE} {w : World} {f : FuncId} {fn : Func} {t' : T V} {todo' : List Item} {ds' : List ei} {m' : Md} {up : Option Md} {rd : Option Nat} {fr fr' : Frame} {cs : List Frame} {s : S} {out : dz}
 (h : HR ρ s w) (hs : step P (lone fr cs w) = .next (lone fr' cs w)) (hF : jw P ρ f fn t' todo' ds' m' up rd fr' cs) (hgo : DW P f fn t' todo' ds' m' up rd s out) : pV P f up.isSome rd.isSome cs (lone fr cs w) ρ w out :=
 pV.of_steps (.one hs) (FR.refl ρ w) (hgo _ _ _ _ h hF)
def sm (up : Option Md) (cs cs' : List Frame) : Prop := match up with
 | none => cs' = cs
 | some _ => ∃ c tl u, cs = c :: tl ∧ cs' = { c with mode := u } :: tl
theorem sm.refl {P : Program} {ρ : aE} {f : FuncId} {fn : Func} {t : T V} {todo : List Item} {ds : List ei} {m : Md} {up : Option Md} {rd : Option Nat} {fr : Frame} {cs : List Frame}
 (h : jw P ρ f fn t todo ds m up rd fr cs) : sm up cs cs := by
 have := h.up
 cases up with
 | none => rfl
 | some u => obtain ⟨_, c, cs', h2, _⟩ := this; exact ⟨c, cs', c.mode, h2, h2⟩
theorem sm.trans {up up' : Option Md} (hu : up'.isSome = up.isSome) {a b c : List Frame} (h : sm up a b) (k : sm up' b c) : sm up a c := by
 cases up with
 | none => cases up' with
  | none => exact Eq.trans k h
  | some _ => cases hu
 | some _ => cases up' with
  | none => cases hu
  | some _ =>
   obtain ⟨c1, t1, u1, rfl, rfl⟩ := h
   obtain ⟨c2, t2, u2, h1, rfl⟩ := k
   cases h1
   exact ⟨c1, t1, u2, rfl, rfl⟩
theorem pV.of_tops {P : Program} {f : FuncId} {up : Option Md} {rd : Option Nat} {cs cs' : List Frame} {M : Machine} {ρ : aE} {w : World} {out : dz} (hr : up.isSome = true → rd = none)
 (ht : sm up cs cs') (h : pV P f up.isSome rd.isSome cs' M ρ w out) : pV P f up.isSome rd.isSome cs M ρ w out := by
 cases up with
 | none => cases ht; exact h
 | some u =>
  cases hr rfl
  obtain ⟨c, tl, u1, rfl, rfl⟩ := ht
  exact pV.of_mode h
theorem jw.lone_up {P : Program} {ρ : aE} {f : FuncId} {fn : Func} {t : T V} {todo : List Item} {ds : List ei} {m : Md} {up : Option Md} {rd : Option Nat} {fr : Frame} {cs : List Frame}
 (h : jw P ρ f fn t todo ds m up rd fr cs) : up.isSome = true → rd = none := by
 intro hu
 have := h.rd
 cases rd with
 | none => rfl
 | some l => rw [this.1] at hu; cases hu
def putD (t : T V) (d : Option Tmp) (v : V) : T V := nz t d (some v) id
theorem dA {β : Type} (t : T V) (d : Option Tmp) (v : V) (k : T V → β) : nz t d (some v) k = k (putD t d v) := Rw t d (some v) k
def nZ (tm : Array Value) (d : Option Tmp) (y : Value) : Array Value := match d with
 | some i => tm.setIfInBounds i y
 | none => tm
theorem TR.putD {ρ : aE} {t : T V} {tm : Array Value} (h : TR ρ t tm) {d : Option Tmp} {v : V} {y : Value} (hv : den ρ v = some y) (hd : ∀ i, d = some i → i < tm.size) : TR ρ (AI.putD t d v) (nZ tm d y) := by
 cases d with
 | none => exact h
 | some i =>
  have := TR.put h hv (hd i rfl)
  exact this
theorem Aj {fr : Frame} {ops : Array Oper} {i : Nat} {rest : List Nat} {k : List Item} {o : Oper} (ht : fr.todo = .inRegion ops (i :: rest) :: k) (ho : ops[i]? = some o) (y : Value) :
 fr.finish y = { fr with tmps := nZ fr.tmps o.dst y, todo := .inRegion ops rest :: k } := by
 simp only [Frame.finish, ht, ho, Option.bind_some, nZ]
 cases o.dst <;> rfl
section
variable {P : Program} {ρ : aE} {f : FuncId} {fn : Func} {t : T V} {ds : List ei} {up : Option Md} {rd : Option Nat} {fr : Frame} {cs : List Frame} {ops : Array Oper} {i : Nat} {rest : List Nat} {k : List Item} {o : Oper}
theorem jw.finish (h : jw P ρ f fn t (.inRegion ops (i :: rest) :: k) ds .run up rd fr cs) (ho : ops[i]? = some o) (hd : ∀ d, o.dst = some d → d < fn.ntmps) {v : V} {y : Value} (hv : den ρ v = some y) :
 jw P ρ f fn (putD t o.dst v) (.inRegion ops rest :: k) ds .run up rd (fr.finish y) cs := by
 rw [Aj (h.todo rfl) ho]
 refine ⟨h.name, h.func, h.tr.putD hv fun i hi => Nat.lt_of_lt_of_le (hd i hi) h.size, ?_, fun _ => rfl, h.ds, h.md, h.rd, h.up⟩
 show fn.ntmps ≤ (nZ fr.tmps o.dst y).size
 have := h.size
 unfold nZ
 split <;> simpa using this
theorem fh (h : TR ρ t fr.tmps) {b : Bool} (e : ba ops t o = some b) : Region.wanted o (yielded ops fr.tmps) = b := by
 unfold ba at e
 unfold Region.wanted
 split at e
 ·rename_i hg; rw [hg]; cases e; rfl
 ·rename_i j want hg
  rw [hg]
  split at e
  ·rename_i d hd
   split at e
   ·rename_i q hq
    obtain ⟨y, h1, h2⟩ := h d _ hq
    cases h1; cases e
    simp [yielded, hd, h2]
   ·rename_i q hq
    obtain ⟨y, h1, h2⟩ := h d _ hq
    cases e
    simp only [den] at h1
    split at h1
    ·cases h1; simp [yielded, hd, h2]
    ·cases h1
   ·cases e
  ·cases e
end
def Vo (P : Program) (ρ : aE) (w : World) (f : FuncId) (fn : Func) (k : List Item) (up : Option Md) (rd : Option Nat) (cs : List Frame) (M : Machine) (r : fQ) : Prop :=
 ∃ ρ' w' fr' cs', Steps P M (lone fr' cs' w') ∧ FR ρ w ρ' w' ∧ sm up cs cs' ∧ match r with
  | .on t' ds' up' s' => HR ρ' s' w' ∧ jw P ρ' f fn t' k ds' .run up' rd fr' cs' ∧ up'.isSome = up.isSome
  | .panicked c t' ds' up' s' => HR ρ' s' w' ∧ jw P ρ' f fn t' k ds' (.panicking c) up' rd fr' cs' ∧ up'.isSome = up.isSome
theorem Vo.of_steps {P : Program} {ρ ρ1 : aE} {w w1 : World} {f : FuncId} {fn : Func} {k : List Item} {up up1 : Option Md} {rd : Option Nat} {cs cs1 : List Frame} {M M0 : Machine} {r : fQ}
 (hs : Steps P M0 M) (hf : FR ρ w ρ1 w1) (ht : sm up cs cs1) (hu : up1.isSome = up.isSome) (h : Vo P ρ1 w1 f fn k up1 rd cs1 M r) : Vo P ρ w f fn k up rd cs M0 r := by
 obtain ⟨ρ', w', fr', cs', h1, h2, h3, h4⟩ := h
 refine ⟨ρ', w', fr', cs', hs.trans h1, hf.trans h2, ht.trans hu h3, ?_⟩
 cases r <;> (simp only at h4 ⊢; exact ⟨h4.1, h4.2.1, h4.2.2.trans hu⟩)
theorem qD {ops : Array Oper} {n : Nat} (h : gY ops n = true) {i : Nat} {o : Oper} (ho : ops[i]? = some o) : ∀ d, o.dst = some d → d < n := by
 intro d hd
 have := List.all_eq_true.1 h o (by
  have := Array.mem_of_getElem? ho
  simpa using this)
 rw [hd] at this
 exact lD this
theorem bG {fr : Frame} (hm : fr.mode = .run) (ch : List PanicEntry) : fr.raise ch = { fr with mode := .panicking ch } := by
 simp [Frame.raise, hm]
theorem lK {E : cx} {ih : tA → S → Option dz} (hg : Good E.P ih) {ρ : aE} {w : World} {s : S} (h : HR ρ s w) {f : FuncId} {args : List V} {ys : List Value} (hd : bj ρ args = some ys) {out : dz}
 (e : bI ih f args none s = some out) : (∀ w, (callFunc f ys.toArray).run E.P w = .ok (.enter f ys.toArray) w) ∧ ∀ c cs, ∃ ρ' w' e, HR ρ' out.s w' ∧ FR ρ w ρ' w' ∧ QM ρ' out.e e ∧
  Steps E.P (lone (Frame.enter E.P f ys.toArray .normal) (c :: cs) w) (lone (cW c e) cs w') := by
 have hs := hg (.call f args none) s out e
 obtain ⟨h1, h2⟩ := hs ρ w ys h hd
 refine ⟨h1, fun c cs => ?_⟩
 obtain ⟨ρ', w', k1, k2, fr', e', k3, k4, k5, k6⟩ := h2 (c :: cs) (fun u hu => by cases hu)
 refine ⟨ρ', w', e', k1, k2, k3, k4.trans (.one ?_)⟩
 cases e' with
 | returned v => exact step_leave_returned k6
 | panicked ch => exact step_leave_panicked k6
 | outgrown => cases hout : out.e <;> rw [hout] at k3 <;> exact k3.elim
section ap
variable {P : Program} {fr : Frame} {cs : List Frame} {w w' : World} {sem : Sem Next}
theorem oK {v : Value} (hst : stepG P true { frame := fr, callers := cs, status := .running, dying := none } w = stepG.apply P true fr cs none sem w) (hr : sem.run P w = .ok (.value v) w') :
 step P (lone fr cs w) = .next (lone (fr.finish v) cs w') := step_lone_go (by rw [hst]; simp [stepG.apply, hr])
theorem DG (hst : stepG P true { frame := fr, callers := cs, status := .running, dying := none } w = stepG.apply P true fr cs none sem w) (hr : sem.run P w = .ok .skip w') :
 step P (lone fr cs w) = .next (lone (fr.finish undef) cs w') := step_lone_go (by rw [hst]; simp [stepG.apply, hr])
theorem sj {ops : Array Oper} {l : List Nat} {k : List Item} {f : FuncId} {args : Array Value} (ht : fr.todo = .inRegion ops l :: k) (hst : stepG P true { frame := fr, callers := cs, status := .running, dying := none } w = stepG.apply P true fr cs none sem w) (hr : sem.run P w = .ok (.enter f args) w') :
 step P (lone fr cs w) = .next (lone (Frame.enter P f args .normal) (fr :: cs) w') := step_lone_go (by rw [hst]; simp [stepG.apply, hr, ht])
theorem Qv {l : Nat} {f : FuncId} {tmps : Array Value} {a b : Code} (hst : stepG P true { frame := fr, callers := cs, status := .running, dying := none } w = stepG.apply P true fr cs none sem w) (hr : sem.run P w = .ok (.round l f tmps a b) w') :
 step P (lone fr cs w) = .next (lone (Frame.round l f tmps a b .normal) (fr :: cs) w') := step_lone_go (by rw [hst]; simp [stepG.apply, hr])
theorem Qw {d : Deferred} (hst : stepG P true { frame := fr, callers := cs, status := .running, dying := none } w = stepG.apply P true fr cs none sem w) (hr : sem.run P w = .ok (.defer d) w') :
 step P (lone fr cs w) = .next (lone ({ fr with defers := d :: fr.defers }.finish undef) cs w') := step_lone_go (by rw [hst]; simp [stepG.apply, hr])
theorem GQ {v : Value} (hst : stepG P true { frame := fr, callers := cs, status := .running, dying := none } w = stepG.apply P true fr cs none sem w) (hr : sem.run P w = .halt (.panic v) w') :
 step P (lone fr cs w) = .next (lone (fr.raise [{ v, recovered := false }]) cs w') := step_lone_go (by rw [hst]; simp [stepG.apply, hr])
theorem uW {v : Value} {cs' : List Frame} (hro : fr.roundOf = none) (ht : tryRecover fr cs = some (v, cs')) (hst : stepG P true { frame := fr, callers := cs, status := .running, dying := none } w = stepG.apply P true fr cs none sem w) (hr : sem.run P w = .ok .recover w') :
 step P (lone fr cs w) = .next (lone (fr.finish v) cs' w') := step_lone_go (by rw [hst]; simp [stepG.apply, hr, hro, ht])
theorem uX (hro : fr.roundOf = none) (ht : tryRecover fr cs = none) (hst : stepG P true { frame := fr, callers := cs, status := .running, dying := none } w = stepG.apply P true fr cs none sem w) (hr : sem.run P w = .ok .recover w') :
 step P (lone fr cs w) = .next (lone (fr.finish .nilIface) cs w') := step_lone_go (by rw [hst]; simp [stepG.apply, hr, hro, ht])
end ap
section
variable {E : cx} {ih : tA → S → Option dz} {f : FuncId} {fn : Func} {ops : Array Oper} {k : List Item} {rd : Option Nat}
def Tm (P : Program) (f : FuncId) (fn : Func) (ops : Array Oper) (rest : List Nat) (k : List Item) (rd : Option Nat) (kk : RK) : Prop :=
 ∀ t ds up s r, kk t ds up s = some r → ∀ ρ w fr cs, HR ρ s w → jw P ρ f fn t (.inRegion ops rest :: k) ds .run up rd fr cs → Vo P ρ w f fn k up rd cs (lone fr cs w) r
theorem dM {o : Oper} {t : T V} {s : S} {nx : Nx} (h : em E t s o = some nx) (hn : ∀ d s', nx ≠ .defer d s') : ∀ c, o.op ≠ .defer c := by
 intro c hc
 unfold em at h
 rw [hc] at h
 simp only [aG, rR] at h
 split at h
 ·split at h
  ·unfold Jd at h
   split at h
   ·cases h; exact hn _ _ rfl
   ·cases h
  ·cases h
 ·cases h
theorem Cy (hE : jp E) (hg : Good E.P ih) (hdst : gY ops fn.ntmps = true) {i : Nat} {rest : List Nat} {o : Oper} (ho : ops[i]? = some o) {kk : RK} (hk : Tm E.P f fn ops rest k rd kk)
 {t : T V} {ds : List ei} {up : Option Md} {s : S} {r : fQ} (e : mQ E (bI ih) (er ih) rd o t ds up s kk (ba ops t o) = some r)
 {ρ : aE} {w : World} {fr : Frame} {cs : List Frame} (h : HR ρ s w) (hF : jw E.P ρ f fn t (.inRegion ops (i :: rest) :: k) ds .run up rd fr cs) : Vo E.P ρ w f fn k up rd cs (lone fr cs w) r := by
 have hm := uL hF
 have ht := hF.todo rfl
 have hd := qD hdst ho
 have hT := sm.refl hF
 unfold mQ at e
 split at e
 ·rename_i hw
  have hwant := fh hF.tr hw
  cases hdo : em E t s o with
  | none => rw [hdo] at e; cases e
  | some nx =>
   rw [hdo] at e
   have hop := mR hE h hF.tr o hdo
   have hst : fr.roundOf = none ∨ (∀ c, o.op ≠ .defer c) → stepG E.P true { frame := fr, callers := cs, status := .running, dying := none } w = stepG.apply E.P true fr cs none (execOp (rv fr.tmps) o) w := fun q => iJ hm ht ho hwant q
   cases nx with
   | val v s1 =>
    obtain ⟨ρ1, y, w1, h1, h2, h3, h4⟩ := hop
    have hst := hst (.inr (dM hdo (fun d s' => by intro h; cases h)))
    simp only [et, dA] at e
    exact (hk _ _ _ _ _ e ρ1 w1 (fr.finish y) cs h3 ((hF.mono h4.ext).finish ho hd h2)).of_steps (.one (oK hst h1)) h4 hT rfl
   | skip s1 =>
    obtain ⟨ρ1, w1, h1, h3, h4⟩ := hop
    have hst := hst (.inr (dM hdo (fun d s' => by intro h; cases h)))
    simp only [et, dA] at e
    exact (hk _ _ _ _ _ e ρ1 w1 (fr.finish undef) cs h3 ((hF.mono h4.ext).finish ho hd rfl)).of_steps (.one (DG hst h1)) h4 hT rfl
   | enter g args s1 =>
    obtain ⟨ys, h1, h2, h3⟩ := hop
    have hst := hst (.inr (dM hdo (fun d s' => by intro h; cases h)))
    simp only [et] at e
    cases hr : bI ih g args none s1 with
    | none => rw [hr] at e; cases e
    | some out =>
     rw [hr] at e
     obtain ⟨hcall, hfin⟩ := lK hg h3 h1 hr
     rw [hcall] at h2
     obtain ⟨ρ1, w1, en, j1, j2, j3, j4⟩ := hfin fr cs
     have hsteps : Steps E.P (lone fr cs w) (lone (cW fr en) cs w1) := .head (sj ht hst h2) j4
     obtain ⟨oe, oup, os⟩ := out
     cases oe with
     | returned v =>
      cases en with
      | returned y =>
       simp only [eZ, dA] at e
       exact (hk _ _ _ _ _ e ρ1 w1 (fr.finish y) cs j1 ((hF.mono j2.ext).finish ho hd j3)).of_steps hsteps j2 hT rfl
      | panicked _ => exact j3.elim
      | outgrown => exact j3.elim
     | panicked c =>
      cases en with
      | returned _ => exact j3.elim
      | outgrown => exact j3.elim
      | panicked ch =>
       simp only [eZ, Option.some.injEq] at e
       subst e
       have hF1 := hF.mono j2.ext
       exact ⟨ρ1, w1, _, cs, hsteps, j2, hT, j1, ⟨hF1.name.symm ▸ (by rw [cW, bG hm]), hF1.func, by rw [cW, bG hm]; exact hF1.tr, by rw [cW, bG hm]; exact hF1.size, (fun q => by cases q), by rw [cW, bG hm]; exact hF1.ds, by rw [cW, bG hm]; exact j3, by rw [cW, bG hm]; exact hF1.rd, by rw [cW, bG hm]; exact hF1.up⟩, rfl⟩
   | round l args s1 =>
    obtain ⟨lb, ys, h0, h1, h2, h3⟩ := hop
    have hst := hst (.inr (dM hdo (fun d s' => by intro h; cases h)))
    simp only [et] at e
    cases hr : er ih l args s1 with
    | none => rw [hr] at e; cases e
    | some out =>
     rw [hr] at e
     obtain ⟨f', tmps, a, b, hy, hfin⟩ := hg (.round l args) s1 out hr ρ w lb ys h3 h0 h1
     rw [hy] at h2
     obtain ⟨ρ1, w1, j1, j2, j5⟩ := hfin (fr :: cs)
     obtain ⟨en, j3, j4⟩ := j5 fr cs rfl
     have hsteps : Steps E.P (lone fr cs w) (lone (cW fr en) cs w1) := .head (Qv hst h2) j4
     obtain ⟨oe, oup, os⟩ := out
     cases oe with
     | returned v =>
      cases en with
      | returned y =>
       simp only [eZ, dA] at e
       exact (hk _ _ _ _ _ e ρ1 w1 (fr.finish y) cs j1 ((hF.mono j2.ext).finish ho hd j3)).of_steps hsteps j2 hT rfl
      | panicked _ => exact j3.elim
      | outgrown => exact j3.elim
     | panicked c =>
      cases en with
      | returned _ => exact j3.elim
      | outgrown => exact j3.elim
      | panicked ch =>
       simp only [eZ, Option.some.injEq] at e
       subst e
       have hF1 := hF.mono j2.ext
       exact ⟨ρ1, w1, _, cs, hsteps, j2, hT, j1, ⟨hF1.name.symm ▸ (by rw [cW, bG hm]), hF1.func, by rw [cW, bG hm]; exact hF1.tr, by rw [cW, bG hm]; exact hF1.size, (fun q => by cases q), by rw [cW, bG hm]; exact hF1.ds, by rw [cW, bG hm]; exact j3, by rw [cW, bG hm]; exact hF1.rd, by rw [cW, bG hm]; exact hF1.up⟩, rfl⟩
   | defer df s1 =>
    obtain ⟨rdf, h1, h2, h3⟩ := hop
    simp only [et] at e
    cases hrd : rd with
    | some l => rw [hrd] at e; cases e
    | none =>
     rw [hrd] at e
     simp only [Option.isSome_none, cond_false, dA] at e
     subst hrd
     have hro : fr.roundOf = none := hF.rd
     have hst := hst (.inl hro)
     have hF' : jw E.P ρ f fn t (.inRegion ops (i :: rest) :: k) (df :: ds) .run up none { fr with defers := rdf :: fr.defers } cs :=
      ⟨hF.name, hF.func, hF.tr, hF.size, hF.todo, ⟨h1, hF.ds⟩, hF.md, hF.rd, hF.up⟩
     exact (hk _ _ _ _ _ e ρ w _ cs h3 (hF'.finish ho hd rfl)).of_steps (.one (Qw hst h2)) (FR.refl ρ w) hT rfl
   | recover s1 =>
    obtain ⟨h1, h2⟩ := hop
    have hst := hst (.inr (dM hdo (fun d s' => by intro h; cases h)))
    simp only [et] at e
    cases up with
    | none => cases e
    | some u =>
     have hro : fr.roundOf = none := by cases hF.lone_up rfl; exact hF.rd
     obtain ⟨hkd, c, tl, rfl, hmd⟩ := hF.up
     have hrec : ∀ m', u = m' → (∀ v older, m' ≠ .panicking (⟨v, false⟩ :: older)) → tryRecover fr (c :: tl) = none := by
      intro m' hu hne
      subst hu
      cases hcm : c.mode with
      | run => simp [tryRecover, hkd, hcm]
      | returning => simp [tryRecover, hkd, hcm]
      | panicking ch =>
       cases u with
       | run => rw [hcm] at hmd; exact hmd.elim
       | returning => rw [hcm] at hmd; exact hmd.elim
       | panicking pl =>
        rw [hcm] at hmd
        cases pl with
        | nil => cases ch with
         | nil => simp [tryRecover, hkd, hcm]
         | cons _ _ => exact hmd.elim
        | cons p ps => cases ch with
         | nil => exact hmd.elim
         | cons q qs =>
          obtain ⟨⟨q1, q2, q3⟩, _⟩ := hmd
          obtain ⟨pv, pr⟩ := p
          cases pr with
          | false => exact absurd rfl (hne pv ps)
          | true =>
           obtain ⟨qv, qr, qg⟩ := q
           simp only at q2 q3
           subst q2
           simp [tryRecover, hkd, hcm]
     unfold recovered at e
     split at e
     ·rename_i v older hu
      cases hu
      cases hcm : c.mode with
      | run => rw [hcm] at hmd; exact hmd.elim
      | returning => rw [hcm] at hmd; exact hmd.elim
      | panicking ch =>
       rw [hcm] at hmd
       cases ch with
       | nil => exact hmd.elim
       | cons q qs =>
        obtain ⟨⟨q1, q2, q3⟩, q4⟩ := hmd
        obtain ⟨qv, qr, qg⟩ := q
        simp only at q1 q2 q3
        subst q2; subst q3
        have htr : tryRecover fr (c :: tl) = some (qv, { c with mode := .panicking ({ v := qv, recovered := true } :: qs) } :: tl) := by
         simp [tryRecover, hkd, hcm]
        rw [dA] at e
        have hF' := hF.finish ho hd q1
        have hF'' : jw E.P ρ f fn (putD t o.dst v) (.inRegion ops rest :: k) ds .run (some (.panicking (⟨v, true⟩ :: older))) rd (fr.finish qv) ({ c with mode := .panicking ({ v := qv, recovered := true } :: qs) } :: tl) := by
         refine ⟨hF'.name, hF'.func, hF'.tr, hF'.size, hF'.todo, hF'.ds, hF'.md, ?_, ?_⟩
         ·cases hF.lone_up rfl; exact hF'.rd
         ·exact ⟨hF'.up.1, _, _, rfl, ⟨⟨q1, rfl, rfl⟩, q4⟩⟩
        exact (hk _ _ _ _ _ e ρ w _ _ h2 hF'').of_steps (.one (uW hro htr hst h1)) (FR.refl ρ w) ⟨c, tl, _, rfl, rfl⟩ rfl
     ·rename_i hne hu
      cases hu
      rw [dA] at e
      have htr := hrec _ rfl (fun v older hq => hne v older hq)
      exact (hk _ _ _ _ _ e ρ w _ _ h2 (hF.finish ho hd rfl)).of_steps (.one (uX hro htr hst h1)) (FR.refl ρ w) hT rfl
     ·cases e
   | panic v s1 =>
    obtain ⟨y, h1, h2, h3⟩ := hop
    have hst := hst (.inr (dM hdo (fun d s' => by intro h; cases h)))
    simp only [et, Option.some.injEq] at e
    subst e
    refine ⟨ρ, w, _, cs, .one (GQ hst h2), FR.refl ρ w, hT, h3, ?_, rfl⟩
    rw [bG hm]
    exact ⟨hF.name, hF.func, hF.tr, hF.size, (fun q => by cases q), hF.ds, ⟨⟨h1, rfl, rfl⟩, trivial⟩, hF.rd, hF.up⟩
 ·rename_i hw
  have hwant := fh hF.tr hw
  rw [dA] at e
  exact (hk _ _ _ _ _ e ρ w _ _ h (hF.finish ho hd (y := undef) rfl)).of_steps (.one (jc hm ht (by simp [ho, hwant]))) (FR.refl ρ w) hT rfl
 ·cases e
theorem re (hE : jp E) (hg : Good E.P ih) (hdst : gY ops fn.ntmps = true) : ∀ (l : List Oper) (idx : List Nat), idx.map (ops[·]?) = l.map some → Tm E.P f fn ops idx k rd (ij E ops (bI ih) (er ih) rd l)
 | [], [], _ => fun t ds up s r e ρ w fr cs h hF => by
  simp only [ij, Option.some.injEq] at e
  subst e
  exact ⟨ρ, w, _, cs, .one (qY (uL hF) (hF.todo rfl)), FR.refl ρ w, sm.refl hF, h, hF.to k, rfl⟩
 | o :: l, i :: idx, hl => fun t ds up s r e ρ w fr cs h hF => by
  simp only [List.map_cons, List.cons.injEq] at hl
  exact Cy hE hg hdst hl.1 (re hE hg hdst l idx hl.2) e h hF
 | [], _ :: _, hl => by cases hl
 | _ :: _, [], hl => by cases hl
theorem RH (ops : Array Oper) : (List.range ops.size).map (ops[·]?) = ops.toList.map some := by
 apply List.ext_getElem?
 intro j
 rw [List.getElem?_map, List.getElem?_map, Array.getElem?_toList]
 by_cases hj : j < ops.size
 ·simp [hj]
 ·simp [hj]
end
section st
variable {P : Program} {fr : Frame} {c : Frame} {cs : List Frame} {w w' : World} {k : List Item} {l : Nat} {v : Value}
theorem TY (hm : fr.mode = .run) (hk : fr.kind = .normal) (hro : fr.roundOf = some l) (ht : fr.todo = []) (hr : (Instr.endRound l none).run P w = .ok v w') :
 step P (lone fr (c :: cs) w) = .next (lone (c.finish v) cs w') := step_lone_go (by simp [stepG, stepG.exec, hm, ht, hro, hr, doReturn, hk])
theorem TX (hm : fr.mode = .run) (hk : fr.kind = .normal) (hro : fr.roundOf = some l) (ht : fr.todo = .code .ret :: k) (hr : (Instr.endRound l (some .ret)).run P w = .ok v w') :
 step P (lone fr (c :: cs) w) = .next (lone (c.finish v) cs w') := step_lone_go (by simp [stepG, stepG.exec, hm, ht, hro, hr, doReturn, hk])
theorem RB {id : Nat} (hm : fr.mode = .run) (hk : fr.kind = .normal) (hro : fr.roundOf = some l) (ht : fr.todo = .code (.exit id) :: k) (hx : exitTo id k = none) (hr : (Instr.endRound l (some (.exit id))).run P w = .ok v w') :
 step P (lone fr (c :: cs) w) = .next (lone (c.finish v) cs w') := step_lone_go (by simp [stepG, stepG.exec, hm, ht, hro, hr, doReturn, hk, hx])
theorem RA {id : Nat} (hm : fr.mode = .run) (hk : fr.kind = .normal) (hro : fr.roundOf = some l) (ht : fr.todo = .code (.goto id) :: k) (hx : gotoIn id k = none) (hr : (Instr.endRound l (some (.goto id))).run P w = .ok v w') :
 step P (lone fr (c :: cs) w) = .next (lone (c.finish v) cs w') := step_lone_go (by simp [stepG, stepG.exec, hm, ht, hro, hr, doReturn, hk, hx])
theorem yD (hm : fr.mode = .run) (hro : fr.roundOf = some l) (ht : fr.todo = .beginRound :: k) (hr : (Instr.beginRound l).run P w = .ok () w') :
 step P (lone fr cs w) = .next (lone { fr with todo := k } cs w') := step_lone_go (by simp [stepG, stepG.exec, stepG.apply, hm, ht, hro, hr, Frame.finish])
theorem EK {j : Option Code} (hm : fr.mode = .run) (ht : fr.todo = .endRangeFunc l :: k) (hr : (Instr.endLoop l).run P w = .ok j w') :
 step P (lone fr cs w) = .next (lone { fr with todo := (j.map Item.code).toList ++ k } cs w') := step_lone_go (by simp [stepG, stepG.exec, hm, ht, hr])
theorem Ov {g : Operand} {ps : Array Tmp} {a b : Code} {fid : FuncId} {first cap : Array Value} {f2 : FuncId} {args : Array Value} (hm : fr.mode = .run) (ht : fr.todo = .code (.rangeFunc g ps a b) :: k) (hro : fr.roundOf = none)
 (hg : rv fr.tmps g = .func (.func fid) first cap)
 (hc : ∀ w, (callFunc fid (first ++ #[.func (.yield (w'.heap.size - 1)) #[] #[]] ++ cap)).run P w = .ok (.enter f2 args) w)
 (hw : w' = (w.alloc (.deferred (some []))).alloc (.loop { state := .ready, pending := none, fn := fr.fn, tmps := fr.tmps, params := ps, assign := a, body := b, defers := w.heap.size })) :
 step P (lone fr cs w) = .next (lone (Frame.enter P f2 args .normal) ({ fr with todo := .inRangeFunc (w'.heap.size - 1) :: k, defers := { target := .collected w.heap.size, args := #[] } :: fr.defers } :: cs) w') := by
 refine step_lone_go ?_
 have hl : w'.heap.size - 1 = w.heap.size + 1 := by rw [hw]; simp
 rw [hl] at hc ⊢
 have hen := run_enterLoop_outer (P := P) (w := w) fr.fn fr.tmps ps a b
 rw [← hw] at hen
 simp only [stepG, stepG.exec, hm, ht, hro, Sem.runT_eq, hen, GStep.bare_after]
 have hcst : ∀ v : Value, rv fr.tmps (.const v) = v := fun _ => rfl
 have hc' : (callFunc fid (first.push (.func (.yield (w.heap.size + 1)) #[] #[]) ++ cap)).run P w' = .ok (.enter f2 args) w' := by simpa using hc w'
 simp [stepG.apply, qz, resolve, hg, Deferred.ofValue, invoke, hcst, hc']
theorem BQ {b : Nat} {ds : List Deferred} {m : FrameMode} (hm : fr.mode = m) (hne : m ≠ .run) (hd : fr.defers = { target := .collected b, args := #[] } :: ds) {calls : List Deferred} (hr : (Instr.takeDeferred b).run P w = .ok calls w') :
 step P (lone fr cs w) = .next (lone { fr with defers := calls ++ ds } cs w') := by
 refine step_lone_go ?_
 cases m with
 | run => exact absurd rfl hne
 | returning => simp [stepG, unwind, hm, hd, hr]
 | panicking ch => simp [stepG, unwind, hm, hd, hr]
end st
section
variable {E : cx} {ih : tA → S → Option dz} {f : FuncId} {fn : Func}
theorem cn (hg : Good E.P ih) {t : T V} {todo : List Item} {ds : List ei} {m : Md} {up : Option Md} {rd : Option Nat} {s : S} {out : dz} (e : fY ih f fn t todo ds m up rd s = some out) : DW E.P f fn t todo ds m up rd s out :=
 hg (.frame f fn t todo ds m up rd) s out e
theorem vu {ρ : aE} {s : S} {w : World} (h : HR ρ s w) {l : Nat} {st : LoopState} {pend : Option Code} {f' : FuncId} {t' : T V} {ps : Array Tmp} {a b : Code} {d nt : Nat} (hs : s.get l = some (.loop st pend f' t' ps a b d nt)) {lb : yu} (hl : ρ l 0 = some lb) :
 ∃ (r : Loop), w.heap[lb.b]? = some (.loop r) ∧ r.state = st ∧ r.pending = pend ∧ r.fn = f' ∧ r.params = ps ∧ r.assign = a ∧ r.body = b ∧ TR ρ t' r.tmps ∧ nt ≤ r.tmps.size ∧
  ∀ st2 pend2, HR ρ (s.put l (.loop st2 pend2 f' t' ps a b d nt)) (w.putObj lb.b (.loop { r with state := st2, pending := pend2 })) ∧ FR ρ w ρ (w.putObj lb.b (.loop { r with state := st2, pending := pend2 })) := by
 obtain ⟨l1, ld, tm, h1, h2, h3, h4, h5⟩ := h.blk _ _ hs
 rw [hl] at h1; cases h1
 refine ⟨_, h5, rfl, rfl, rfl, rfl, rfl, rfl, h3, h4, fun st2 pend2 => ?_⟩
 exact h.turn hl hs (fun _ h => by cases h) (vH w lb.b _) _ ⟨lb, ld, tm, hl, h2, h3, h4, World.putObj_heap_same (h.low _ _ _ hl)⟩
theorem jH (hg : Good E.P ih) {t : T V} {todo : List Item} {ds : List ei} {up : Option Md} {rd : Option Nat} {s : S} {out : dz} {jump : Option Code} (e : js (fY ih f fn) t ds up rd s jump = some out)
 {ρ : aE} {w : World} {fr : Frame} {cs : List Frame} (h : HR ρ s w) (hF : jw E.P ρ f fn t todo ds .run up rd fr cs)
 (h0 : jump = none ∨ jump = some .ret → fr.roundOf = none → step E.P (lone fr cs w) = .next (lone { fr with mode := .returning } cs w))
 (h1 : ∀ l v w', fr.roundOf = some l → fr.kind = .normal → (Instr.endRound l jump).run E.P w = .ok v w' → ∀ c cs', cs = c :: cs' → step E.P (lone fr cs w) = .next (lone (c.finish v) cs' w')) :
 pV E.P f up.isSome rd.isSome cs (lone fr cs w) ρ w out := by
 have ret : ∀ up, jw E.P ρ f fn t todo ds .run up none fr cs → jw E.P ρ f fn t [] ds .returning up none { fr with mode := .returning } cs := fun up hF =>
  ⟨hF.name, hF.func, hF.tr, hF.size, (fun q => by cases q), hF.ds, trivial, hF.rd, hF.up⟩
 unfold js at e
 split at e
 ·split at e
  ·exact ez h (h0 (.inl rfl) hF.rd) (ret up hF) (cn hg e)
  ·exact ez h (h0 (.inr rfl) hF.rd) (ret up hF) (cn hg e)
  ·cases e
 ·rename_i l
  split at e
  ·rename_i st pend f' t' ps a b d nt hs
   simp only [Option.some.injEq] at e
   subst e
   obtain ⟨rfl, lb, hl, hro⟩ := hF.rd
   obtain ⟨r, r1, r2, r3, r4, r5, r6, r7, r8, r9, r10⟩ := vu h hs hl
   have hrun := run_endRound (P := E.P) jump r1
   obtain ⟨j1, j2⟩ := r10 (if jump.isNone then .ready else .done) jump
   have hc : (bif jump.isNone then LoopState.ready else .done) = if jump.isNone then .ready else .done := by cases jump.isNone <;> rfl
   rw [hc]
   refine ⟨ρ, _, j1, j2, fun c cs' hcs => ⟨.returned (.bool jump.isNone), rfl, .one (h1 _ _ _ hro hF.up hrun c cs' hcs)⟩⟩
  ·cases e
def eH (E : cx) : Prop := ∀ (ih : tA → S → Option dz), Good E.P ih → ∀ (f : FuncId) (fn : Func) (id : Nat) (ops : Array Oper) (k : List Item) (rd : Option Nat) (t : T V) (ds : List ei) (up : Option Md) (s : S) (r : fQ),
 gY ops fn.ntmps = true → il E ops (bI ih) (er ih) t ds up s = some r → ∀ ρ w fr cs, HR ρ s w → jw E.P ρ f fn t (.code (.region id ops true) :: k) ds .run up rd fr cs → Vo E.P ρ w f fn k up rd cs (lone fr cs w) r
theorem nY (hg : Good E.P ih) {k : List Item} {rd : Option Nat} {up : Option Md} {x : Option fQ} {out : dz} (e : jd (fY ih f fn) k rd x = some out) {ρ : aE} {w : World} {cs : List Frame} {M : Machine} (hr : up.isSome = true → rd = none)
 (hx : ∀ r, x = some r → Vo E.P ρ w f fn k up rd cs M r) : pV E.P f up.isSome rd.isSome cs M ρ w out := by
 cases x with
 | none => cases e
 | some r =>
  obtain ⟨ρ', w', fr', cs', h1, h2, h3, h4⟩ := hx r rfl
  cases r with
  | on t' ds' up' s' =>
   obtain ⟨k1, k2, k3⟩ := h4
   have := cn hg e ρ' w' fr' cs' k1 k2
   rw [k3] at this
   exact pV.of_tops hr h3 (pV.of_steps h1 h2 this)
  | panicked c t' ds' up' s' =>
   obtain ⟨k1, k2, k3⟩ := h4
   have := cn hg e ρ' w' fr' cs' k1 k2
   rw [k3] at this
   exact pV.of_tops hr h3 (pV.of_steps h1 h2 this)
theorem uI (hg : Good E.P ih) {t : T V} {ds : List ei} {up : Option Md} {rd : Option Nat} {s : S} {out : dz} {k : List Item} {g : Operand} {ps : Array Tmp} {a b : Code}
 (e : iK f fn.ntmps (fY ih f fn) (bI ih) k t ds up rd s ps a b (eval t g) = some out) {ρ : aE} {w : World} {fr : Frame} {cs : List Frame} (h : HR ρ s w) (hF : jw E.P ρ f fn t (.code (.rangeFunc g ps a b) :: k) ds .run up rd fr cs) :
 pV E.P f up.isSome rd.isSome cs (lone fr cs w) ρ w out := by
 unfold iK at e
 split at e
 ·rename_i fnv first cap hgv
  obtain ⟨gf, fi, ca, g1, g2, g3, g4⟩ := xe (aD hF.tr hgv)
  split at e
  ·rename_i fid
   cases g1
   split at e
   ·
    have hro : fr.roundOf = none := hF.rd
    have hm := uL hF
    simp only at e
    obtain ⟨A1, A2⟩ := h.alloc .deferred (.deferred (some [])) 0 0 (Nat.le_refl _) ⟨⟨w.heap.size, 0, 0⟩, aE.put_same _ _ _ _, eO _ _⟩
    have hd1 : (ρ.put s.next 0 ⟨w.heap.size, 0, 0⟩) s.next 0 = some ⟨w.heap.size, 0, 0⟩ := aE.put_same _ _ _ _
    obtain ⟨B1, B2⟩ := A1.alloc (.loop .ready none f t ps a b s.next fn.ntmps) (.loop { state := .ready, pending := none, fn := f, tmps := fr.tmps, params := ps, assign := a, body := b, defers := w.heap.size }) 0 0 (Nat.le_refl _) (by
     have hle := aE.le_put (ρ := ρ.put s.next 0 ⟨w.heap.size, 0, 0⟩) (f := (s.alloc .deferred).next) (v := 0) ⟨(w.alloc (.deferred (some []))).heap.size, 0, 0⟩ (A1.fresh _ _ (Nat.le_refl _))
     exact ⟨⟨(w.alloc (.deferred (some []))).heap.size, 0, 0⟩, ⟨w.heap.size, 0, 0⟩, fr.tmps, aE.put_same _ _ _ _, hle _ _ _ hd1, (hF.tr.mono A2.ext).mono hle, hF.size, eO _ _⟩)
    generalize hρ2 : (ρ.put s.next 0 ⟨w.heap.size, 0, 0⟩).put (s.alloc .deferred).next 0 ⟨(w.alloc (.deferred (some []))).heap.size, 0, 0⟩ = ρ2 at B1 B2
    have hl2 : ρ2 (s.alloc .deferred).next 0 = some ⟨w.heap.size + 1, 0, 0⟩ := by rw [← hρ2, aE.put_same]; simp
    have hd2 : ρ2 s.next 0 = some ⟨w.heap.size, 0, 0⟩ := B2.ext _ _ _ hd1
    have hAB := A2.trans B2
    have hargs : bj ρ2 (first ++ ([.func (.yield (s.alloc .deferred).next) [] []] ++ cap)) = some (fi ++ ([Value.func (.yield (w.heap.size + 1)) #[] #[]] ++ ca)) := by
     refine ec (gb hAB.ext _ _ g2) (ec ?_ (gb hAB.ext _ _ g3))
     simp [bj, den, nw, hl2]
    cases hr : bI ih fid (first ++ ([.func (.yield (s.alloc .deferred).next) [] []] ++ cap)) none ((s.alloc .deferred).alloc (.loop .ready none f t ps a b s.next fn.ntmps)) with
    | none => rw [hr] at e; cases e
    | some o1 =>
     rw [hr] at e
     obtain ⟨hcall, hfin⟩ := lK hg B1 hargs hr
     have hname : fr.fn = f := hF.name
     obtain ⟨ρ3, w3, en, j1, j2, j3, j4⟩ := hfin { fr with todo := .inRangeFunc (w.heap.size + 1) :: k, defers := { target := .collected w.heap.size, args := #[] } :: fr.defers } cs
     have hstep := Ov (P := E.P) (fr := fr) (cs := cs) (w := w) (w' := (w.alloc (.deferred (some []))).alloc (.loop { state := .ready, pending := none, fn := f, tmps := fr.tmps, params := ps, assign := a, body := b, defers := w.heap.size }))
      (k := k) (uL hF) (hF.todo rfl) hro g4 (f2 := fid) (args := (fi ++ ([Value.func (.yield (w.heap.size + 1)) #[] #[]] ++ ca)).toArray) (fun w => by
       have := hcall w
       simpa using this) (by rw [hname])
     have hsz : ((w.alloc (.deferred (some []))).alloc (.loop { state := .ready, pending := none, fn := f, tmps := fr.tmps, params := ps, assign := a, body := b, defers := w.heap.size })).heap.size - 1 = w.heap.size + 1 := by simp
     rw [hsz] at hstep
     have hsteps := Steps.head hstep j4
     have hABC := hAB.trans j2
     have hF3 := hF.mono hABC.ext
     have hdr : NL ρ3 (.collected s.next) { target := .collected w.heap.size, args := #[] } := ⟨_, j2.ext _ _ _ hd2, rfl⟩
     obtain ⟨oe, oup, os⟩ := o1
     cases oe with
     | returned v =>
      cases en with
      | panicked _ => exact j3.elim
      | outgrown => exact j3.elim
      | returned y =>
       simp only [kK] at e
       unfold ry at e
       split at e
       ·rename_i st pend f' t' ps' a' b' d' nt hs
        obtain ⟨r, r1, r2, r3, r4, r5, r6, r7, r8, r9, r10⟩ := vu j1 hs (j2.ext _ _ _ hl2)
        have hgo : ∃ hb : st ≠ .busy, fY ih f fn t ((pend.map Item.code).toList ++ k) (.collected s.next :: ds) .run up none (os.put (s.alloc .deferred).next (.loop .exhausted pend f' t' ps' a' b' d' nt)) = some out := by
         split at e
         ·cases e
         ·rename_i hne; exact ⟨hne, e⟩
        obtain ⟨hb, hgo⟩ := hgo
        obtain ⟨q1, q2⟩ := r10 .exhausted pend
        have hend := run_endLoop (P := E.P) r1 (by rw [r2]; exact hb)
        rw [r3] at hend
        have hres : cW { fr with todo := .inRangeFunc (w.heap.size + 1) :: k, defers := { target := .collected w.heap.size, args := #[] } :: fr.defers } (.returned y) = { fr with todo := .endRangeFunc (w.heap.size + 1) :: k, defers := { target := .collected w.heap.size, args := #[] } :: fr.defers } := rfl
        rw [hres] at hsteps
        have hst2 := EK (P := E.P) (fr := { fr with todo := .endRangeFunc (w.heap.size + 1) :: k, defers := { target := .collected w.heap.size, args := #[] } :: fr.defers }) (cs := cs) hm rfl hend
        refine pV.of_steps (hsteps.trans (.one hst2)) (hABC.trans q2) (cn hg hgo _ _ _ _ q1 ?_)
        exact ⟨hF3.name, hF3.func, hF3.tr, hF3.size, fun _ => rfl, ⟨hdr, hF3.ds⟩, hF3.md, hF3.rd, hF3.up⟩
       ·cases e
     | panicked c =>
      cases en with
      | returned _ => exact j3.elim
      | outgrown => exact j3.elim
      | panicked ch =>
       simp only [kK] at e
       refine pV.of_steps hsteps hABC (cn hg e _ _ _ _ j1 ?_)
       rw [cW, bG (show ({ fr with todo := .inRangeFunc (w.heap.size + 1) :: k, defers := { target := .collected w.heap.size, args := #[] } :: fr.defers } : Frame).mode = .run from hm)]
       exact ⟨hF3.name, hF3.func, hF3.tr, hF3.size, (fun q => by cases q), ⟨hdr, hF3.ds⟩, j3, hF3.rd, hF3.up⟩
   ·cases e
  ·cases e
 ·cases e
end
end Go.AI
