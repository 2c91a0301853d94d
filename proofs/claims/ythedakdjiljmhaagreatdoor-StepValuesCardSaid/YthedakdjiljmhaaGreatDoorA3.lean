/- The evaluator's operations are sound, first part. No conditions. -/
import Derived.Test.YthedakdjiljmhaaGreatDoorA2
import GoSem.Step
import Derived.Laws.Entries
import Derived.Laws.StructEq
set_option linter.unusedVariables false
set_option linter.unusedSimpArgs false
noncomputable section
/- Operations: what the abstract one gives is what the model's gives. -/
namespace Go.AI

def rv (tm : Array Value) : Operand → Value
  | .tmp t => tm.getD t Go.undef
  | .const v => v
  | .global g => .pointer (some ⟨g, 0, none⟩)
  | .func f => .func (.func f) #[] #[]

theorem frame_eval (fr : Frame) : fr.eval = rv fr.tmps := funext fun x => by cases x <;> rfl

theorem bytesV_back (s : ByteArray) : bytesV (s.data.toList.map UInt8.toNat) = s := by
  unfold bytesV
  have : (s.data.toList.map UInt8.toNat).map UInt8.ofNat = s.data.toList := by
    rw [List.map_map]
    conv => rhs; rw [← List.map_id s.data.toList]
    exact List.map_congr_left fun x _ => by simp
  rw [this]

theorem ofCell_den (ρ : Rho) (v : Value) (x : V) (h : V.ofCell v = some x) : den ρ x = some v := by
  cases v <;> simp only [V.ofCell] at h
  case string s => cases h; simp only [den]; rw [bytesV_back]
  case pointer a => cases a <;> simp at h; cases h; rfl
  case slice a n c =>
    cases a <;> simp only at h
    · cases hb : (Nat.beq n 0 && Nat.beq c 0) with
      | false => simp [hb] at h
      | true =>
        simp only [hb, cond_true] at h
        simp only [Bool.and_eq_true] at hb
        cases h
        rw [Nat.eq_of_beq_eq_true hb.1, Nat.eq_of_beq_eq_true hb.2]; rfl
    · cases h
  case map a => cases a <;> simp at h; cases h; rfl
  case func fn a b =>
    cases fn <;> simp only at h <;> try cases h
    cases hb : (a.toList.isEmpty && b.toList.isEmpty) with
    | false => rw [hb] at h; cases h
    | true =>
      simp only [hb, cond_true] at h
      simp only [Bool.and_eq_true, List.isEmpty_iff] at hb
      cases h
      have ha : a = #[] := by cases a; simpa using hb.1
      have hb' : b = #[] := by cases b; simpa using hb.2
      subst ha; subst hb'; rfl
  all_goals first | (cases h; rfl) | cases h

theorem ofCells_den (ρ : Rho) : ∀ (l : List Value) (m : List V), V.ofCells l = some m → denL ρ m = some l
  | [], m, h => by cases h; rfl
  | x :: r, m, h => by
    simp only [V.ofCells] at h
    cases hx : V.ofCell x with
    | none => simp [hx] at h
    | some v =>
      cases hr : V.ofCells r with
      | none => simp [hx, hr] at h
      | some q =>
        simp only [hx, hr] at h
        cases h
        exact denL_cons.2 ⟨x, r, ofCell_den ρ x v hx, ofCells_den ρ r q hr, rfl⟩

theorem ofConst_den (ρ : Rho) (v : Value) (x : V) (h : V.ofConst v = some x) : den ρ x = some v := by
  cases v
  case agg cs =>
    simp only [V.ofConst] at h
    split at h
    · rename_i l hl; cases h; simp only [den, ofCells_den ρ _ _ hl]
    · cases h
  all_goals exact ofCell_den ρ _ x h

theorem eval_sound {ρ : Rho} {t : T V} {tm : Array Value} (ht : TR ρ t tm) {x : Operand} {v : V} (h : eval t x = some v) : den ρ v = some (rv tm x) := by
  cases x with
  | tmp i =>
    obtain ⟨y, hy, hy'⟩ := ht i v h
    simp only [rv, Array.getD_eq_getD_getElem?, hy', Option.getD_some]; exact hy
  | const c => exact ofConst_den ρ c v h
  | global g => cases h
  | func f => cases h; rfl

theorem evals_sound {ρ : Rho} {t : T V} {tm : Array Value} (ht : TR ρ t tm) : ∀ {l : List Operand} {vs : List V}, evals t l = some vs → denL ρ vs = some (l.map (rv tm))
  | [], vs, h => by cases h; rfl
  | x :: r, vs, h => by
    simp only [evals] at h
    cases hx : eval t x with
    | none => simp [hx] at h
    | some v =>
      cases hr : evals t r with
      | none => simp [hx, hr] at h
      | some q =>
        simp only [hx, hr] at h; cases h
        exact denL_cons.2 ⟨_, _, eval_sound ht hx, evals_sound ht hr, rfl⟩

/- ---- types ---- -/
section types
variable {P : Program}

theorem zero_spec {t : TypeId} {zv : V} (h : zero P t = some zv) : ∃ z i, P.info? t = some i ∧ i.zero = some z ∧ ∀ ρ, den ρ zv = some z := by
  unfold zero at h
  cases hi : P.info? t with
  | none => simp [hi] at h
  | some i =>
    cases hz : i.zero with
    | none => simp [hi, hz] at h
    | some z =>
      simp only [hi, hz, Option.bind_some] at h
      exact ⟨z, i, rfl, hz, fun ρ => ofConst_den ρ z zv h⟩

theorem run_zero {t : TypeId} {i : TypeInfo} {z : Value} (hi : P.info? t = some i) (hz : i.zero = some z) (w : World) : (zeroValue t).run P w = .ok z w := by
  simp [zeroValue, typeInfo, hi, hz]

theorem size_spec {t : TypeId} {n : Nat} (h : size P t = some n) : ∃ i, P.info? t = some i ∧ i.size = n := by
  unfold size at h
  cases hi : P.info? t with
  | none => simp [hi] at h
  | some i => simp [hi] at h; exact ⟨i, rfl, h⟩

theorem run_size {t : TypeId} {n : Nat} (h : size P t = some n) (w : World) : (sizeOf t).run P w = .ok n w := by
  obtain ⟨i, hi, rfl⟩ := size_spec h
  simp [Go.sizeOf, typeInfo, hi]

theorem run_und {t : TypeId} {d : TypeDesc} (h : P.underlying t = some d) (w : World) : (underlying t).run P w = .ok d w := by
  simp [underlying, h]

theorem run_agg {t : TypeId} {b : Bool} (h : isAggT P t = some b) (w : World) : (isAgg t).run P w = .ok b w := by
  unfold isAggT at h
  cases hd : P.underlying t with
  | none => simp [hd] at h
  | some d =>
    simp only [hd, Option.map_some, Option.some.injEq] at h
    subst h
    simp only [isAgg, Sem.run_bind, run_und hd, Result.andThen_ok]
    cases d <;> rfl

theorem loadVar_sound {ρ : Rho} {s : S} {w : World} (h : HR ρ s w) {t : TypeId} {a : Ad} {x : V} (e : loadVar P s t a = some x) :
    ∃ ad y, denA ρ a = some ad ∧ den ρ x = some y ∧ (Go.loadVar t ad).run P w = .ok y w := by
  unfold loadVar at e
  cases hb : isAggT P t with
  | none => simp [hb] at e
  | some b =>
    cases b with
    | false =>
      simp only [hb] at e
      obtain ⟨ad, y, h1, h2, h3⟩ := loadCell_sound h e
      exact ⟨ad, y, h1, h2, by simp [Go.loadVar, run_agg hb, h3]⟩
    | true =>
      simp only [hb] at e
      cases hn : size P t with
      | none => simp [hn] at e
      | some n =>
        simp only [hn, Option.bind_some] at e
        cases hl : loadCells s a n with
        | none => simp [hl] at e
        | some l =>
          simp only [hl, Option.map_some, Option.some.injEq] at e
          subst e
          obtain ⟨ad, ys, h1, h2, h3, h4⟩ := loadCells_sound h hl
          refine ⟨ad, .agg ys.toArray, h1, by simp only [den, h2], ?_⟩
          have := run_loadCells_list (P := P) (w := w) ad ys h4
          rw [h3] at this
          simp [Go.loadVar, run_agg hb, run_size hn, this]

theorem storeVar_sound {ρ : Rho} {s s' : S} {w : World} (h : HR ρ s w) {t : TypeId} {a : Ad} {v : V} {y : Value} (e : storeVar P s t a v = some s') (hv : den ρ v = some y) :
    ∃ ad w', denA ρ a = some ad ∧ (Go.storeVar t ad y).run P w = .ok () w' ∧ HR ρ s' w' ∧ FR ρ w ρ w' := by
  unfold storeVar at e
  cases hn : size P t with
  | none => simp [hn] at e
  | some n =>
    simp only [hn] at e
    cases hb : Nat.beq v.cells.length n with
    | false => simp [hb] at e
    | true =>
      simp only [hb, cond_true] at e
      obtain ⟨ad, w', h1, h2, h3, h4⟩ := storeCells_sound P h e (den_cells hv)
      have hl : y.cells.size = n := by
        have := denL_length (den_cells hv)
        rw [Array.length_toList] at this
        rw [this]; exact Nat.eq_of_beq_eq_true hb
      exact ⟨ad, w', h1, by simp [Go.storeVar, run_size hn, hl, h2], h3, h4⟩

theorem partV_sound {ρ : Rho} {w : World} {t : TypeId} {cs : List V} {ys : Array Value} {off : Nat} {x : V} (hd : denL ρ cs = some ys.toList) (e : partV P t cs off = some x) :
    ∃ y, den ρ x = some y ∧ (part t ys off).run P w = .ok y w := by
  unfold partV at e
  cases hb : isAggT P t with
  | none => simp [hb] at e
  | some b =>
    cases b with
    | false =>
      simp only [hb] at e
      obtain ⟨y, h1, h2⟩ := denL_get off hd e
      rw [Array.getElem?_toList] at h2
      exact ⟨y, h1, by simp [part, run_agg hb, h2]⟩
    | true =>
      simp only [hb] at e
      cases hn : size P t with
      | none => simp [hn] at e
      | some n =>
        simp only [hn, Option.map_some, Option.some.injEq] at e
        subst e
        have h1 := denL_take n (denL_drop off hd)
        refine ⟨.agg (ys.extract off (off + n)), ?_, by simp [part, run_agg hb, run_size hn]⟩
        have h2 : (ys.extract off (off + n)) = ((ys.toList.drop off).take n).toArray := by
          apply Array.toList_inj.1
          rw [Array.toList_extract, List.extract_eq_take_drop]
          simp
        simp only [den, h1, h2]
end types

/- ---- what an operation comes to ---- -/
def DfrR (ρ : Rho) : Dfr → Deferred → Prop
  | .call fn cap args, d => ∃ g c a, denFn ρ fn = some g ∧ denL ρ cap = some c ∧ denL ρ args = some a ∧ d = { target := .fn g c.toArray, args := a.toArray }
  | .collected r, d => ∃ l, ρ r 0 = some l ∧ d = { target := .collected l.b, args := #[] }

def NxR (P : Program) (ρ : Rho) (w : World) : Nx → Result Next → Prop
  | .val v s, r => ∃ ρ' y w', r = .ok (.value y) w' ∧ den ρ' v = some y ∧ HR ρ' s w' ∧ FR ρ w ρ' w'
  | .skip s, r => ∃ ρ' w', r = .ok .skip w' ∧ HR ρ' s w' ∧ FR ρ w ρ' w'
  | .enter f args s, r => ∃ ys, denL ρ args = some ys ∧ r = (callFunc f ys.toArray).run P w ∧ HR ρ s w
  | .round l args s, r => ∃ lb ys, ρ l 0 = some lb ∧ denL ρ args = some ys ∧ r = (Instr.yield lb.b ys.toArray).run P w ∧ HR ρ s w
  | .defer d s, r => ∃ rd, DfrR ρ d rd ∧ r = .ok (.defer rd) w ∧ HR ρ s w
  | .recover s, r => r = .ok .recover w ∧ HR ρ s w
  | .panic v s, r => ∃ y, den ρ v = some y ∧ r = .halt (.panic y) w ∧ HR ρ s w

/-- A value, and nothing turned. -/
def NxV (P : Program) (ρ : Rho) (w : World) (s : S) (nx : Nx) (r : Result Next) : Prop := ∃ v y, nx = .val v s ∧ r = .ok (.value y) w ∧ den ρ v = some y

theorem NxV.toR {P : Program} {ρ : Rho} {s : S} {w : World} {nx : Nx} {r : Result Next} (h : HR ρ s w) (k : NxV P ρ w s nx r) : NxR P ρ w nx r := by
  obtain ⟨v, y, rfl, h2, h3⟩ := k
  exact ⟨ρ, y, w, h2, h3, h, FR.refl ρ w⟩

section ops
variable {P : Program} {ρ : Rho} {s : S} {w : World} {t : T V} {tm : Array Value}

/-- A value that needs no memory. -/
theorem nxVal_sound (_h : HR ρ s w) {x : Option V} {nx : Nx} (e : nxVal s x = some nx) {m : Sem Value}
    (hm : ∀ v, x = some v → ∃ y, den ρ v = some y ∧ m.run P w = .ok y w) : NxV P ρ w s nx ((do pure (Next.value (← m)) : Sem Next).run P w) := by
  cases x with
  | none => cases e
  | some v =>
    cases e
    obtain ⟨y, h1, h2⟩ := hm v rfl
    exact ⟨v, y, rfl, by simp [h2], h1⟩

theorem doPick_sound (h : HR ρ s w) (ht : TR ρ t tm) {c a b : Operand} {nx : Nx} (e : doPick t s c a b = some nx) :
    NxV P ρ w s nx ((do pure (Next.value (if ← asBool (rv tm c) then rv tm a else rv tm b)) : Sem Next).run P w) := by
  unfold doPick at e
  split at e
  · rename_i q hq
    have h1 := eval_sound ht hq
    simp only [den, Option.some.injEq] at h1
    unfold nxVal at e
    split at e
    · rename_i v hv
      cases e
      refine ⟨_, if q then rv tm a else rv tm b, rfl, by simp [← h1, asBool], ?_⟩
      cases q
      · exact eval_sound ht hv
      · exact eval_sound ht hv
    · cases e
  · cases e

theorem cells_size {ρ : Rho} {v : V} {y : Value} (h : den ρ v = some y) : y.cells.size = v.cells.length := by
  have := denL_length (den_cells h); rwa [Array.length_toList] at this

theorem nxNew_sound (h : HR ρ s w) {elem : TypeId} {v : V} {y : Value} (hv : den ρ v = some y) {nx : Nx} (e : nxNew (newCells s elem v.cells) = some nx) :
    NxR P ρ w nx ((do pure (Next.value (.pointer (some (← newVar elem y)))) : Sem Next).run P w) := by
  obtain ⟨ρ', h1, h2, h3⟩ := newCells_sound h false elem elem (cs := v.cells) (ys := y.cells) (by rw [den_cells hv, ← cells_size hv, List.take_of_length_le (by simp)]) (0, 0) ⟨fun _ => rfl, by simp⟩
  simp only [nxNew, newCells, newCellsB] at e
  cases e
  exact ⟨ρ', _, _, by simp [newVar, newRow]; rfl, by simp [den, denA, h1], h2, h3⟩

theorem doAlloc_sound (h : HR ρ s w) {elem : TypeId} {nx : Nx} (e : doAlloc P s elem = some nx) :
    NxR P ρ w nx ((do pure (Next.value (← Instr.alloc elem true (.tuple #[]))) : Sem Next).run P w) := by
  unfold doAlloc at e
  split at e
  · rename_i z hz
    obtain ⟨y, i, hi, hzi, hd⟩ := zero_spec hz
    have := nxNew_sound (P := P) h (hd ρ) e
    simp only [Instr.alloc, Sem.run_bind, run_zero hi hzi, Result.andThen_ok, Sem.run_pure] at this ⊢
    exact this
  · cases e

theorem doBox_sound (h : HR ρ s w) (ht : TR ρ t tm) {elem : TypeId} {x : Operand} {nx : Nx} (e : doBox s elem (eval t x) = some nx) :
    NxR P ρ w nx ((do pure (Next.value (← Instr.box elem (rv tm x))) : Sem Next).run P w) := by
  unfold doBox at e
  split at e
  · rename_i z hz
    have := nxNew_sound (P := P) h (eval_sound ht hz) e
    simp only [Instr.box, Sem.run_bind, Sem.run_pure] at this ⊢
    exact this
  · cases e

theorem doLoad_sound (h : HR ρ s w) (ht : TR ρ t tm) {ty : TypeId} {x : Operand} {nx : Nx} (e : doLoad P s ty (eval t x) = some nx) :
    NxV P ρ w s nx ((do pure (Next.value (← Instr.loadAt ty (rv tm x))) : Sem Next).run P w) := by
  unfold doLoad at e
  split at e
  · rename_i a ha
    have h1 := eval_sound ht ha
    refine nxVal_sound h e fun v hv => ?_
    obtain ⟨ad, y, h2, h3, h4⟩ := loadVar_sound h hv
    simp only [den, h2, Option.some.injEq] at h1
    exact ⟨y, h3, by simp [Instr.loadAt, Instr.sureAddr, ← h1, h4]⟩
  · cases e

theorem doStore_sound (h : HR ρ s w) (ht : TR ρ t tm) {ty : TypeId} {x y : Operand} {nx : Nx} (e : doStore P s ty (eval t x) (eval t y) = some nx) :
    NxR P ρ w nx ((do Instr.storeAt ty (rv tm x) (rv tm y); pure Next.skip : Sem Next).run P w) := by
  unfold doStore at e
  split at e
  · rename_i a ha
    have h1 := eval_sound ht ha
    split at e
    · rename_i v hv
      have h2 := eval_sound ht hv
      unfold nxSkip at e
      split at e
      · rename_i s' hs
        cases e
        obtain ⟨ad, w', h3, h4, h5, h6⟩ := storeVar_sound h hs h2
        simp only [den, h3, Option.some.injEq] at h1
        exact ⟨ρ, w', by simp [Instr.storeAt, Instr.sureAddr, ← h1, h4], h5, h6⟩
      · cases e
    · cases e
  · cases e

theorem doExtract_sound (h : HR ρ s w) (ht : TR ρ t tm) {x : Operand} {i : Nat} {nx : Nx} (e : nxVal s (doExtract (eval t x) i) = some nx) :
    NxV P ρ w s nx ((do pure (Next.value (← Instr.extract (rv tm x) i)) : Sem Next).run P w) := by
  refine nxVal_sound h e fun v hv => ?_
  unfold doExtract at hv
  split at hv
  · rename_i vs hx
    have h1 := eval_sound ht hx
    simp only [den] at h1
    split at h1
    · rename_i l hl
      obtain ⟨y, h2, h3⟩ := denL_get i hl hv
      simp only [Option.some.injEq] at h1
      exact ⟨y, h2, by simp [Instr.extract, ← h1, h3]⟩
    · cases h1
  · cases hv

theorem doMkFunc_sound (h : HR ρ s w) (ht : TR ρ t tm) {fn : Fn} {first cap : Array Operand} {nx : Nx} (e : nxVal s (doMkFunc fn (evals t first.toList) (evals t cap.toList)) = some nx) :
    NxV P ρ w s nx ((do pure (Next.value (← Instr.makeFunc fn (first.map (rv tm)) (cap.map (rv tm)))) : Sem Next).run P w) := by
  refine nxVal_sound h e fun v hv => ?_
  unfold doMkFunc at hv
  split at hv
  · cases hv
  · rename_i hfn
    unfold mkFuncV at hv
    split at hv
    · rename_i a ha
      split at hv
      · rename_i b hb
        cases hv
        have hf : denFn ρ fn = some fn := by cases fn <;> first | rfl | exact absurd rfl (hfn _)
        refine ⟨.func fn (first.map (rv tm)) (cap.map (rv tm)), ?_, by simp [Instr.makeFunc]⟩
        simp only [den, hf, evals_sound ht ha, evals_sound ht hb]
        have g : ∀ l : Array Operand, (List.map (rv tm) l.toList).toArray = l.map (rv tm) := fun l => by cases l; simp
        rw [g, g]
      · cases hv
    · cases hv

theorem natOf_spec {x : Option V} {n : Nat} (h : natOfO x = some n) : ∃ k, x = some (.int k (.ofNat n)) := by
  cases x with
  | none => cases h
  | some v =>
    cases v <;> try (cases h; done)
    rename_i k m
    cases m <;> cases h
    exact ⟨k, rfl⟩

theorem doMkIface_sound (h : HR ρ s w) (ht : TR ρ t tm) {ty : TypeId} {x : Operand} {nx : Nx} (e : nxVal s (doMkIface P ty (eval t x)) = some nx) :
    NxV P ρ w s nx ((do pure (Next.value (← Instr.makeInterface ty (rv tm x))) : Sem Next).run P w) := by
  refine nxVal_sound h e fun v hv => ?_
  unfold doMkIface at hv
  split at hv
  · cases hv
  · rename_i d hd hni
    split at hv
    · rename_i y hy
      cases hv
      refine ⟨.iface ty (rv tm x), by simp only [den, eval_sound ht hy], ?_⟩
      simp only [Instr.makeInterface, Sem.run_bind, run_und hni, Result.andThen_ok]
      cases d <;> first | rfl | exact absurd rfl (hd _)
    · cases hv
  · cases hv

theorem doField_sound (h : HR ρ s w) (ht : TR ρ t tm) {ty : TypeId} {x : Operand} {f : Nat} {nx : Nx} (e : nxVal s (doField P ty (eval t x) f) = some nx) :
    NxV P ρ w s nx ((do pure (Next.value (← Instr.field ty (rv tm x) f)) : Sem Next).run P w) := by
  refine nxVal_sound h e fun v hv => ?_
  unfold doField at hv
  split at hv
  · rename_i fs hfs
    split at hv
    · rename_i cs hx
      have h1 := eval_sound ht hx
      simp only [den] at h1
      split at h1
      · rename_i l hl
        simp only [Option.some.injEq] at h1
        split at hv
        · rename_i fd hfd
          obtain ⟨y, h2, h3⟩ := partV_sound (w := w) (ys := l.toArray) (by simpa using hl) hv
          exact ⟨y, h2, by simp [Instr.field, run_und hfs, hfd, ← h1, asAgg, h3]⟩
        · cases hv
      · cases h1
    · cases hv
  · cases hv

theorem addr_add (b off n : Nat) : (⟨b, off, none⟩ : Addr).add n = ⟨b, off + n, none⟩ := by
  unfold Addr.add; split
  · subst_vars; rfl
  · rfl

theorem denA_mk {a : Ad} {l : Loc} (hl : ρ a.f a.v = some l) (h : l.base ≤ a.c) : denA ρ a = some ⟨l.b, a.c - l.base, none⟩ := by
  unfold denA; rw [hl]; exact if_pos h
theorem denA_inv {a : Ad} {x : Addr} (h : denA ρ a = some x) : ∃ l, ρ a.f a.v = some l ∧ l.base ≤ a.c ∧ x = ⟨l.b, a.c - l.base, none⟩ := by
  unfold denA at h
  cases hl : ρ a.f a.v with
  | none => simp [hl] at h
  | some l =>
    simp only [hl] at h
    split at h
    · cases h; exact ⟨l, rfl, by assumption, rfl⟩
    · cases h

theorem denA_add {a : Ad} {x : Addr} (n : Nat) (h : denA ρ a = some x) : denA ρ (addC a n) = some (x.add n) := by
  obtain ⟨l, h1, h2, rfl⟩ := denA_inv h
  have h3 : ρ (addC a n).f (addC a n).v = some l := h1
  rw [denA_mk h3 (by show l.base ≤ a.c + n; omega), addr_add]
  have : (addC a n).c - l.base = a.c - l.base + n := by show a.c + n - l.base = _; omega
  rw [this]

theorem doFieldAddr_sound (h : HR ρ s w) (ht : TR ρ t tm) {ty : TypeId} {x : Operand} {f : Nat} {nx : Nx} (e : nxVal s (doFieldAddr P ty (eval t x) f) = some nx) :
    NxV P ρ w s nx ((do pure (Next.value (← Instr.fieldAt ty (rv tm x) f)) : Sem Next).run P w) := by
  refine nxVal_sound h e fun v hv => ?_
  unfold doFieldAddr at hv
  split at hv
  · rename_i fs hfs
    split at hv
    · rename_i a hx
      have h1 := eval_sound ht hx
      simp only [den] at h1
      split at h1
      · rename_i ad had
        simp only [Option.some.injEq] at h1
        split at hv
        · rename_i fd hfd
          cases hz : isZeroField fd P with
          | true => simp [hz] at hv
          | false =>
            simp only [hz, cond_false, Option.some.injEq] at hv
            subst hv
            have hn : ∃ n, size P fd.type = some n ∧ n ≠ 0 := by
              unfold isZeroField at hz
              split at hz
              · rename_i n hn; exact ⟨n, hn, fun e => by subst e; simp at hz⟩
              · cases hz
            obtain ⟨n, hn, hne⟩ := hn
            refine ⟨.pointer (some (ad.add fd.offset)), by simp only [den, denA_add _ had], ?_⟩
            simp [Instr.fieldAt, run_und hfs, hfd, ← h1, Instr.sureAddr, fieldPlace, run_size hn, hne]
        · cases hv
      · cases h1
    · cases hv
  · cases hv

theorem doNilCheck_sound (h : HR ρ s w) (ht : TR ρ t tm) {x : Operand} {dst : Option Tmp} {type : TypeId} {pos : String} {after : Array Edge} {guard : Option (Nat × Bool)} {nx : Nx} (e : nxVal s (doNilCheck (eval t x)) = some nx) :
    NxV P ρ w s nx ((execOp (rv tm) { dst, op := .nilCheck x, type, pos, after, guard }).run P w) := by
  unfold nxVal at e
  split at e
  · rename_i v hv
    cases e
    unfold doNilCheck at hv
    split at hv
    · rename_i a hx
      cases hv
      have h1 := eval_sound ht hx
      have h2 := h1
      simp only [den] at h2
      split at h2
      · rename_i ad had
        simp only [Option.some.injEq] at h2
        refine ⟨_, .pointer (some ad), rfl, ?_, by simp only [den, had]⟩
        simp only [execOp, ← h2, Sem.run_pure]
      · cases h2
    · rename_i fn fi ca hx
      have h1 := eval_sound ht hx
      split at hv
      · cases hv
        refine ⟨_, rv tm x, rfl, ?_, h1⟩
        simp only [den, denFn] at h1
        (repeat' split at h1) <;> try cases h1
        simp only [Option.some.injEq] at h1
        simp only [execOp, ← h1, Sem.run_pure]
      · cases hv
        refine ⟨_, rv tm x, rfl, ?_, h1⟩
        simp only [den, denFn] at h1
        (repeat' split at h1) <;> try cases h1
        simp only [Option.some.injEq] at h1
        rename_i h2 _ _ _ _ _ _
        simp only [execOp, ← h1]
        split at h2 <;> cases h2
        simp only [Sem.run_pure]
      · cases hv
    · cases hv
  · cases e

end ops

end Go.AI
/- Go's '==', abstract and in the model. -/
namespace Go.AI

theorem bytesV_toList (l : List Nat) : (bytesV l).toList = l.map UInt8.ofNat := by unfold bytesV; simp

theorem strEq_spec : ∀ {a b : List Nat} {r : Bool}, strEq a b = some r → ((bytesV a).toList == (bytesV b).toList) = r := by
  intro a
  induction a with
  | nil =>
    intro b r h
    cases b with
    | nil => cases h; rw [bytesV_toList]; rfl
    | cons y b => cases h; rw [bytesV_toList, bytesV_toList]; rfl
  | cons x a ih =>
    intro b r h
    cases b with
    | nil => cases h; rw [bytesV_toList, bytesV_toList]; rfl
    | cons y b =>
      simp only [strEq] at h
      cases hb : Nat.beq x y with
      | true =>
        simp only [hb, cond_true] at h
        have e := Nat.eq_of_beq_eq_true hb
        have h1 := ih h
        rw [bytesV_toList, bytesV_toList] at h1 ⊢
        subst e
        simp only [List.map_cons]
        rw [← h1, List.cons_beq_cons]
        simp
      | false =>
        simp only [hb, cond_false] at h
        cases hc : (Nat.blt x 256 && Nat.blt y 256) with
        | false => simp [hc] at h
        | true =>
          simp only [hc, cond_true, Option.some.injEq] at h
          subst h
          simp only [Bool.and_eq_true, Nat.blt_eq] at hc
          rw [bytesV_toList, bytesV_toList]
          simp only [List.map_cons]
          have hne : ¬ UInt8.ofNat x = UInt8.ofNat y := fun e => by
            have := congrArg UInt8.toNat e
            rw [UInt8.toNat_ofNat', UInt8.toNat_ofNat'] at this
            rw [Nat.mod_eq_of_lt hc.1, Nat.mod_eq_of_lt hc.2] at this
            subst this
            simp at hb
          rw [List.cons_beq_cons]
          simp [hne]

section
variable {P : Program} {ρ : Rho} {s : S} {w : World}

theorem plain_block (h : HR ρ s w) {a : Ad} (hp : plainAt s a = true) : ∃ l c e, ρ a.f a.v = some l ∧ w.heap[l.b]? = some (.cells c e (0, 0)) := by
  unfold plainAt at hp
  split at hp
  · rename_i el sb nv vers hg
    simp only [Bool.and_eq_true, Bool.not_eq_true'] at hp
    obtain ⟨u, hu⟩ := Option.isSome_iff_exists.1 hp.2
    obtain ⟨⟨l, c, e, fz, h1, h2, h3, h4, ⟨h5, _⟩, h6⟩, _, hv⟩ := h.ver hg hu
    rw [hv] at h1
    rw [h5 hp.1] at h2
    exact ⟨l, c, e, h1, h2⟩
  · cases hp

theorem ptrEq_sound (h : HR ρ s w) {a b : Ad} {r : Bool} (e : ptrEq (plainAt s) a b = some r) {A B : Addr} (ha : denA ρ a = some A) (hb : denA ρ b = some B) :
    (sameAddr A B).run P w = .ok r w := by
  unfold ptrEq at e
  cases hp : (plainAt s a && plainAt s b) with
  | false => simp [hp] at e
  | true =>
    simp only [hp, cond_true] at e
    simp only [Bool.and_eq_true] at hp
    obtain ⟨la, ha1, ha2, rfl⟩ := denA_inv ha
    obtain ⟨lb, hb1, hb2, rfl⟩ := denA_inv hb
    obtain ⟨l1, c1, e1, g1, g2⟩ := plain_block h hp.1
    obtain ⟨l2, c2, e2, g3, g4⟩ := plain_block h hp.2
    rw [ha1] at g1; cases g1
    rw [hb1] at g3; cases g3
    cases hf : Nat.beq a.f b.f with
    | true =>
      simp only [hf, cond_true] at e
      cases hv : Nat.beq a.v b.v with
      | false => simp [hv] at e
      | true =>
        simp only [hv, cond_true, Option.some.injEq] at e
        rw [Nat.eq_of_beq_eq_true hf, Nat.eq_of_beq_eq_true hv, hb1] at ha1
        cases ha1
        simp only [sameAddr, beq_self_eq_true, if_true]
        show Result.ok _ _ = _
        congr 1
        subst e
        cases hc : Nat.beq a.c b.c with
        | true => rw [Nat.eq_of_beq_eq_true hc]; simp
        | false =>
          have hne : a.c ≠ b.c := fun e => by rw [e] at hc; simp at hc
          simp; omega
    | false =>
      simp only [hf, cond_false, Option.some.injEq] at e
      subst e
      have hne : la.b ≠ lb.b := fun e => by
        have := (h.inj _ _ _ _ _ _ ha1 hb1 e).1
        rw [this] at hf; simp at hf
      have hn : (la.b == lb.b) = false := by simpa using hne
      have fa : w.frozen? ⟨la.b, a.c - la.base, none⟩ = false := by simp [World.frozen?, g2]
      have fb : w.frozen? ⟨lb.b, b.c - lb.base, none⟩ = false := by simp [World.frozen?, g4]
      have fa' : ∀ n, w.frozen? { block := la.b, off := n } = false := fun n => by simp [World.frozen?, g2]
      have fb' : ∀ n, w.frozen? { block := lb.b, off := n } = false := fun n => by simp [World.frozen?, g4]
      have sa : w.shape? la.b = some (e1, c1.size) := by simp [World.shape?, g2]
      have sb : w.shape? lb.b = some (e2, c2.size) := by simp [World.shape?, g4]
      simp [sameAddr, hn, fa, fb, noView, viewAt, sa, sb, mayBeOne, stringish, fa', fb']

theorem den_func {fn : Fn} {fi ca : List V} {x : Value} (h : den ρ (.func fn fi ca) = some x) : ∃ g a b, x = .func g a b := by
  simp only [den] at h
  split at h
  · split at h
    · split at h
      · cases h; exact ⟨_, _, _, rfl⟩
      · cases h
    · cases h
  · cases h

theorem fieldsOf_eq {t : TypeId} {fs : Array Field} (h : P.underlying t = some (.struct fs)) : P.fieldsOf t = fs := by
  unfold Program.fieldsOf; rw [h]

theorem eqFields_sound {eq : TypeId → V → V → Option Bool} {d : Nat} (heq : ∀ t x y r X Y, eq t x y = some r → den ρ x = some X → den ρ y = some Y → (Op.equalIn d t X Y).run P w = .ok r w) :
    ∀ (fs : List Field) (xs ys : List V) (X Y : Array Value) (r : Bool), eqlFields P eq fs xs ys = some r → denL ρ xs = some X.toList → denL ρ ys = some Y.toList →
      (Op.eqFields d X Y fs).run P w = .ok r w
  | [], xs, ys, X, Y, r, h, _, _ => by cases h; rfl
  | f :: fs, xs, ys, X, Y, r, h, hx, hy => by
    simp only [eqlFields] at h
    cases hn : (f.name == "_") with
    | true => simp [hn] at h
    | false =>
      simp only [hn, cond_false] at h
      have hne : f.name ≠ "_" := by simpa using hn
      split at h
      · rename_i a b ha hb
        obtain ⟨A, ha1, ha2⟩ := partV_sound (P := P) (w := w) hx ha
        obtain ⟨B, hb1, hb2⟩ := partV_sound (P := P) (w := w) hy hb
        simp only [Op.eqFields, hne, ne_eq, not_false_eq_true, if_true, Sem.run_bind, ha2, hb2, Result.andThen_ok]
        split at h
        · rename_i hq
          rw [heq _ _ _ _ _ _ hq ha1 hb1]
          simpa using eqFields_sound heq fs xs ys X Y r h hx hy
        · rename_i hq
          cases h
          rw [heq _ _ _ _ _ _ hq ha1 hb1]
          simp
        · cases h
      · cases h

set_option maxHeartbeats 3000000 in
theorem eqlAt_sound (h : HR ρ s w) : ∀ (d : Nat) (t : TypeId) (x y : V) (r : Bool) (X Y : Value) (d' : Nat), eqlAt P (plainAt s) d t x y = some r → den ρ x = some X → den ρ y = some Y → d ≤ d' →
    (Op.equalIn d' t X Y).run P w = .ok r w := by
  intro d
  induction d with
  | zero => intro t x y r X Y d' e; cases e
  | succ d ih =>
    intro t x y r X Y d' e hx hy hd
    obtain ⟨d', rfl⟩ : ∃ n, d' = n + 1 := ⟨d' - 1, by omega⟩
    simp only [eqlAt] at e
    split at e
    · rename_i fs hu
      split at e
      · rename_i xs ys
        cases hs : P.stoodInHeld t with
        | true => simp [hs] at e
        | false =>
          simp only [hs, cond_false] at e
          simp only [den] at hx hy
          split at hx
          · rename_i lx hlx
            split at hy
            · rename_i ly hly
              cases hx; cases hy
              rw [run_equalIn_struct w d' t _ _ (by rw [fieldsOf_eq hu]; exact hu) hs, fieldsOf_eq hu]
              exact eqFields_sound (fun t x y r X Y e h1 h2 => ih t x y r X Y d' e h1 h2 (by omega)) fs.toList xs ys _ _ r e (by simpa using hlx) (by simpa using hly)
            · cases hy
          · cases hx
      · cases e
    · rename_i ms hu
      split at e
      · cases hx; cases hy; cases e; simp [Op.equalIn, run_und hu]
      · rename_i ty vy
        simp only [den] at hy
        split at hy
        · cases hx; cases hy; cases e; simp [Op.equalIn, run_und hu]
        · cases hy
      · rename_i tx vx
        simp only [den] at hx
        split at hx
        · cases hx; cases hy; cases e; simp [Op.equalIn, run_und hu]
        · cases hx
      · rename_i tx vx ty vy
        simp only [den] at hx hy
        split at hx
        · rename_i zx hzx
          split at hy
          · rename_i zy hzy
            cases hx; cases hy
            cases ht : Nat.beq tx ty with
            | false =>
              simp only [ht, cond_false, Option.some.injEq] at e
              subst e
              have hne : tx ≠ ty := fun e => by rw [e] at ht; simp at ht
              simp [Op.equalIn, run_und hu, hne]
            | true =>
              simp only [ht, cond_true] at e
              have := Nat.eq_of_beq_eq_true ht
              subst this
              split at e
              · rename_i i hi
                cases hc : i.comparable with
                | false => simp [hc] at e
                | true =>
                  simp only [hc, cond_true] at e
                  have := ih _ _ _ _ _ _ d' e hzx hzy (by omega)
                  simp [Op.equalIn, run_und hu, typeInfo, hi, hc, this]
              · cases e
          · cases hy
        · cases hx
      · cases e
    · rename_i hu
      split at e
      · cases hx; cases hy; cases e; simp [Op.equalIn, run_und hu]
      · cases e
    · rename_i k0 hu
      split at e
      · rename_i j a k b
        cases hk : sameKind j k with
        | false => simp [hk] at e
        | true =>
          simp only [hk, cond_true, Option.some.injEq] at e
          have hjk : j = k := of_decide_eq_true hk
          subst hjk
          cases hx; cases hy; subst e
          simp [Op.equalIn, run_und hu]
      · cases e
    · rename_i hu
      split at e
      · rename_i a b
        cases hx; cases hy
        have := strEq_spec e
        simp [Op.equalIn, run_und hu, beq_toListBytes, this]
      · cases e
    · rename_i el hu
      split at e
      · cases hx; cases hy; cases e; simp [Op.equalIn, run_und hu]
      · rename_i b
        simp only [den] at hy
        split at hy
        · cases hx; cases hy; cases e; simp [Op.equalIn, run_und hu]
        · cases hy
      · rename_i a
        simp only [den] at hx
        split at hx
        · cases hx; cases hy; cases e; simp [Op.equalIn, run_und hu]
        · cases hx
      · rename_i a b
        simp only [den] at hx hy
        split at hx
        · rename_i A hA
          split at hy
          · rename_i B hB
            cases hx; cases hy
            split at e
            · rename_i n hn
              cases hz : Nat.beq n 0 with
              | true => simp [hz] at e
              | false =>
                simp only [hz, cond_false] at e
                have hne : n ≠ 0 := fun e => by subst e; simp at hz
                have := ptrEq_sound (P := P) h e hA hB
                simp [Op.equalIn, run_und hu, run_size hn, hne, this]
            · cases e
          · cases hy
        · cases hx
      · cases e
    · rename_i el hu
      split at e
      · cases hx; cases hy; cases e; simp [Op.equalIn, run_und hu]
      · rename_i a z n c sz
        simp only [den, denSl] at hy
        (repeat' split at hy) <;> first | (cases hy; done) | (cases hx; cases hy; cases e; simp [Op.equalIn, run_und hu])
      · rename_i a z n c sz
        simp only [den, denSl] at hx
        (repeat' split at hx) <;> first | (cases hx; done) | (cases hx; cases hy; cases e; simp [Op.equalIn, run_und hu])
      · cases e
    · rename_i k el hu
      split at e
      · cases hx; cases hy; cases e; simp [Op.equalIn, run_und hu]
      · simp only [den] at hy
        split at hy
        · cases hx; cases hy; cases e; simp [Op.equalIn, run_und hu]
        · cases hy
      · simp only [den] at hx
        split at hx
        · cases hx; cases hy; cases e; simp [Op.equalIn, run_und hu]
        · cases hx
      · cases e
    · rename_i hu
      split at e
      · cases hx; cases hy; cases e; simp [Op.equalIn, run_und hu]
      · obtain ⟨g, a, b, rfl⟩ := den_func hy
        cases hx; cases e; simp [Op.equalIn, run_und hu]
      · obtain ⟨g, a, b, rfl⟩ := den_func hx
        cases hy; cases e; simp [Op.equalIn, run_und hu]
      · cases e
    · cases e
end

end Go.AI
/- Operations, second part. -/
namespace Go.AI
section ops
variable {P : Program} {ρ : Rho} {s : S} {w : World} {t : T V} {tm : Array Value}

theorem intOp_sound {op : BinOp} {k : IntKind} {a b : Int} {v : V} (ty : TypeId) (hns : isShift op = false) (h : intOp op k a b = some v) :
    ∃ y, den ρ v = some y ∧ (Go.binOp op ty (.int k a) (.int k b)).run P w = .ok y w := by
  cases op <;> simp only [isShift, Bool.true_eq_false] at hns <;> simp only [intOp, mkInt_eq] at h
  case quo =>
    cases hb : (b == 0) with
    | true => simp [hb] at h
    | false =>
      simp only [hb, cond_false, Option.some.injEq] at h
      subst h
      have : b ≠ 0 := by simpa using hb
      exact ⟨_, rfl, by simp [Go.binOp, Op.intDiv, this]⟩
  case rem =>
    cases hb : (b == 0) with
    | true => simp [hb] at h
    | false =>
      simp only [hb, cond_false, Option.some.injEq] at h
      subst h
      have : b ≠ 0 := by simpa using hb
      exact ⟨_, rfl, by simp [Go.binOp, Op.intDiv, this]⟩
  all_goals first
    | cases h; done
    | (cases h; exact ⟨_, rfl, by simp [Go.binOp, Op.intArith, Op.intCmp, Op.intBits]⟩)

theorem shiftOp_sound {op : BinOp} {k yk : IntKind} {a b : Int} {v : V} (ty : TypeId) (h : shiftOp op k a b = some v) :
    ∃ y, den ρ v = some y ∧ (Go.binOp op ty (.int k a) (.int yk b)).run P w = .ok y w := by
  cases b with
  | negSucc n => cases h
  | ofNat n =>
    have h0 : ¬ (Int.ofNat n < 0) := Int.not_lt.2 (Int.natCast_nonneg n)
    cases op <;> simp only [shiftOp, mkInt_eq] at h <;> first
      | (cases h; done)
      | (cases h; exact ⟨_, rfl, by simp [Go.binOp, Op.shift]; intro h; omega⟩)

theorem strOp_sound {op : BinOp} {a b : List Nat} {v : V} (ty : TypeId) (h : strOp op a b = some v) :
    ∃ y, den ρ v = some y ∧ (Go.binOp op ty (.string (bytesV a)) (.string (bytesV b))).run P w = .ok y w := by
  cases op <;> simp only [strOp] at h
  case add =>
    cases hb : Nat.ble (a.length + b.length) 1000000 with
    | false => simp [hb] at h
    | true =>
      simp only [hb, cond_true, Option.some.injEq] at h
      subst h
      have hl := Nat.le_of_ble_eq_true hb
      have sa : (bytesV a).size = a.length := by unfold bytesV; simp [ByteArray.size]
      have sb : (bytesV b).size = b.length := by unfold bytesV; simp [ByteArray.size]
      have hcat : bytesV a ++ bytesV b = bytesV (a ++ b) := by
        apply ByteArray.ext
        simp [bytesV]
      refine ⟨_, rfl, ?_⟩
      have hle : ¬ (((bytesV a).size + (bytesV b).size : Nat) : Int) > IntKind.i64.max := by
        rw [sa, sb]; simp only [IntKind.max, IntKind.signed, IntKind.bits]; simp; omega
      simp only [Go.binOp, Op.stringOp]
      rw [if_neg hle, hcat]; rfl
  case eql =>
    cases hq : strEq a b with
    | none => simp [hq] at h
    | some r =>
      simp only [hq, Option.map_some, Option.some.injEq] at h; subst h
      exact ⟨_, rfl, by simp only [Go.binOp, Op.stringOp, strEq_spec hq]; rfl⟩
  case neq =>
    cases hq : strEq a b with
    | none => simp [hq] at h
    | some r =>
      simp only [hq, Option.map_some, Option.some.injEq] at h; subst h
      exact ⟨_, rfl, by simp only [Go.binOp, Op.stringOp, strEq_spec hq]; rfl⟩
  case lss =>
    cases h
    exact ⟨_, rfl, by simp only [Go.binOp, Op.stringOp, bytesV_toList, bytesOfL]; rfl⟩
  all_goals cases h

theorem eqGuard_ok {op : BinOp} {ty : TypeId} {ox oy : Operand} {a b : V} {A B : Value} (hg : guardOk P op ty ox oy a b = true) (ha : den ρ a = some A) (hb : den ρ b = some B) :
    (eqGuard op ty ox oy A B).run P w = .ok () w := by
  unfold guardOk at hg
  cases he : isEq op with
  | false => cases op <;> simp only [isEq, Bool.true_eq_false] at he <;> simp [eqGuard]
  | true =>
    rw [he] at hg
    simp only [cond_true] at hg
    have key : ∀ (A B : Value), (A = .nilIface → B = .nilIface → (isConstO ox || isConstO oy) = true) → (∀ xs ys, A = .agg xs → B = .agg ys → P.eqGuardType P.depth ty = false) →
        (eqGuard op ty ox oy A B).run P w = .ok () w := by
      intro A B h1 h2
      by_cases hn : A = .nilIface ∧ B = .nilIface
      · obtain ⟨rfl, rfl⟩ := hn
        have := h1 rfl rfl
        cases op <;> simp only [isEq, Bool.false_eq_true] at he <;> cases ox <;> cases oy <;> simp [isConstO] at this <;> simp [eqGuard]
      · by_cases hm : ∃ xs ys, A = .agg xs ∧ B = .agg ys
        · obtain ⟨xs, ys, rfl, rfl⟩ := hm
          exact run_eqGuard_agg w op ty ox oy xs ys (h2 xs ys rfl rfl)
        · cases op <;> simp only [isEq, Bool.false_eq_true] at he <;> (cases A <;> first | rfl | (cases B <;> first | rfl | (exact absurd ⟨rfl, rfl⟩ hn) | (exact absurd ⟨_, _, rfl, rfl⟩ hm)))
    refine key A B (fun hA hB => ?_) (fun xs ys hA hB => ?_)
    · subst hA; subst hB
      have na : a = .nilIface := by
        cases a <;> simp only [den, denSl] at ha <;> (repeat' split at ha) <;> first | rfl | (simp at ha; done) | cases ha
      have nb : b = .nilIface := by
        cases b <;> simp only [den, denSl] at hb <;> (repeat' split at hb) <;> first | rfl | (simp at hb; done) | cases hb
      subst na; subst nb; exact hg
    · subst hA; subst hB
      have na : ∃ l, a = .agg l := by
        cases a <;> simp only [den, denSl] at ha <;> (repeat' split at ha) <;> first | exact ⟨_, rfl⟩ | (simp at ha; done) | cases ha
      have nb : ∃ l, b = .agg l := by
        cases b <;> simp only [den, denSl] at hb <;> (repeat' split at hb) <;> first | exact ⟨_, rfl⟩ | (simp at hb; done) | cases hb
      obtain ⟨la, rfl⟩ := na
      obtain ⟨lb, rfl⟩ := nb
      simpa using hg

theorem notInt_or {x y : V} : (∃ j a k b, x = .int j a ∧ y = .int k b) ∨ (∃ a b, x = .str a ∧ y = .str b) ∨ ((∀ j a k b, ¬ (x = .int j a ∧ y = .int k b)) ∧ ∀ a b, ¬ (x = .str a ∧ y = .str b)) := by
  by_cases h1 : ∃ j a k b, x = .int j a ∧ y = .int k b
  · exact .inl h1
  · by_cases h2 : ∃ a b, x = .str a ∧ y = .str b
    · exact .inr (.inl h2)
    · exact .inr (.inr ⟨fun j a k b h => h1 ⟨j, a, k, b, h⟩, fun a b h => h2 ⟨a, b, h⟩⟩)

theorem run_eql_gen {ty : TypeId} {X Y : Value} {r : Bool} (h : (Op.equalIn 10000 ty X Y).run P w = .ok r w) (hn : ∀ j a k b, ¬ (X = .int j a ∧ Y = .int k b)) (hs : ∀ a b, ¬ (X = .string a ∧ Y = .string b))
    (hf : ∀ k a, X ≠ .float k a) (hc : ∀ k a b, X ≠ .complex k a b) :
    (Go.binOp .eql ty X Y).run P w = .ok (.bool r) w ∧ (Go.binOp .neq ty X Y).run P w = .ok (.bool (!r)) w := by
  have e1 : ∀ (o : Sem Bool), o.run P w = .ok r w → ((do pure (.bool (← o)) : Sem Value).run P w = .ok (.bool r) w ∧ (do pure (.bool (!(← o))) : Sem Value).run P w = .ok (.bool (!r)) w) := fun o ho => by simp [ho]
  have h' : (Op.equal ty X Y).run P w = .ok r w := h
  cases X <;> first
    | exact e1 _ h'
    | (exact absurd rfl (hf _ _))
    | (exact absurd rfl (hc _ _ _))
    | (cases Y <;> first
        | exact e1 _ h'
        | (exact absurd ⟨rfl, rfl⟩ (hn _ _ _ _))
        | (exact absurd ⟨rfl, rfl⟩ (hs _ _)))

theorem den_shape {v : V} {x : Value} (h : den ρ v = some x) : (∀ k a, x ≠ .float k a) ∧ (∀ k a b, x ≠ .complex k a b) ∧ (∀ j a, x = .int j a → v = .int j a) ∧ (∀ a, x = .string a → ∃ l, v = .str l) := by
  cases v <;> simp only [den, denSl] at h <;> (repeat' split at h) <;> first
    | (cases h; done)
    | (cases h; exact ⟨fun _ _ e => (by cases e), fun _ _ _ e => (by cases e), fun _ _ e => (by cases e <;> rfl), fun _ e => (by cases e <;> exact ⟨_, rfl⟩)⟩)

theorem doBin_sound (h : HR ρ s w) (ht : TR ρ t tm) {op : BinOp} {ty : TypeId} {x y : Operand} {nx : Nx} (e : nxVal s (doBin P s op ty x y (eval t x) (eval t y)) = some nx) :
    NxV P ρ w s nx ((do pure (Next.value (← (do eqGuard op ty x y (rv tm x) (rv tm y); Go.binOp op ty (rv tm x) (rv tm y) : Sem Value))) : Sem Next).run P w) := by
  refine nxVal_sound h e fun v hv => ?_
  unfold doBin at hv
  split at hv
  · rename_i a ha
    split at hv
    · rename_i b hb
      cases hg : guardOk P op ty x y a b with
      | false => simp [hg] at hv
      | true =>
        simp only [hg, cond_true] at hv
        have da := eval_sound ht ha
        have db := eval_sound ht hb
        have hgo := eqGuard_ok (w := w) hg da db
        generalize rv tm x = X at *
        generalize rv tm y = Y at *
        suffices hs : ∃ y, den ρ v = some y ∧ (Go.binOp op ty X Y).run P w = .ok y w by
          obtain ⟨z, h1, h2⟩ := hs
          exact ⟨z, h1, by simp [hgo, h2]⟩
        rcases notInt_or (x := a) (y := b) with ⟨j, m, k, n, rfl, rfl⟩ | ⟨l, m, rfl, rfl⟩ | ⟨hni, hns⟩
        · cases da; cases db
          simp only [binOpV] at hv
          cases hs : isShift op with
          | true => rw [hs] at hv; exact shiftOp_sound ty hv
          | false =>
            rw [hs] at hv
            simp only [cond_false] at hv
            cases hk : sameKind j k with
            | false => simp [hk] at hv
            | true =>
              simp only [hk, cond_true] at hv
              obtain rfl : j = k := of_decide_eq_true hk
              exact intOp_sound ty hs hv
        · cases da; cases db
          exact strOp_sound ty hv
        · have hv' : (match (generalizing := false) op with
              | .eql => (eqlAt P (plainAt s) 20 ty a b).map .bool
              | .neq => (eqlAt P (plainAt s) 20 ty a b).map fun b => .bool (!b)
              | _ => none) = some v := by
            unfold binOpV at hv
            split at hv
            · exact absurd ⟨rfl, rfl⟩ (hni _ _ _ _)
            · exact absurd ⟨rfl, rfl⟩ (hns _ _)
            · exact hv
          obtain ⟨s1, s2, s3, s4⟩ := den_shape da
          obtain ⟨q1, q2, q3, q4⟩ := den_shape db
          have hn : ∀ j a' k b', ¬ (X = .int j a' ∧ Y = .int k b') := fun j a' k b' ⟨e1, e2⟩ => hni j a' k b' ⟨s3 _ _ e1, q3 _ _ e2⟩
          have hss : ∀ a' b', ¬ (X = .string a' ∧ Y = .string b') := fun a' b' ⟨e1, e2⟩ => by
            obtain ⟨l, rfl⟩ := s4 _ e1
            obtain ⟨m, rfl⟩ := q4 _ e2
            exact hns _ _ ⟨rfl, rfl⟩
          cases hq : eqlAt P (plainAt s) 20 ty a b with
          | none => cases op <;> simp [hq] at hv'
          | some r =>
            have he := eqlAt_sound h 20 ty a b r X Y 10000 hq da db (by omega)
            obtain ⟨g1, g2⟩ := run_eql_gen he hn hss s1 s2
            cases op <;> simp only [hq, Option.map_some, Option.some.injEq] at hv' <;> first
              | (subst hv'; exact ⟨_, rfl, g1⟩)
              | (subst hv'; exact ⟨_, rfl, g2⟩)
              | cases hv'
    · cases hv
  · cases hv

theorem doUn_sound (h : HR ρ s w) (ht : TR ρ t tm) {op : UnOp} {x : Operand} {nx : Nx} (e : nxVal s (doUn op (eval t x)) = some nx) :
    NxV P ρ w s nx ((do pure (Next.value (← Op.unary op (rv tm x))) : Sem Next).run P w) := by
  refine nxVal_sound h e fun v hv => ?_
  unfold doUn at hv
  split at hv
  · rename_i a ha
    have da := eval_sound ht ha
    generalize rv tm x = X at *
    cases op <;> cases a <;> simp only [unOpV] at hv <;> first
      | (cases hv; done)
      | (cases hv; cases da; exact ⟨_, rfl, by simp [Op.unary, Op.intArith]⟩)
  · cases hv

theorem doAssert_sound (h : HR ρ s w) (ht : TR ρ t tm) {x : Operand} {xt ty : TypeId} {ok : Bool} {nx : Nx} (e : nxVal s (doAssert P (eval t x) ty ok) = some nx) :
    NxV P ρ w s nx ((do pure (Next.value (← Instr.typeAssert (rv tm x) xt ty ok)) : Sem Next).run P w) := by
  refine nxVal_sound h e fun v hv => ?_
  unfold doAssert at hv
  split at hv
  · cases hv
  · rename_i d hni hd
    have hfail : ∀ v, failAssert P ty ok = some v → ok = true ∧ ∃ z i, P.info? ty = some i ∧ i.zero = some z ∧ den ρ v = some (.tuple #[z, .bool false]) := fun v hf => by
      unfold failAssert at hf
      cases ok with
      | false => cases hf
      | true =>
        simp only [cond_true] at hf
        split at hf
        · rename_i z hz
          obtain ⟨y, i, hi, hzi, hden⟩ := zero_spec hz
          cases hf
          exact ⟨rfl, y, i, hi, hzi, by simp only [den, denL, hden ρ]⟩
        · cases hf
    split at hv
    · rename_i hx
      have dx := eval_sound ht hx
      obtain ⟨rfl, z, i, hi, hz, hden⟩ := hfail v hv
      simp only [den, Option.some.injEq] at dx
      refine ⟨_, hden, ?_⟩
      simp only [Instr.typeAssert, Sem.run_bind, run_und hd, Result.andThen_ok, ← dx]
      cases d <;> first | (simp [run_zero hi hz]; done) | exact absurd rfl (hni _)
    · rename_i u q hx
      have dx := eval_sound ht hx
      simp only [den] at dx
      split at dx
      · rename_i z hz
        simp only [Option.some.injEq] at dx
        cases hb : Nat.beq u ty with
        | true =>
          simp only [hb, cond_true, Option.some.injEq] at hv
          have hu := Nat.eq_of_beq_eq_true hb
          subst hu
          subst hv
          refine ⟨if ok then .tuple #[z, .bool true] else z, by cases ok <;> simp [den, denL, hz], ?_⟩
          simp only [Instr.typeAssert, Sem.run_bind, run_und hd, Result.andThen_ok, ← dx]
          cases d <;> first | (simp; done) | exact absurd rfl (hni _)
        | false =>
          simp only [hb, cond_false] at hv
          have hu : u ≠ ty := fun e => by rw [e] at hb; simp at hb
          obtain ⟨rfl, z', i, hi, hz', hden⟩ := hfail v hv
          refine ⟨_, hden, ?_⟩
          simp only [Instr.typeAssert, Sem.run_bind, run_und hd, Result.andThen_ok, ← dx]
          cases d <;> first | (simp [hu, run_zero hi hz']; done) | exact absurd rfl (hni _)
      · cases dx
    · cases hv
  · cases hv

end ops
end Go.AI
