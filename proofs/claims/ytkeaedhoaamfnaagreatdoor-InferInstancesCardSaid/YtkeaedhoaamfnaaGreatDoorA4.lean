/- The evaluator by which runs of the program are reckoned, and that it is sound: part 4. No conditions beyond those of the row. -/
import Derived.Test.YtkeaedhoaamfnaaGreatDoorA3
import Derived.Laws.IdiomStrings
set_option linter.unusedVariables false
set_option linter.unusedSimpArgs false
noncomputable section
namespace Go.AI
section ops
variable {P : Program} {ρ : aq} {s : S} {w : World} {t : T V} {tm : Array Value}
theorem lS {r : Nat} {es : Array MapEntry} {c : Nat} (h : w.heap[r]? = some (.map es c)) : (getObj r).run P w = .ok (.map es c) w := by
 simp only [getObj, Sem.run, h]
theorem uD {r : Nat} {es : Array MapEntry} {c : Nat} (h : w.heap[r]? = some (.map es c)) (o : Obj) : (setObj r o).run P w = .ok () { w with heap := w.heap.setIfInBounds r o } := by
 simp only [setObj, Sem.run, h]
theorem tU (w : World) (r : Nat) (o : Obj) : Pz w { w with heap := w.heap.setIfInBounds r o } r :=
 ⟨by simp, rfl, rfl, rfl, fun k hk => by simp [Ne.symm hk]⟩
theorem BW {r : Nat} {o' : Obj} (h : w.heap[r]? = some o') (o : Obj) : ({ w with heap := w.heap.setIfInBounds r o } : World).heap[r]? = some o := by
 have hlt := (Array.getElem?_eq_some_iff.1 h).1
 simp [hlt]
theorem ko {kt : TypeId} (h : eO P kt = true) : ∃ d, P.underlying kt = some d ∧ ((∃ k, d = .int k) ∨ d = .string ∨ d = .bool ∨ ∃ e, d = .pointer e) := by
 unfold eO at h
 split at h <;> first | (cases h; done) | (rename_i hd; refine ⟨_, hd, ?_⟩; simp)
theorem jh {kt : TypeId} (h : eO P kt = true) (b : Bool) (K : Value) : (Instr.checkKey b 10000 kt K).run P w = .ok () w := by
 obtain ⟨d, hd, h1⟩ := ko h
 show (Instr.checkKey b (9999 + 1) kt K).run P w = _
 rw [Instr.checkKey]
 simp only [Sem.run_bind, aj hd, Result.andThen_ok]
 rcases h1 with ⟨k, rfl⟩ | rfl | rfl | ⟨e, rfl⟩ <;> rfl
structure OL (P : Program) (ρ : aq) (w : World) (kt : TypeId) (eq : V → V → Option Bool) (k : V) (K : Value) : Prop where
 ask : ∀ key y r, eq k key = some r → den ρ key = some y → (Op.equal kt K y).run P w = .ok r w
 same : ∀ key y, eq k key = some true → den ρ key = some y → y = K
 now : ∀ d, P.underlying kt = some d → (∀ key y r, eq k key = some r → den ρ key = some y → Instr.sameNow d K y = some r) ∨ (∀ y, Instr.sameNow d K y = none)
 bits : ∀ n, Instr.sameBits (n + 1) K K = true
theorem um : ∀ {a b : List Nat}, ia a b = some true → a = b
 | [], [], _ => rfl
 | [], _ :: _, h => by cases h
 | _ :: _, [], h => by cases h
 | a :: x, b :: y, h => by
  simp only [ia] at h
  cases hb : Nat.beq a b with
  | true => rw [hb] at h; rw [Nat.eq_of_beq_eq_true hb, um h]
  | false =>
   rw [hb] at h
   cases hc : (Nat.blt a 256 && Nat.blt b 256) with
   | true => rw [hc] at h; cases h
   | false => rw [hc] at h; cases h
theorem My (a b : ByteArray) : (a == b) = (a.data == b.data) := by cases a; cases b; rfl
theorem Gj (a b : List Nat) : (ar a == ar b) = ((ar a).toList == (ar b).toList) := by
 rw [My, bU, bU]
 show ((a.map UInt8.ofNat).toArray == (b.map UInt8.ofNat).toArray) = _
 simp
theorem OF (a : ByteArray) : (a == a) = true := by rw [My]; simp
theorem OG (h : HR ρ s w) {kt : TypeId} (hs : eO P kt = true) {k : V} {K : Value} (hk : den ρ k = some K) {e0 : pL} {r0 : Bool} (h0 : dJ P (plainAt s) 20 kt k e0.key = some r0) :
 OL P ρ w kt (dJ P (plainAt s) 20 kt) k K := by
 obtain ⟨d, hd, h1⟩ := ko hs
 have key : ∀ key, dJ P (plainAt s) 20 kt k key ≠ none → (∃ a b i j, k = .int i a ∧ key = .int j b ∧ ∃ kk, d = .int kk) ∨ (∃ a b, k = .str a ∧ key = .str b ∧ d = .string) ∨ (∃ a b, k = .bool a ∧ key = .bool b ∧ d = .bool) ∨
  ((∃ e, d = .pointer e) ∧ ((k = .nilptr ∧ key = .nilptr) ∨ (∃ a, k = .nilptr ∧ key = .ptr a) ∨ (∃ a, k = .ptr a ∧ key = .nilptr) ∨ (∃ a b, k = .ptr a ∧ key = .ptr b))) := by
  intro key hne
  rcases h1 with ⟨kk, rfl⟩ | rfl | rfl | ⟨e, rfl⟩ <;> unfold dJ at hne <;> simp only [hd] at hne
  ·cases k <;> cases key <;> simp at hne ⊢
  ·cases k <;> cases key <;> simp at hne ⊢
  ·cases k <;> cases key <;> simp at hne ⊢
  ·cases k <;> cases key <;> simp at hne ⊢
 refine ⟨fun key' y r he hy => sL h 20 kt k key' r K y 10000 he hk hy (by omega), fun key' y he hy => ?_, fun d' hd' => ?_, fun n => ?_⟩
 ·have he2 := he
  rcases key key' (by rw [he2]; simp) with ⟨a, b, i, j, rfl, rfl, kk, rfl⟩ | ⟨a, b, rfl, rfl, rfl⟩ | ⟨a, b, rfl, rfl, rfl⟩ | ⟨⟨e, rfl⟩, ⟨rfl, rfl⟩ | ⟨a, rfl, rfl⟩ | ⟨a, rfl, rfl⟩ | ⟨a, b, rfl, rfl⟩⟩ <;> unfold dJ at he <;> simp only [hd] at he
  · 
   cases hq : aR i j with
   | false => rw [hq] at he; cases he
   | true =>
    rw [hq] at he
    obtain rfl : i = j := of_decide_eq_true hq
    simp at he
    cases hk; cases hy; rw [he]
  ·rw [um he] at hk
   rw [hk] at hy; exact (Option.some.inj hy).symm
  ·simp at he
   subst he
   rw [hk] at hy; exact (Option.some.inj hy).symm
  ·rw [hk] at hy; exact (Option.some.inj hy).symm
  ·simp at he
  ·simp at he
  ·split at he
   ·rename_i n hn
    cases hz : Nat.beq n 0 with
    | true => rw [hz] at he; cases he
    | false =>
     rw [hz] at he
     simp only [cond_false, Hl] at he
     cases hp : (plainAt s a && plainAt s b) with
     | false => rw [hp] at he; cases he
     | true =>
     rw [hp] at he
     simp only [cond_true] at he
     cases hf : Nat.beq a.f b.f with
     | false => simp [hf] at he
     | true =>
      cases hv : Nat.beq a.v b.v with
      | false => simp [hf, hv] at he
      | true =>
       simp [hf, hv] at he
       have e1 := Nat.eq_of_beq_eq_true hf
       have e2 := Nat.eq_of_beq_eq_true hv
       have : a = b := by cases a; cases b; simp_all
       subst this
       rw [hk] at hy; exact (Option.some.inj hy).symm
   ·cases he
 ·rw [hd] at hd'
  cases hd'
  rcases h1 with ⟨kk, rfl⟩ | rfl | rfl | ⟨e, rfl⟩
  ·left; intro key' y r he hy
   have he2 := he
   unfold dJ at he
   simp only [hd] at he
   rcases key key' (by rw [he2]; simp) with ⟨a, b, i, j, rfl, rfl, _, _⟩ | ⟨a, b, rfl, rfl, hh⟩ | ⟨a, b, rfl, rfl, hh⟩ | ⟨⟨e, hh⟩, _⟩ <;> try (cases hh; done)
   simp only at he
   cases hq : aR i j with
   | false => rw [hq] at he; cases he
   | true =>
    rw [hq] at he
    obtain rfl : i = j := of_decide_eq_true hq
    cases hk; cases hy
    simpa [Instr.sameNow] using he
  ·left; intro key' y r he hy
   have he2 := he
   unfold dJ at he
   simp only [hd] at he
   rcases key key' (by rw [he2]; simp) with ⟨a, b, i, j, rfl, rfl, _, hh⟩ | ⟨a, b, rfl, rfl, _⟩ | ⟨a, b, rfl, rfl, hh⟩ | ⟨⟨e, hh⟩, _⟩ <;> try (cases hh; done)
   simp only at he
   cases hk; cases hy
   simp only [Instr.sameNow, Gj, lN he]
  ·left; intro key' y r he hy
   have he2 := he
   unfold dJ at he
   simp only [hd] at he
   rcases key key' (by rw [he2]; simp) with ⟨a, b, i, j, rfl, rfl, _, hh⟩ | ⟨a, b, rfl, rfl, hh⟩ | ⟨a, b, rfl, rfl, _⟩ | ⟨⟨e, hh⟩, _⟩ <;> try (cases hh; done)
   simp only at he
   cases hk; cases hy
   simpa [Instr.sameNow] using he
  ·right; intro y; cases K <;> cases y <;> rfl
 ·rcases key e0.key (by rw [h0]; simp) with ⟨a, b, i, j, rfl, _⟩ | ⟨a, b, rfl, _⟩ | ⟨a, b, rfl, _⟩ | ⟨_, ⟨rfl, _⟩ | ⟨a, rfl, _⟩ | ⟨a, rfl, _⟩ | ⟨a, b, rfl, _⟩⟩
  ·cases hk; simp [Instr.sameBits]
  ·cases hk; simp [Instr.sameBits, OF]
  ·cases hk; simp [Instr.sameBits]
  ·cases hk; simp [Instr.sameBits]
  ·cases hk; simp [Instr.sameBits]
  ·simp only [den] at hk; split at hk <;> cases hk; simp [Instr.sameBits]
  ·simp only [den] at hk; split at hk <;> cases hk; simp [Instr.sameBits]
def Na (ρ : aq) (eq : V → V → Option Bool) (k : V) (y : Value) (r : Bool) : Prop := ∃ key, den ρ key = some y ∧ eq k key = some r
theorem yy {eq : V → V → Option Bool} {k : V} : ∀ {es : List pL} {rs : List MapEntry}, fV ρ es rs → bN eq k es = some none → ∀ e ∈ rs, Na ρ eq k e.key false
 | [], [], _, _, e, he => by cases he
 | a :: es, b :: rs, ⟨h1, h2⟩, h, e, he => by
  simp only [bN] at h
  cases hq : eq k a.key with
  | none => simp [hq, bN.foundKey] at h
  | some q =>
   cases q with
   | true => simp [hq, bN.foundKey] at h
   | false =>
    simp only [hq, bN.foundKey] at h
    rcases List.mem_cons.1 he with rfl | he
    ·exact ⟨a.key, h1.1, hq⟩
    ·exact yy h2 h e he
 | [], _ :: _, h, _, _, _ => h.elim
 | _ :: _, [], h, _, _, _ => h.elim
theorem Db {eq : V → V → Option Bool} {k v : V} : ∀ {es : List pL} {rs : List MapEntry}, fV ρ es rs → bN eq k es = some (some v) →
 ∃ pre e post, rs = pre ++ e :: post ∧ (∀ e' ∈ pre, Na ρ eq k e'.key false) ∧ Na ρ eq k e.key true ∧ den ρ v = some e.val
 | [], [], _, h => by simp [bN] at h
 | a :: es, b :: rs, ⟨h1, h2⟩, h => by
  simp only [bN] at h
  cases hq : eq k a.key with
  | none => simp [hq, bN.foundKey] at h
  | some q =>
   cases q with
   | true =>
    simp only [hq, bN.foundKey, Option.some.injEq] at h
    subst h
    exact ⟨[], b, rs, rfl, (fun _ he => by cases he), ⟨a.key, h1.1, hq⟩, h1.2.1⟩
   | false =>
    simp only [hq, bN.foundKey] at h
    obtain ⟨pre, e, post, rfl, g1, g2, g3⟩ := Db h2 h
    refine ⟨b :: pre, e, post, rfl, fun e' he => ?_, g2, g3⟩
    rcases List.mem_cons.1 he with rfl | he
    ·exact ⟨a.key, h1.1, hq⟩
    ·exact g1 e' he
 | [], _ :: _, h, _ => h.elim
 | _ :: _, [], h, _ => h.elim
theorem BE {eq : V → V → Option Bool} {k x : V} : ∀ {es : List pL} {rs : List MapEntry}, fV ρ es rs → cl eq k x es = some none → ∀ e ∈ rs, Na ρ eq k e.key false
 | [], [], _, _, e, he => by cases he
 | a :: es, b :: rs, ⟨h1, h2⟩, h, e, he => by
  simp only [cl] at h
  cases hq : eq k a.key with
  | none => simp [hq, cl.setKey] at h
  | some q =>
   cases q with
   | true => simp [hq, cl.setKey] at h
   | false =>
    simp only [hq, cl.setKey] at h
    cases hu : cl eq k x es with
    | none => simp [hu] at h
    | some u =>
     cases u with
     | some l => simp [hu] at h
     | none =>
      rcases List.mem_cons.1 he with rfl | he
      ·exact ⟨a.key, h1.1, hq⟩
      ·exact BE h2 hu e he
 | [], _ :: _, h, _, _, _ => h.elim
 | _ :: _, [], h, _, _, _ => h.elim
theorem GQ {eq : V → V → Option Bool} {k x : V} {K X : Value} (hk : den ρ k = some K) (hx : den ρ x = some X) : ∀ {es es' : List pL} {rs : List MapEntry}, fV ρ es rs → cl eq k x es = some (some es') →
 ∃ pre e post, rs = pre ++ e :: post ∧ (∀ e' ∈ pre, Na ρ eq k e'.key false) ∧ Na ρ eq k e.key true ∧ fV ρ es' (pre ++ { e with key := K, val := X } :: post)
 | [], _, [], _, h => by simp [cl] at h
 | a :: es, es', b :: rs, ⟨h1, h2⟩, h => by
  simp only [cl] at h
  cases hq : eq k a.key with
  | none => simp [hq, cl.setKey] at h
  | some q =>
   cases q with
   | true =>
    simp only [hq, cl.setKey, Option.some.injEq] at h
    subst h
    exact ⟨[], b, rs, rfl, (fun _ he => by cases he), ⟨a.key, h1.1, hq⟩, ⟨hk, hx, h1.2.2⟩, h2⟩
   | false =>
    simp only [hq, cl.setKey] at h
    cases hu : cl eq k x es with
    | none => simp [hu] at h
    | some u =>
     cases u with
     | none => simp [hu] at h
     | some l =>
      simp only [hu, Option.some.injEq] at h
      subst h
      obtain ⟨pre, e, post, rfl, g1, g2, g3⟩ := GQ hk hx h2 hu
      refine ⟨b :: pre, e, post, rfl, fun e' he => ?_, g2, h1, g3⟩
      rcases List.mem_cons.1 he with rfl | he
      ·exact ⟨a.key, h1.1, hq⟩
      ·exact g1 e' he
 | [], _, _ :: _, h, _ => h.elim
 | _ :: _, _, [], h, _ => h.elim
theorem CF {d : TypeDesc} {K : Value} : ∀ {rs : List MapEntry} (i : Nat), (∀ e ∈ rs, Instr.sameNow d K e.key = some false) → Instr.findNow d K rs i = some none
 | [], _, _ => rfl
 | e :: rs, i, h => by
  rw [Instr.findNow, h e (by simp)]
  exact CF (i + 1) fun e' he => h e' (by simp [he])
theorem Hs {d : TypeDesc} {K : Value} {e : MapEntry} {post : List MapEntry} (h1 : Instr.sameNow d K e.key = some true) : ∀ {pre : List MapEntry} (i : Nat), (∀ e ∈ pre, Instr.sameNow d K e.key = some false) → Instr.findNow d K (pre ++ e :: post) i = some (some (i + pre.length, e.val))
 | [], i, _ => by simp [Instr.findNow, h1]
 | a :: pre, i, h => by
  rw [List.cons_append, Instr.findNow, h a (by simp)]
  have := Hs (post := post) h1 (pre := pre) (i + 1) fun e' he => h e' (by simp [he])
  rw [show i + (a :: pre).length = i + 1 + pre.length by simp; omega]
  exact this
theorem DH {kt : TypeId} {K : Value} : ∀ {rs : List MapEntry} (i : Nat), (∀ e ∈ rs, (Op.equal kt K e.key).run P w = .ok false w) → (Instr.findAsking kt K rs i).run P w = .ok none w
 | [], _, _ => by simp [Instr.findAsking]
 | e :: rs, i, h => by
  simp only [Instr.findAsking, Sem.run_bind, h e (by simp), Result.andThen_ok, Bool.false_eq_true, if_false]
  exact DH (i + 1) fun e' he => h e' (by simp [he])
theorem HW {kt : TypeId} {K : Value} {e : MapEntry} {post : List MapEntry} (h1 : (Op.equal kt K e.key).run P w = .ok true w) : ∀ {pre : List MapEntry} (i : Nat), (∀ e ∈ pre, (Op.equal kt K e.key).run P w = .ok false w) → (Instr.findAsking kt K (pre ++ e :: post) i).run P w = .ok (some (i + pre.length, e.val)) w
 | [], i, _ => by simp [Instr.findAsking, h1]
 | a :: pre, i, h => by
  simp only [List.cons_append, Instr.findAsking, Sem.run_bind, h a (by simp), Result.andThen_ok, Bool.false_eq_true, if_false]
  have := HW (post := post) h1 (pre := pre) (i + 1) fun e' he => h e' (by simp [he])
  rw [show i + (a :: pre).length = i + 1 + pre.length by simp; omega]
  exact this
theorem Cd {kt : TypeId} {d : TypeDesc} (hd : P.underlying kt = some d) {eq : V → V → Option Bool} {k : V} {K : Value} {rs : List MapEntry} (A : rs ≠ [] → OL P ρ w kt eq k K) (h : ∀ e ∈ rs, Na ρ eq k e.key false) :
 (Instr.findKey kt K rs).run P w = .ok none w := by
 by_cases hn : rs = []
 ·subst hn; simp [Instr.findKey, aj hd, Instr.findNow]
 ·replace A := A hn
  simp only [Instr.findKey, Sem.run_bind, aj hd, Result.andThen_ok]
  rcases A.now d hd with g | g
  ·rw [CF 0 fun e he => by obtain ⟨key, h1, h2⟩ := h e he; exact g _ _ _ h2 h1]; rfl
  ·cases rs with
   | nil => exact absurd rfl hn
   | cons e rs =>
    rw [Instr.findNow, g]
    exact DH 0 fun e' he => by obtain ⟨key, h1, h2⟩ := h e' he; exact A.ask _ _ _ h2 h1
theorem Hd {kt : TypeId} {d : TypeDesc} (hd : P.underlying kt = some d) {eq : V → V → Option Bool} {k : V} {K : Value} {pre post : List MapEntry} {e : MapEntry} (A : OL P ρ w kt eq k K) (h : ∀ e ∈ pre, Na ρ eq k e.key false) (h1 : Na ρ eq k e.key true) :
 (Instr.findKey kt K (pre ++ e :: post)).run P w = .ok (some (pre.length, e.val)) w := by
 simp only [Instr.findKey, Sem.run_bind, aj hd, Result.andThen_ok]
 obtain ⟨key, k1, k2⟩ := h1
 rcases A.now d hd with g | g
 ·rw [Hs (g _ _ _ k2 k1) 0 fun e he => by obtain ⟨key, h1, h2⟩ := h e he; exact g _ _ _ h2 h1]
  simp
 ·have hno : Instr.findNow d K (pre ++ e :: post) 0 = none := by
   cases pre <;> (simp only [List.nil_append, List.cons_append]; rw [Instr.findNow, g])
  rw [hno]
  have := HW (P := P) (w := w) (post := post) (A.ask _ _ _ k2 k1) 0 fun e he => by obtain ⟨key, h1, h2⟩ := h e he; exact A.ask _ _ _ h2 h1
  simpa using this
theorem ot (h : HR ρ s w) {kt : TypeId} (hs : eO P kt = true) {k : V} {K : Value} (hk : den ρ k = some K) {y : Value} {r : Bool} (ha : Na ρ (dJ P (plainAt s) 20 kt) k y r) :
 OL P ρ w kt (dJ P (plainAt s) 20 kt) k K := by
 obtain ⟨key, _, h2⟩ := ha
 exact OG h hs hk (e0 := ⟨key, key, 0⟩) h2
theorem Ar {r : Nat} {y : Value} (h : den ρ (.map r) = some y) : ∃ l, ρ r 0 = some l ∧ y = .map (some l.b) := by
 simp only [den] at h
 split at h
 ·rename_i l hl; cases h; exact ⟨l, hl, rfl⟩
 ·cases h
theorem nJ (h : HR ρ s w) (ht : TR ρ t tm) {ty : TypeId} {x k : Operand} {ok : Bool} {nx : Nx} (e : bc s (bZ P s ty (eval t x) (eval t k) ok) = some nx) :
 wx P ρ w s nx ((do pure (Next.value (← Instr.lookup ty (rv tm x) (rv tm k) ok)) : Sem Next).run P w) := by
 refine aZ h e fun v hv => ?_
 unfold bZ at hv
 split at hv
 ·rename_i kt el hu
  split at hv
  ·rename_i m hm
   split at hv
   ·rename_i k' hk
    have dm := am ht hm
    have dk := am ht hk
    generalize rv tm x = X at *
    generalize rv tm k = K at *
    split at hv
    ·rename_i es hes
     cases hs : eO P kt with
     | false => rw [hs] at hv; cases hv
     | true =>
      rw [hs] at hv
      simp only [cond_true] at hv
      obtain ⟨d, hd, _⟩ := ko hs
      have hX : ∃ (rs : Array MapEntry), fV ρ es rs.toList ∧ ∀ (o : Option (Nat × Value)), (Instr.findKey kt K rs.toList).run P w = .ok o w →
       (Instr.lookup ty X K ok).run P w = match o with
        | some (_, v) => .ok (if ok then .tuple #[v, .bool true] else v) w
        | none => ((zeroValue el).run P w).andThen fun v w => .ok (if ok then .tuple #[v, .bool false] else v) w := by
       unfold nE at hes
       split at hes
       ·cases hes; cases dm
        refine ⟨#[], trivial, fun o ho => ?_⟩
        simp only [Instr.lookup, Sem.run_bind, aj hu, Result.andThen_ok, Sem.run_pure, jh hs, ho]
        cases o with
        | none => simp only [Sem.run_bind, Sem.run_pure]; cases (zeroValue el).run P w <;> rfl
        | some o => rfl
       ·rename_i r
        split at hes
        ·rename_i es' clock hg
         cases hes
         obtain ⟨l, hl, rfl⟩ := Ar dm
         obtain ⟨l', rs, g1, g2, g3⟩ := h.blk _ _ hg
         rw [hl] at g1; cases g1
         refine ⟨rs, g3, fun o ho => ?_⟩
         simp only [Instr.lookup, Sem.run_bind, aj hu, Result.andThen_ok, lS g2, Sem.run_pure, jh hs, ho]
         cases o with
         | none => simp only [Sem.run_bind, Sem.run_pure]; cases (zeroValue el).run P w <;> rfl
         | some o => rfl
        ·cases hes
       ·cases hes
      obtain ⟨rs, hrs, hrun⟩ := hX
      unfold qz at hv
      split at hv
      ·rename_i u hf
       cases hv
       obtain ⟨pre, e, post, g1, g2, g3, g4⟩ := Db hrs hf
       have A := ot h hs dk g3
       have := hrun _ (by rw [g1]; exact Hd hd A g2 g3)
       refine ⟨_, ?_, this⟩
       cases ok
       ·exact g4
       ·simp only [cond_true, if_true, den, aY, g4]
      ·rename_i hf
       have hm := yy hrs hf
       have := hrun none (Cd hd (fun hne => by
        cases hr : rs.toList with
        | nil => exact absurd hr hne
        | cons e r => exact ot h hs dk (hm e (by rw [hr]; simp))) hm)
       split at hv
       ·rename_i z hz
        cases hv
        obtain ⟨zv, it, hi, hzi, hden⟩ := eM hz
        simp only [fQ hi hzi, Result.andThen_ok] at this
        refine ⟨_, ?_, this⟩
        cases ok
        ·exact hden ρ
        ·simp only [cond_true, if_true, den, aY, hden ρ]
       ·cases hv
      ·cases hv
    ·cases hv
   ·cases hv
  ·cases hv
 ·cases hv
theorem It (K old : Value) (h1 : old = K) (hb : ∀ n, Instr.sameBits (n + 1) K K = true) : (Instr.keyThatStays old K).run P w = .ok K w := by
 subst h1
 have := hb 9999
 simp only [Instr.keyThatStays]
 rw [if_pos this]; rfl
theorem fV.length : ∀ {es : List pL} {rs : List MapEntry}, fV ρ es rs → es.length = rs.length
 | [], [], _ => rfl
 | _ :: _, _ :: _, ⟨_, h⟩ => by simp [fV.length h]
 | [], _ :: _, h => h.elim
 | _ :: _, [], h => h.elim
theorem fV.snoc {k x : V} {K X : Value} {c : Nat} (hk : den ρ k = some K) (hx : den ρ x = some X) : ∀ {es : List pL} {rs : List MapEntry}, fV ρ es rs → fV ρ (es ++ [⟨k, x, c⟩]) (rs ++ [⟨K, X, c⟩])
 | [], [], _ => ⟨⟨hk, hx, rfl⟩, trivial⟩
 | _ :: _, _ :: _, ⟨h1, h2⟩ => ⟨h1, fV.snoc hk hx h2⟩
 | [], _ :: _, h => h.elim
 | _ :: _, [], h => h.elim
theorem Fh (pre post : List MapEntry) (e : MapEntry) (f : MapEntry → MapEntry) : (pre ++ e :: post).modify pre.length f = pre ++ f e :: post := by
 induction pre with
 | nil => simp
 | cons a pre ih => simpa using ih
theorem kI (h : HR ρ s w) (ht : TR ρ t tm) {ty : TypeId} {m k x : Operand} {nx : Nx} (e : dt P s ty (eval t m) (eval t k) (eval t x) = some nx) :
 Bs P ρ w nx ((do Instr.mapUpdate ty (rv tm m) (rv tm k) (rv tm x); pure Next.skip : Sem Next).run P w) := by
 unfold dt at e
 split at e
 ·rename_i r hm
  split at e
  ·rename_i k' hk
   split at e
   ·rename_i x' hx
    have dm := am ht hm
    have dk := am ht hk
    have dx := am ht hx
    generalize rv tm m = M at *
    generalize rv tm k = K at *
    generalize rv tm x = X at *
    split at e
    ·rename_i kt el hu
     split at e
     ·rename_i es clock hg
      cases hs : eO P kt with
      | false => rw [hs] at e; cases e
      | true =>
       rw [hs] at e
       simp only [cond_true] at e
       obtain ⟨d, hd, _⟩ := ko hs
       obtain ⟨l, hl, rfl⟩ := Ar dm
       obtain ⟨l', rs, g1, g2, g3⟩ := h.blk _ _ hg
       rw [hl] at g1; cases g1
       unfold pR at e
       split at e
       ·rename_i es' hf
        cases e
        obtain ⟨pre, e, post, q1, q2, q3, q4⟩ := GQ dk dx g3 hf
        have A := ot h hs dk q3
        have hsame : e.key = K := by
         obtain ⟨key, k1, k2⟩ := q3
         exact A.same _ _ k2 k1
        have hfind : (Instr.findKey kt K rs.toList).run P w = .ok (some (pre.length, e.val)) w := by rw [q1]; exact Hd hd A q2 q3
        have hat : rs[pre.length]? = some e := by rw [← Array.getElem?_toList, q1]; simp
        have hst := It (P := P) (w := w) K e.key hsame A.bits
        have hmod : (rs.modify pre.length fun e => { e with key := K, val := X }).toList = pre ++ { e with key := K, val := X } :: post := by
         rw [Array.toList_modify, q1, Fh]
        have hrun : (Instr.mapUpdate ty (.map (some l.b)) K X).run P w = .ok () { w with heap := w.heap.setIfInBounds l.b (.map (rs.modify pre.length fun e => { e with key := K, val := X }) clock) } := by
         simp only [Instr.mapUpdate, Sem.run_bind, aj hu, Result.andThen_ok, lS g2, jh hs, hfind, hat, Option.map_some, Option.getD_some, hst, uD g2]
        obtain ⟨j1, j2⟩ := h.turn hl hg (fun _ h => by cases h) (tU w l.b _) (.map es' clock) ⟨l, _, hl, BW g2 _, by rw [hmod]; exact q4⟩
        exact ⟨ρ, _, by simp only [Sem.run_bind, hrun, Result.andThen_ok, Sem.run_pure], j1, j2⟩
       ·rename_i hf
        cases e
        have hmiss := BE g3 hf
        have hfind : (Instr.findKey kt K rs.toList).run P w = .ok none w := Cd hd (fun hne => by
         cases hr : rs.toList with
         | nil => exact absurd hr hne
         | cons e r => exact ot h hs dk (hmiss e (by rw [hr]; simp))) hmiss
        have hrun : (Instr.mapUpdate ty (.map (some l.b)) K X).run P w = .ok () { w with heap := w.heap.setIfInBounds l.b (.map (rs.push { key := K, val := X, born := clock }) (clock + 1)) } := by
         simp only [Instr.mapUpdate, Sem.run_bind, aj hu, Result.andThen_ok, lS g2, jh hs, hfind, uD g2]
        obtain ⟨j1, j2⟩ := h.turn hl hg (fun _ h => by cases h) (tU w l.b _) (.map (es ++ [⟨k', x', clock⟩]) (clock + 1)) ⟨l, _, hl, BW g2 _, by rw [Array.toList_push]; exact fV.snoc dk dx g3⟩
        exact ⟨ρ, _, by simp only [Sem.run_bind, hrun, Result.andThen_ok, Sem.run_pure], j1, j2⟩
       ·cases e
     ·cases e
    ·cases e
   ·cases e
  ·cases e
 ·cases e
end ops
section ops
variable {P : Program} {ρ : aq} {s : S} {w : World} {t : T V} {tm : Array Value}
theorem eh (l : List Nat) : (ar l).size = l.length := by simp [ar, ByteArray.size]
theorem oo (l : List Nat) : aY ρ (l.map mG) = some ((ar l).data.toList.map fun b => Value.int .u8 b.toNat) := by
 have : (ar l).data.toList = l.map UInt8.ofNat := by simp [ar]
 rw [this]
 induction l with
 | nil => rfl
 | cons c l ih =>
  have ih' := ih (by simp [ar])
  refine aW.2 ⟨_, _, rfl, ih', ?_⟩
  simp [UInt8.toNat_ofNat']
  rfl
theorem oR : ∀ {cs : List V} {l : List Nat}, lw cs = some l → aY ρ cs = some ((l.map Int.ofNat).map (Value.int .u8))
 | [], l, h => by cases h; rfl
 | v :: r, l, h => by
  unfold lw at h
  split at h
  ·cases ‹v :: r = []›
  ·rename_i n r' he
   cases he
   cases hb : lw r with
   | none => simp [hb] at h
   | some q =>
    simp [hb] at h
    subst h
    exact aW.2 ⟨_, _, rfl, oR hb, rfl⟩
  ·cases h
theorem Cu : ∀ (l : List Nat) (r : ByteArray), (l.map Int.ofNat).foldl (fun r n => r.push (UInt8.ofNat n.toNat)) r = ⟨r.data ++ (l.map UInt8.ofNat).toArray⟩
 | [], r => by simp
 | c :: l, r => by
  simp only [List.map_cons, List.foldl_cons]
  rw [Cu l]
  simp [ByteArray.push]
theorem jl {el : TypeId} (h : fE P el = true) : P.underlying el = some (.int .u8) := by
 unfold fE at h
 split at h
 ·assumption
 ·cases h
theorem nq {a : Ad} {n : Nat} {l : List V} (h : HR ρ s w) (e : loadCells s a n = some l) : ∃ lo ys, ρ a.f a.v = some lo ∧ lo.base ≤ a.c ∧ aY ρ l = some ys ∧ ys.length = n ∧
 (Go.loadCells ⟨lo.b, a.c - lo.base, none⟩ n).run P w = .ok ys.toArray w := by
 obtain ⟨ad, ys, h1, h2, h3, h4⟩ := iT h e
 obtain ⟨lo, g1, g2, rfl⟩ := qK h1
 have := run_loadCells_list (P := P) (w := w) _ ys h4
 rw [h3] at this
 exact ⟨lo, ys, g1, g2, h2, h3, this⟩
theorem si (h : HR ρ s w) {src dst : TypeId} {ds : TypeDesc} (hs : P.underlying src = some ds) (hd : P.underlying dst = some .string) {x : V} {X : Value} (hx : den ρ x = some X) {v : V} {s' : S} (e : xK P s ds x = some (v, s')) :
 s' = s ∧ ∃ y, den ρ v = some y ∧ (convert src dst X).run P w = .ok y w := by
 unfold xK at e
 split at e
 ·rename_i k n
  cases e; cases hx
  refine ⟨rfl, .string (Utf8.encode n), ?_, ?_⟩
  ·simp only [den]; rw [sV]
  ·cases ds <;> simp [convert, aj hs, aj hd, Conv.intToString]
 ·cases e; cases hx
  refine ⟨rfl, _, rfl, ?_⟩
  cases ds <;> simp [convert, aj hs, aj hd]
 ·split at e
  ·rename_i el
   cases hb : fE P el with
   | false => rw [hb] at e; cases e
   | true =>
    rw [hb] at e
    cases e; cases hx
    refine ⟨rfl, .string .empty, rfl, ?_⟩
    simp [convert, aj hs, aj hd, aj (jl hb), Conv.bytesToString]
  ·cases e
 ·rename_i a z n cap sz
  split at e
  ·rename_i el
   cases hb : fE P el with
   | false => rw [hb] at e; cases e
   | true =>
    rw [hb] at e
    simp only [cond_true] at e
    cases hz0 : Nat.beq sz 0 with
    | true => rw [hz0] at e; cases e
    | false =>
    rw [hz0] at e
    simp only [cond_false] at e
    split at e
    ·rename_i l hl
     cases e
     obtain ⟨lo, g1, g2, g3, g4, g5, rfl⟩ := fy hx (.inl (Hr hz0))
     cases hlc : loadCells s a n with
     | none => simp [hlc] at hl
     | some cs =>
      simp only [hlc, Option.bind_some] at hl
      obtain ⟨lo', ys, k1, k2, k3, k4, k5⟩ := nq (P := P) h hlc
      rw [g1] at k1; cases k1
      have hys := oR (ρ := ρ) hl
      rw [k3] at hys; cases hys
      have hload : (Go.loadCells ⟨lo.b, bm lo a z cap sz - lo.base, none⟩ n).run P w = .ok ((l.map Int.ofNat).map (Value.int .u8)).toArray w := by
       rcases Nat.eq_zero_or_pos n with h0 | h0
       ·subst h0
        have : l = [] := by simpa using k4
        subst this
        exact run_loadCells_list (P := P) (w := w) _ [] (fun j v h => by simp at h)
       ·rw [eD g4 h0]; exact k5
      refine ⟨rfl, .string (ar l), rfl, ?_⟩
      rw [run_convert_bytes_string w src dst el _ _ _ hs (jl hb) hd, run_bytesToString w _ _ _ _ hload, Cu]
      congr 2
      apply ByteArray.ext
      simp [ar]
    ·cases e
  ·cases e
 ·cases e
theorem wM (h : HR ρ s w) {src dst el : TypeId} {ds : TypeDesc} (hs : P.underlying src = some ds) (hd : P.underlying dst = some (.slice el)) {x : V} {X : Value} (hx : den ρ x = some X) {v : V} {s' : S} (e : nV P s ds el x = some (v, s')) :
 ∃ ρ' y w', (convert src dst X).run P w = .ok y w' ∧ den ρ' v = some y ∧ HR ρ' s' w' ∧ FR ρ w ρ' w' := by
 unfold nV at e
 split at e
 ·rename_i l
  split at e
  ·cases hb : fE P el with
   | false => rw [hb] at e; cases e
   | true =>
    rw [hb] at e
    simp only [cond_true] at e
    simp only [bV] at e
    cases e; cases hx
    have hrun := run_bytes_of_string w src dst el (ar l) hs hd (jl hb)
    rw [eh] at hrun
    have hge := grownCap_ge w l.length 0 el
    generalize hc : grownCap w l.length 0 el = cap at *
    have hsz : (bytesRow (ar l) cap).size = cap := by
     simp only [bytesRow, Array.size_append, Array.size_map, Array.size_replicate, eh]
     have : (ar l).data.size = l.length := eh l
     omega
    rw [hsz] at hrun
    have hd' : aY ρ (l.map mG) = some ((bytesRow (ar l) cap).toList.take (l.map mG).length) := by
     rw [oo]
     have : (ar l).data.toList.length = l.length := by simp [ar]
     simp [bytesRow, this]
    obtain ⟨ρ', h1, h2, h3⟩ := gM (h.drawn (w.drawn + 1)) true el el (cs := l.map mG) (ys := bytesRow (ar l) cap) hd' (cap, cap + 1) ⟨(fun h => by cases h), fun i hi => by rw [hsz] at hi; simp; omega⟩
    refine ⟨ρ', _, _, hrun, ?_, h2, (FR.drawn w (w.drawn + 1)).trans h3⟩
    have := dN (a := ⟨s.next, 0, 0⟩) (z := 0) (len := l.length) (cap := none) (sz := 1) h1 (by simp) (Nat.zero_le _) (by show l.length ≤ (Array.size _ - 0) / 1; rw [hsz]; simpa using hge) Nat.one_pos
    rw [this]
    simp only [cC, bm, hsz]
    simp
  ·cases e
 ·cases e
theorem AL (h : HR ρ s w) (ht : TR ρ t tm) {src dst : TypeId} {x : Operand} {nx : Nx} (e : fp P s src dst (eval t x) = some nx) :
 Bs P ρ w nx ((do pure (Next.value (← convert src dst (rv tm x))) : Sem Next).run P w) := by
 unfold fp at e
 split at e
 ·rename_i v hv
  have dv := am ht hv
  generalize rv tm x = X at *
  unfold ff at e
  split at e
  ·rename_i y s' hc
   cases e
   unfold iN at hc
   split at hc
   ·rename_i ds hs
    split at hc
    ·rename_i k hd
     split at hc
     ·rename_i j n
      cases hc; cases dv
      refine ⟨ρ, .int k (k.wrap n), w, ?_, by rw [aS]; rfl, h, FR.refl ρ w⟩
      have : (convert src dst (.int j n)).run P w = .ok (.int k (k.wrap n)) w := by
       cases ds <;> simp [convert, aj hs, aj hd, Conv.intToInt]
      simp [this]
     ·cases hc
    ·rename_i hd
     obtain ⟨rfl, y', h1, h2⟩ := si h hs hd dv hc
     exact ⟨ρ, y', w, by simp [h2], h1, h, FR.refl ρ w⟩
    ·rename_i el hd
     obtain ⟨ρ', y', w', h1, h2, h3, h4⟩ := wM h hs hd dv hc
     exact ⟨ρ', y', w', by simp [h1], h2, h3, h4⟩
    ·cases hc
   ·cases hc
  ·cases e
 ·cases e
end ops
section ops
variable {P : Program} {ρ : aq} {s : S} {w : World} {t : T V} {tm : Array Value}
theorem Fd {t : TypeId} (h : noInt P t = true) : ∃ d, P.underlying t = some d ∧ ∀ k, d ≠ .int k := by
 unfold noInt at h
 split at h
 ·cases h
 ·rename_i d h1 h2; exact ⟨d, h2, fun k e => h1 k (by rw [← e])⟩
 ·cases h
theorem kM {ts : Array TypeId} {ty sT xT elem : TypeId} {d : TypeDesc} {n sz sLen sCap : Nat} {base : Option Addr} {Y : Value} (h0 : ts[0]? = some sT) (h1 : ts[1]? = some xT)
 (hs : P.underlying sT = some (.slice elem)) (hx : P.underlying xT = some d) (hd : ∀ k, d ≠ .int k) (hz : size P elem = some sz) (hl : (Builtin.lenOf Y).run P w = .ok n w)
 (hroom : sLen + n ≤ sCap) {news : Array Value} (hf : (Builtin.firstCells sz n Y).run P w = .ok news w) :
 (Builtin.append_ ts ty #[.slice base sLen sCap, Y]).run P w = (match base with
  | some a => ((Go.storeCells (a.add (sLen * sz)) news.toList).run P w).andThen fun _ w => .ok (.slice base (sLen + n) sCap) w
  | none => .ok (.slice base (sLen + n) sCap) w) := by
 have hm : (match (generalizing := false) d with | .int _ => true | _ => false) = false := by cases d <;> first | rfl | exact absurd rfl (hd _)
 cases base <;> simp [Builtin.append_, h0, h1, aj hs, cI hz, aj hx, hl, hroom, hf]
theorem next_le (need old : Nat) (h : old < need) : Builtin.nextslicecap need old ≤ 2 * need + 1000 := by
 have g : ∀ (r c : Nat), c ≤ 2 * need + 500 → Builtin.growBy need r c ≤ 2 * need + 1000 := by
  intro r
  induction r with
  | zero => intro c hc; simp [Builtin.growBy]; omega
  | succ r ih =>
   intro c hc
   simp only [Builtin.growBy]
   split
   ·omega
   ·exact ih _ (by omega)
 unfold Builtin.nextslicecap
 split
 ·omega
 ·split
  ·omega
  ·exact g 4 old (by omega)
theorem nO {ts : Array TypeId} {ty sT xT elem : TypeId} {d : TypeDesc} {n sz sLen sCap : Nat} {base : Option Addr} {Y : Value} (h0 : ts[0]? = some sT) (h1 : ts[1]? = some xT)
 (hs : P.underlying sT = some (.slice elem)) (hx : P.underlying xT = some d) (hd : ∀ k, d ≠ .int k) (hz : size P elem = some sz) {i : TypeInfo} (hi : P.info? elem = some i) {z : Value} (hzi : i.zero = some z)
 (hl : (Builtin.lenOf Y).run P w = .ok n w) (hroom : sCap < sLen + n) (hn : sLen + n ≤ 2000000) (hb : i.bytes * 10000000 ≤ 100000000000000) {olds news : Array Value}
 (ho : (Builtin.firstCells sz sLen (.slice base sLen sCap)).run P w.drew = .ok olds w.drew) (hf : (Builtin.firstCells sz n Y).run P w.drew = .ok news w.drew) :
 (Builtin.append_ ts ty #[.slice base sLen sCap, Y]).run P w = .ok (.slice (some ⟨w.heap.size, 0, none⟩) (sLen + n) (grownCap w (sLen + n) sCap elem))
  (w.drew.alloc (.cells (olds ++ news ++ Builtin.zeroCells z.cells (grownCap w (sLen + n) sCap elem - (sLen + n))) elem)) := by
 have hno : ¬ (sLen + n ≤ sCap) := by omega
 have h63 : ¬ (9223372036854775807 < ((sLen : Int) + (n : Int))) := by omega
 have h48 : ¬ (281474976710656 < Builtin.nextslicecap (sLen + n) sCap * i.bytes) := by
  have h1 := next_le (sLen + n) sCap hroom
  have h2 : Builtin.nextslicecap (sLen + n) sCap ≤ 10000000 := by omega
  have h3 : Builtin.nextslicecap (sLen + n) sCap * i.bytes ≤ 10000000 * i.bytes := Nat.mul_le_mul_right _ h2
  rw [Nat.mul_comm 10000000] at h3
  generalize Builtin.nextslicecap (sLen + n) sCap * i.bytes = q at *
  generalize i.bytes * 10000000 = q' at *
  omega
 have hti : ∀ w, (typeInfo elem).run P w = .ok i w := fun w => by simp [typeInfo, hi]
 have hzr : ∀ w, (zeroValue elem).run P w = .ok z w := fun w => fQ hi hzi w
 have hm : (match (generalizing := false) d with | .int _ => true | _ => false) = false := by cases d <;> first | rfl | exact absurd rfl (hd _)
 simp [Builtin.append_, h0, h1, aj hs, cI hz, aj hx, hl, hno, hti, hzr, h63, h48, Question.forced, ho, hf, newRow, grownCap]
theorem gW (h : HR ρ s w) {sz n : Nat} {y : V} {Y : Value} {l : List V} (hy : den ρ y = some Y) (e : lz s sz y = some (l, n)) :
 ∃ ys, aY ρ l = some ys ∧ ys.length = n * sz ∧ (Builtin.lenOf Y).run P w = .ok n w ∧ (Builtin.firstCells sz n Y).run P w = .ok ys.toArray w := by
 unfold lz at e
 split at e
 ·cases e; cases hy
  exact ⟨[], rfl, by simp, rfl, rfl⟩
 ·rename_i b z m cap sz'
  cases hz0 : Nat.beq sz' 0 with
  | true => rw [hz0] at e; cases e
  | false =>
  rw [hz0] at e
  simp only [cond_false] at e
  cases hb : Nat.beq sz sz' with
  | false => rw [hb] at e; cases e
  | true =>
   rw [hb] at e
   obtain rfl := Nat.eq_of_beq_eq_true hb
   simp only [cond_true] at e
   split at e
   ·rename_i l' hl
    cases e
    obtain ⟨lo, g1, g2, g3, g4, g5, rfl⟩ := fy hy (.inl (Hr hz0))
    obtain ⟨lo', ys, k1, k2, k3, k4, k5⟩ := nq (P := P) h hl
    rw [g1] at k1; cases k1
    refine ⟨ys, k3, k4, rfl, ?_⟩
    rcases Nat.eq_zero_or_pos n with h0 | h0
    ·subst h0
     have : ys = [] := by simpa using k4
     subst this
     have := run_loadCells_list (P := P) (w := w) ⟨lo.b, bm lo b z cap sz - lo.base, none⟩ [] (fun j v h => by simp at h)
     simp only [Builtin.firstCells, Nat.zero_mul]
     exact this
    ·rw [eD g4 h0]; exact k5
   ·cases e
 ·rename_i l'
  cases hb : Nat.beq sz 1 with
  | false => rw [hb] at e; cases e
  | true =>
   rw [hb] at e
   obtain rfl := Nat.eq_of_beq_eq_true hb
   cases e; cases hy
   refine ⟨_, oo l', by simp [ar], by simp [Builtin.lenOf, eh], ?_⟩
   have : (ar l').extract 0 l'.length = ar l' := by rw [kU]; simp
   have e2 : Array.map (fun b => Value.int IntKind.u8 (b.toNat : Int)) (ar l').data = ((ar l').data.toList.map fun b => Value.int .u8 (b.toNat : Int)).toArray := by simp [← Array.toList_inj]
   simp only [Builtin.firstCells, this, Sem.run_pure, e2]
 ·cases e
end ops
section ops
variable {P : Program} {ρ : aq} {s : S} {w : World} {t : T V} {tm : Array Value}
theorem HR.grow {w' : World} (h : HR ρ s w) {f nv v0 : Nat} {l l0 : wF} (h0 : ρ f v0 = some l0) (hnv : ρ f nv = none)
 (hin : ∀ g v x, ρ g v = some x → x.b = l.b → g = f ∧ x.base = l.base) (hlow : l.b < w'.heap.size) (hsize : w.heap.size ≤ w'.heap.size)
 (hos : w'.os = w.os) (htape : w'.tape = w.tape) (hout : w'.output = w.output)
 (hoth : ∀ k, k < w.heap.size → k ≠ l.b → w'.heap[k]? = w.heap[k]?) (hnew : l.b < w.heap.size → ∃ g v x, ρ g v = some x ∧ x.b = l.b ∧ ¬ x.ro) (hnl : ¬ l.ro) (hrw : ∀ v l, ρ f v = some l → ¬ l.ro)
 {B : bP} (hB : wC (ρ.put f nv l) w' f B) : HR (ρ.put f nv l) (s.put f B) w' ∧ FR ρ w (ρ.put f nv l) w' := by
 have hf : f < s.next := Nat.lt_of_not_le fun hc => by have := h.fresh f v0 hc; rw [h0] at this; cases this
 refine ⟨⟨?_, ?_, ?_, ?_, ?_, ?_⟩, ⟨aq.le_put _ hnv, hsize, hos, htape, hout, ?_, ?_⟩⟩
 ·intro g v hg
  rw [S.next_put] at hg
  unfold aq.put
  rw [if_neg (by omega)]
  exact h.fresh g v hg
 ·intro g v x g' v' x' e e' hb
  rcases aq.of_put e with ⟨rfl, rfl, rfl⟩ | d
  ·rcases aq.of_put e' with ⟨rfl, rfl, rfl⟩ | d'
   ·exact ⟨rfl, rfl⟩
   ·obtain ⟨q1, q2⟩ := hin _ _ _ d' hb.symm
    exact ⟨q1.symm, q2.symm⟩
  ·rcases aq.of_put e' with ⟨rfl, rfl, rfl⟩ | d'
   ·exact hin _ _ _ d hb
   ·exact h.inj _ _ _ _ _ _ d d' hb
 ·intro g v x e
  rcases aq.of_put e with ⟨rfl, rfl, rfl⟩ | e
  ·exact hlow
  ·exact Nat.lt_of_lt_of_le (h.low _ _ _ e) hsize
 ·intro g B' hg
  rw [S.get_put] at hg
  split at hg
  ·rename_i e; cases hg; subst e; exact hB
  ·rename_i hne
   refine (h.blk g B' hg).keep (aq.le_put _ hnv) (fun v hv => ?_) (fun v x hx => hoth _ (h.low _ _ _ hx) fun e => hne (hin _ _ _ hx e).1.symm)
   unfold aq.put; rw [if_neg (by omega)]; exact hv
 ·intro g B' hg
  rw [S.get_put] at hg
  rw [S.next_put]
  split at hg
  ·rename_i e; subst e; exact hf
  ·exact h.dom g B' hg
 ·intro g B' hg hnr v x hx
  rw [S.get_put] at hg
  rcases aq.of_put hx with ⟨rfl, rfl, rfl⟩ | hx
  ·exact hnl
  ·split at hg
   ·rename_i e; subst e; exact hrw v x hx
   ·exact h.rw g B' hg hnr v x hx
 ·intro b hb hn
  refine hoth b hb fun e => ?_
  subst e
  obtain ⟨g, v, x, q1, q2, q3⟩ := hnew hb
  exact hn g v x q1 q3 q2
 ·intro g v x e hl
  rcases aq.of_put e with ⟨rfl, rfl, rfl⟩ | e
  ·obtain ⟨g, v, y, q1, q2, q3⟩ := hnew hl
   exact ⟨g, v, y, q1, q2, fun q => absurd q q3⟩
  ·exact ⟨g, v, x, e, rfl, id⟩
theorem FR.drew (ρ : aq) (w : World) : FR ρ w ρ w.drew := FR.drawn w _
theorem HR.drew (h : HR ρ s w) : HR ρ s w.drew := h.drawn _
theorem oI (h : HR ρ s w) {elem : TypeId} {cs : List V} {ys : List Value} (hd : aY ρ cs = some ys) {len sz cap : Nat} (hl : len ≤ cap) (hsz : 0 < sz) (hlen : ys.length = len * sz) {rest : Array Value} (hr : rest.size = (cap - len) * sz)
 {v : V} {s' : S} (e : qx s elem cs len sz = (v, s')) :
 ∃ ρ', den ρ' v = some (.slice (some ⟨w.heap.size, 0, none⟩) len cap) ∧ HR ρ' s' (w.alloc (.cells (ys.toArray ++ rest) elem)) ∧ FR ρ w ρ' (w.alloc (.cells (ys.toArray ++ rest) elem)) := by
 simp only [qx, bS] at e
 have hsize : (ys.toArray ++ rest).size = cap * sz := by
  rw [Array.size_append, hr]
  have : ys.toArray.size = len * sz := by simpa using hlen
  rw [this, ← Nat.add_mul]; congr 1; omega
 have hlc := bG hd
 obtain ⟨ρ', h1, h2, h3⟩ := gM h false elem elem (cs := cs) (ys := ys.toArray ++ rest) (by
  rw [hd]; congr 1
  simp [← hlc]) (0, 0) ⟨fun _ => rfl, by simp⟩
 simp only [bV] at e h2
 cases e
 refine ⟨ρ', ?_, h2, h3⟩
 rw [hsize] at h1
 have hq : cap * sz / sz = cap := Nat.mul_div_cancel _ hsz
 rw [dN (a := ⟨s.next, 0, 0⟩) (z := 0) (cap := none) h1 (by simp [bm]) (Nat.zero_le _) (by show len ≤ (cap * sz - 0) / sz; rw [Nat.sub_zero, hq]; exact hl) hsz]
 simp only [cC, bm]
 simp [Nat.sub_zero, hq]
theorem jy (z : Array Value) (n : Nat) : (Builtin.zeroCells z n).size = n * z.size := by simp [Builtin.zeroCells]
theorem ui {a : Ad} {e : TypeId} {sb : Bool} {nv : Nat} {vers : List mH} {u : mH} {n : Nat} {old : List V} (hg : s.get a.f = some (.cells e sb nv vers)) (hu : bg vers a.v = some u) (hb : Nat.ble u.lo a.c = true)
 (ho : aO n (u.cells.drop (a.c - u.lo)) = some old) : loadCells s a n = some old := by
 unfold loadCells
 rw [hg]
 simp only [hu, hb, cond_true, ho]
theorem sM {elem : TypeId} {sz : Nat} (h : rR P elem sz = true) : ∃ z i, P.info? elem = some i ∧ i.zero = some z ∧ z.cells.size = sz ∧ 0 < sz ∧ i.bytes * 10000000 ≤ 100000000000000 := by
 unfold rR at h
 split at h
 ·rename_i zv hz
  simp only [Bool.and_eq_true] at h
  obtain ⟨z, i, hi, hzi, hd⟩ := eM hz
  refine ⟨z, i, hi, hzi, ?_, kY h.1.2, ?_⟩
  ·rw [mn (hd fun _ _ => none)]; exact Nat.eq_of_beq_eq_true h.1.1
  ·have := h.2
   unfold mX at this
   rw [hi] at this
   exact Nat.le_of_ble_eq_true this
 ·cases h
theorem CV (h : HR ρ s w) {ts : Array TypeId} {ty sT xT elem : TypeId} {d : TypeDesc} {n sz len z : Nat} {a : Ad} {cap : Option Nat} {y : V} {Xv Yv : Value} {l : List V} (h0 : ts[0]? = some sT) (h1 : ts[1]? = some xT)
 (hs : P.underlying sT = some (.slice elem)) (hx : P.underlying xT = some d) (hd : ∀ k, d ≠ .int k) (hz : size P elem = some sz) (hok : rR P elem sz = true)
 (hX : den ρ (.slice a z len cap sz) = some Xv) (hY : den ρ y = some Yv) (ha : lz s sz y = some (l, n)) (hn : n ≤ 1000000) (hlen : len ≤ 1000000) (hn0 : n ≠ 0) {v : V} {s' : S} (e : yp s elem a z len cap sz l n = some (v, s')) :
 ∃ ρ' r w', (Builtin.append_ ts ty #[Xv, Yv]).run P w = .ok r w' ∧ den ρ' v = some r ∧ HR ρ' s' w' ∧ FR ρ w ρ' w' := by
 obtain ⟨zv, i, hi, hzi, hzs, hsz0, hbytes⟩ := sM hok
 obtain ⟨lo, g1, g2, g3, g4, g5, rfl⟩ := fy hX (.inl (by omega))
 obtain ⟨ys, y1, y2, y3, y4⟩ := gW (P := P) h hY ha
 obtain ⟨ys', y1', y2', y3', y4'⟩ := gW (P := P) h.drew hY ha
 rw [y1] at y1'; cases y1'
 unfold yp at e
 split at e
 ·rename_i el sb nv vers hg
  split at e
  ·rename_i u hu
   cases hb : Nat.ble u.lo a.c with
   | false => rw [hb] at e; cases e
   | true =>
   rw [hb] at e
   simp only [cond_true] at e
   split at e
   ·rename_i old ho
    have hload := ui hg hu hb ho
    obtain ⟨lo', os, k1, k2, k3, k4, k5⟩ := nq (P := P) h hload
    obtain ⟨lo'', os', k1', k2', k3', k4', k5'⟩ := nq (P := P) h.drew hload
    rw [k3] at k3'; cases k3'
    rw [g1] at k1 k1'; cases k1; cases k1'
    have hcoord : 0 < len → bm lo a z cap sz = a.c := eD g4
    have hold : (Builtin.firstCells sz len (.slice (some ⟨lo.b, bm lo a z cap sz - lo.base, none⟩) len (cC lo a cap sz))).run P w.drew = .ok os.toArray w.drew := by
     rcases Nat.eq_zero_or_pos len with q | q
     ·subst q
      have : os = [] := by simpa using k4
      subst this
      have := run_loadCells_list (P := P) (w := w.drew) ⟨lo.b, bm lo a z cap sz - lo.base, none⟩ [] (fun j v h => by simp at h)
      simp only [Builtin.firstCells, Nat.zero_mul]
      exact this
     ·rw [hcoord q]; exact k5'
    have hall := dK k3 y1
    have hallLen : (os ++ ys).length = (len + n) * sz := by rw [List.length_append, k4, y2, Nat.add_mul]
    have fresh : cC lo a cap sz < len + n → ∀ v s', qx s elem (old ++ l) (len + n) sz = (v, s') →
     ∃ ρ' r w', (Builtin.append_ ts ty #[.slice (some ⟨lo.b, bm lo a z cap sz - lo.base, none⟩) len (cC lo a cap sz), Yv]).run P w = .ok r w' ∧ den ρ' v = some r ∧ HR ρ' s' w' ∧ FR ρ w ρ' w' := by
     intro hlt v s' e
     have hrun := nO (ty := ty) h0 h1 hs hx hd hz hi hzi y3 hlt (by omega) hbytes hold y4'
     obtain ⟨ρ', j1, j2, j3⟩ := oI h.drew (elem := elem) hall (grownCap_ge w (len + n) (cC lo a cap sz) elem) hsz0 hallLen (rest := Builtin.zeroCells zv.cells (grownCap w (len + n) (cC lo a cap sz) elem - (len + n))) (by rw [jy, hzs]) e
     refine ⟨ρ', _, _, hrun, j1, ?_, (FR.drew ρ w).trans ?_⟩
     ·simpa using j2
     ·simpa using j3
    split at e
    ·
     rename_i c
     unfold HH at e
     cases hc : Nat.ble (len + n) c with
     | false =>
      rw [hc] at e
      simp only [cond_false, Option.some.injEq] at e
      refine fresh ?_ _ _ e
      show c < len + n
      exact Nat.lt_of_not_le fun q => by rw [Nat.ble_eq_true_of_le q] at hc; cases hc
     | true =>
      rw [hc] at e
      simp only [cond_true] at e
      have hle := Nat.le_of_ble_eq_true hc
      split at e
      ·rename_i s1 hst
       cases e
       obtain ⟨ad, w', q1, q2, q3, q4⟩ := ii P h hst y1
       have hrun := kM (ty := ty) (w := w) (base := some ⟨lo.b, a.c - lo.base, none⟩) h0 h1 hs hx hd hz y3 hle y4
       have had : ad = (⟨lo.b, a.c - lo.base, none⟩ : Addr).add (len * sz) := by
        have := qL (ρ := ρ) (len * sz) (qJ g1 g3)
        rw [this] at q1; exact (Option.some.inj q1).symm
       simp only [← had, q2, Result.andThen_ok] at hrun
       refine ⟨ρ, _, w', hrun, ?_, q3, q4⟩
       exact dN g1 g3 g3 hle g5
      ·cases e
    ·
     cases ha1 : l.all V.one with
     | false => rw [ha1] at e; cases e
     | true =>
     rw [ha1] at e
     simp only [cond_true, Option.some.injEq] at e
     unfold vD at e
     cases e
     obtain ⟨vr, hmem, hv⟩ := h.ver hg hu
     obtain ⟨lv, c, el', fz, r1, r2, r3, r4, r5, r6⟩ := vr
     rw [hv, g1] at r1; cases r1
     have hB := h.blk _ _ hg
     have hnv : ρ a.f nv = none := hB.1 nv (Nat.le_refl _)
     have hcells : ∀ (j : Nat) (q : Value), os[j]? = some q → c[a.c - lo.base + j]? = some q := by
      obtain ⟨ad, os2, t1, t2, t3, t4⟩ := iT h hload
      rw [k3] at t2; cases t2
      rw [qJ g1 g3] at t1; cases t1
      intro j q hq
      have := t4 j q hq
      rw [jY] at this
      simpa [World.cell?, r2] using this
     rcases Nat.lt_or_ge (cC lo a none sz) (len + n) with hlt | hge
     ·
      have hrun := nO (ty := ty) h0 h1 hs hx hd hz hi hzi y3 hlt (by omega) hbytes hold y4'
      generalize hcap : grownCap w (len + n) (cC lo a none sz) elem = newCap at hrun
      have hcge : len + n ≤ newCap := by rw [← hcap]; exact grownCap_ge w _ _ _
      have hsize : (os.toArray ++ ys.toArray ++ Builtin.zeroCells zv.cells (newCap - (len + n))).size = newCap * sz := by
       rw [Array.size_append, jy, hzs, Array.size_append, List.size_toArray, List.size_toArray, ← List.length_append, hallLen, ← Nat.add_mul]
       congr 1; omega
      have hq : newCap * sz / sz = newCap := Nat.mul_div_cancel _ hsz0
      have hheap : ∀ k, k < w.heap.size → (w.drew.alloc (.cells (os.toArray ++ ys.toArray ++ Builtin.zeroCells zv.cells (newCap - (len + n))) elem)).heap[k]? = w.heap[k]? := fun k hk => ix w.drew _ hk
      obtain ⟨j1, j2⟩ := h.grow (w' := w.drew.alloc (.cells (os.toArray ++ ys.toArray ++ Builtin.zeroCells zv.cells (newCap - (len + n))) elem)) (f := a.f) (nv := nv) (l := ⟨w.heap.size, a.c, a.c + newCap * sz⟩) g1 hnv
       (fun g v x hx hb => by have := h.low _ _ _ hx; simp only at hb; omega) (by simp) (by simp) rfl rfl rfl
       (fun k hk _ => hheap k hk) (fun hb => by simp at hb) (by show ¬ (a.c + newCap * sz < a.c); omega) (fun v x hx => h.rw _ _ hg (fun _ h => by cases h) v x hx)
       (B := .cells el sb (nv + 1) (⟨nv, a.c, old ++ l⟩ :: vers.filter fun u => Nat.ble (u.lo + u.cells.length) (a.c + len * sz))) (by
        refine ⟨fun v hv => ?_, fun u' hu' => ?_⟩
        ·unfold aq.put; rw [if_neg (by omega)]; exact hB.1 v (by omega)
        ·rcases List.mem_cons.1 hu' with rfl | hu'
         ·refine ⟨Nat.lt_succ_self _, ⟨w.heap.size, a.c, a.c + newCap * sz⟩, _, elem, (0, 0), aq.put_same _ _ _ _, ez w.drew _, Nat.le_refl _, by rw [hsize], ⟨fun _ => rfl, by simp⟩, fun i x hxi => ?_⟩
          obtain ⟨q, q1, q2⟩ := eC i hall hxi
          refine ⟨q, bA (aq.le_put _ hnv) _ _ q1, ?_⟩
          have hi2 : i < (os ++ ys).length := (List.getElem?_eq_some_iff.1 q2).1
          simp only [Nat.sub_self, Nat.zero_add]
          rw [← Array.getElem?_toList, Array.toList_append, Array.toList_append]
          rw [List.getElem?_append_left (by simpa using hi2)]
          exact q2
         ·have hu2 := (List.mem_filter.1 hu').1
          obtain ⟨p1, p2⟩ := hB.2 u' hu2
          exact ⟨by omega, (p2.of_heap fun l' hl' => hheap _ (h.low _ _ _ hl')).mono (aq.le_put _ hnv)⟩)
      refine ⟨_, _, _, hrun, ?_, j1, j2⟩
      have hcp : cC ⟨w.heap.size, a.c, a.c + newCap * sz⟩ ⟨a.f, nv, a.c⟩ none sz = newCap := by simp [cC, hq]
      have hco : bm ⟨w.heap.size, a.c, a.c + newCap * sz⟩ ⟨a.f, nv, a.c⟩ z none sz = a.c := eD (len := len + n) (by rw [hcp]; exact hcge) (by omega)
      rw [dN (a := ⟨a.f, nv, a.c⟩) (z := z) (len := len + n) (cap := none) (l := ⟨w.heap.size, a.c, a.c + newCap * sz⟩) (aq.put_same _ _ _ _) (by rw [hco]; exact Nat.le_refl _) (Nat.le_refl _) (by rw [hcp]; exact hcge) g5, hco, hcp]
      simp
     ·
      have hroom := hge
      have hcoord' : bm lo a z none sz = a.c := eD (len := len + n) hge (by omega)
      have hrun := kM (ty := ty) (w := w) (base := some ⟨lo.b, a.c - lo.base, none⟩) h0 h1 hs hx hd hz y3 hroom y4
      have hfit : a.c - lo.base + len * sz + 0 + ys.length ≤ c.size := by
       have t1 : (len + n) * sz ≤ (lo.lim - a.c) / sz * sz := Nat.mul_le_mul_right _ hge
       have t2 := Nat.div_mul_le_self (lo.lim - a.c) sz
       have t3 : 1 * sz ≤ (len + n) * sz := Nat.mul_le_mul_right _ (by omega)
       rw [y2]
       rw [Nat.add_mul] at t1 t3
       omega
      have hone : ∀ q ∈ ys, q.oneCell' = true := fun q hq => by
       obtain ⟨j, hj⟩ := List.getElem?_of_mem hq
       have hyl := bG y1
       have hj2 : j < l.length := by have := (List.getElem?_eq_some_iff.1 hj).1; omega
       obtain ⟨q', t1, t2⟩ := eC j y1 (List.getElem?_eq_getElem hj2)
       rw [hj] at t2; cases t2
       exact uO t1 (List.all_eq_true.1 ha1 _ (List.getElem_mem hj2))
      obtain ⟨w', c', p1, p2, p3, p4, p5⟩ := xN P lo.b (a.c - lo.base + len * sz) el' fz ys 0 c w r2 r5.2 hfit hone
      simp only [jY, p1, Result.andThen_ok] at hrun
      rw [← hcoord'] at hrun
      have hin : ∀ g v x, ρ g v = some x → x.b = lo.b → g = a.f ∧ x.base = lo.base := fun g v x hx hb => h.inj _ _ _ _ _ _ hx g1 hb
      obtain ⟨j1, j2⟩ := h.grow (w' := w') (f := a.f) (nv := nv) (l := lo) g1 hnv hin (by rw [p2.size]; exact h.low _ _ _ g1) (by rw [p2.size]; exact Nat.le_refl _) p2.os p2.tape p2.output
       (fun k _ hk => p2.other k hk) (fun _ => ⟨_, _, _, g1, rfl, h.rw _ _ hg (fun _ h => by cases h) _ _ g1⟩) (h.rw _ _ hg (fun _ h => by cases h) _ _ g1) (fun v x hx => h.rw _ _ hg (fun _ h => by cases h) v x hx)
       (B := .cells el sb (nv + 1) (⟨nv, a.c, old ++ l⟩ :: vers.filter fun u => Nat.ble (u.lo + u.cells.length) (a.c + len * sz))) (by
        refine ⟨fun v hv => ?_, fun u' hu' => ?_⟩
        ·unfold aq.put; rw [if_neg (by omega)]; exact hB.1 v (by omega)
        ·rcases List.mem_cons.1 hu' with rfl | hu'
         ·refine ⟨Nat.lt_succ_self _, lo, c', el', fz, aq.put_same _ _ _ _, p3, g3, by rw [p4]; exact r4, by rw [p4]; exact r5, fun i x hxi => ?_⟩
          obtain ⟨q, q1, q2⟩ := eC i hall hxi
          refine ⟨q, bA (aq.le_put _ hnv) _ _ q1, ?_⟩
          rw [p5]
          have hi2 : i < (os ++ ys).length := (List.getElem?_eq_some_iff.1 q2).1
          rw [List.length_append, k4] at hi2
          simp only
          by_cases hi3 : i < len * sz
          ·rw [if_neg (by omega)]
           rw [List.getElem?_append_left (by omega)] at q2
           exact hcells i q q2
          ·rw [if_pos (by omega)]
           rw [List.getElem?_append_right (by omega), k4] at q2
           rw [← q2]; congr 1; omega
         ·have hu2 := (List.mem_filter.1 hu').1
          have hu3 := Nat.le_of_ble_eq_true (List.mem_filter.1 hu').2
          obtain ⟨s1, l', c2, e2, f2, t1, t2, t3, t4, t5, t6⟩ := hB.2 u' hu2
          refine ⟨by omega, ?_⟩
          by_cases hbl : l'.b = lo.b
          ·obtain ⟨_, hbase⟩ := hin _ _ _ t1 hbl
           rw [hbl, r2] at t2; cases t2
           refine ⟨l', c', el', fz, aq.le_put _ hnv _ _ _ t1, by rw [hbl]; exact p3, t3, by rw [p4]; exact t4, by rw [p4]; exact t5, fun i x hxi => ?_⟩
           obtain ⟨q, q1, q2⟩ := t6 i x hxi
           refine ⟨q, bA (aq.le_put _ hnv) _ _ q1, ?_⟩
           have hi2 : i < u'.cells.length := (List.getElem?_eq_some_iff.1 hxi).1
           rw [p5, if_neg (by omega)]
           exact q2
          ·exact ⟨l', c2, e2, f2, aq.le_put _ hnv _ _ _ t1, by rw [p2.other _ hbl]; exact t2, t3, t4, t5, fun i x hxi => by
            obtain ⟨q, q1, q2⟩ := t6 i x hxi
            exact ⟨q, bA (aq.le_put _ hnv) _ _ q1, q2⟩⟩)
      refine ⟨_, _, w', hrun, ?_, j1, j2⟩
      have hcp : cC lo ⟨a.f, nv, a.c⟩ none sz = cC lo a none sz := rfl
      have hco : bm lo ⟨a.f, nv, a.c⟩ z none sz = bm lo a z none sz := rfl
      rw [dN (a := ⟨a.f, nv, a.c⟩) (z := z) (len := len + n) (cap := none) (l := lo) (aq.put_same _ _ _ _) (by rw [hco]; exact g2) g3 (by rw [hcp]; exact hge) g5, hco, hcp]
   ·cases e
  ·cases e
 ·cases e
theorem xw (h : HR ρ s w) {ts : Array TypeId} {ty sT xT : TypeId} {x y : V} {X Y : Value} (h0 : ts[0]? = some sT) (h1 : ts[1]? = some xT) (hX : den ρ x = some X) (hY : den ρ y = some Y)
 {v : V} {s' : S} (e : iz P sT xT s x y = some (v, s')) :
 ∃ ρ' r w', (Builtin.append_ ts ty #[X, Y]).run P w = .ok r w' ∧ den ρ' v = some r ∧ HR ρ' s' w' ∧ FR ρ w ρ' w' := by
 unfold iz at e
 split at e
 ·rename_i elem hs
  cases hni : noInt P xT with
  | false => rw [hni] at e; cases e
  | true =>
  rw [hni] at e
  simp only [cond_true] at e
  obtain ⟨d, hx, hd⟩ := Fd hni
  split at e
  ·rename_i sz hz
   cases hok : rR P elem sz with
   | false => rw [hok] at e; cases e
   | true =>
   rw [hok] at e
   simp only [cond_true] at e
   unfold nP at e
   split at e
   ·rename_i l n ha
    cases hn : Nat.ble n 1000000 with
    | false => rw [hn] at e; cases e
    | true =>
    rw [hn] at e
    simp only [cond_true] at e
    have hn := Nat.le_of_ble_eq_true hn
    obtain ⟨zv, i, hi, hzi, hzs, hsz0, hbytes⟩ := sM hok
    obtain ⟨ys, y1, y2, y3, y4⟩ := gW (P := P) h hY ha
    split at e
    ·cases hX
     cases hb : Nat.beq n 0 with
     | true =>
      rw [hb] at e
      obtain rfl := Nat.eq_of_beq_eq_true hb
      cases e
      refine ⟨ρ, .slice none 0 0, w, ?_, rfl, h, FR.refl ρ w⟩
      exact kM (ty := ty) (base := none) (sLen := 0) (sCap := 0) h0 h1 hs hx hd hz y3 (Nat.le_refl _) y4
     | false =>
      rw [hb] at e
      simp only [cond_false, Option.some.injEq] at e
      have hn0 : 0 < n := Nat.pos_of_ne_zero fun q => by subst q; simp at hb
      obtain ⟨ys', y1', y2', y3', y4'⟩ := gW (P := P) h.drew hY ha
      rw [y1] at y1'; cases y1'
      have hrun := nO (ty := ty) (base := none) (sLen := 0) (sCap := 0) (olds := #[]) h0 h1 hs hx hd hz hi hzi y3 (by omega) (by omega) hbytes rfl y4'
      simp only [Nat.zero_add] at hrun
      obtain ⟨ρ', j1, j2, j3⟩ := oI h.drew (elem := elem) y1 (grownCap_ge w n 0 elem) hsz0 y2 (rest := Builtin.zeroCells zv.cells (grownCap w n 0 elem - n)) (by rw [jy, hzs]) e
      refine ⟨ρ', _, _, hrun, j1, ?_, (FR.drew ρ w).trans ?_⟩
      ·simpa using j2
      ·simpa using j3
    ·rename_i a z len cap sz'
     cases hb : (Nat.beq sz sz' && Nat.ble len 1000000) with
     | false => rw [hb] at e; cases e
     | true =>
     rw [hb] at e
     simp only [cond_true] at e
     simp only [Bool.and_eq_true] at hb
     obtain rfl := Nat.eq_of_beq_eq_true hb.1
     have hlen := Nat.le_of_ble_eq_true hb.2
     cases hb : Nat.beq n 0 with
     | true =>
      rw [hb] at e
      obtain rfl := Nat.eq_of_beq_eq_true hb
      cases e
      obtain ⟨lo, g1, g2, g3, g4, g5, rfl⟩ := fy hX (.inl (by omega))
      refine ⟨ρ, _, w, ?_, hX, h, FR.refl ρ w⟩
      have := kM (ty := ty) (w := w) (base := some ⟨lo.b, bm lo a z cap sz - lo.base, none⟩) (sLen := len) (sCap := cC lo a cap sz) h0 h1 hs hx hd hz y3 g4 y4
      have hys : ys = [] := by simpa using y2
      subst hys
      rw [this]
      simp [Go.storeCells]
     | false =>
      rw [hb] at e
      simp only [cond_false] at e
      exact CV h h0 h1 hs hx hd hz hok hX hY ha hn hlen (fun q => by subst q; simp at hb) e
    ·cases e
   ·cases e
  ·cases e
 ·cases e
end ops
end Go.AI
