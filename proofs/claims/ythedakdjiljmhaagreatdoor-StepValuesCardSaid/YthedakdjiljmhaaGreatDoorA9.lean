/- Operations that float in regions that draw their order. No conditions. -/
import Derived.Test.YthedakdjiljmhaaGreatDoorA8
set_option linter.unusedVariables false
set_option linter.unusedSimpArgs false
noncomputable section
/- Operations that look at memory at most: what they leave as it is, and what they look at. -/
namespace Go.AI
section ops
variable {P : Program} {ρ : Rho} {s : S} {w : World} {t : T V} {tm : Array Value}

theorem callB_pure (h : HR ρ s w) {b : Builtin} (hb : b = .len ∨ b = .cap ∨ b = .max ∨ b = .min) {ts : Array TypeId} {ty : TypeId} {consts : Array Bool} {args : List V} {ys : List Value} (hd : denL ρ args = some ys) {nx : Nx} (e : callB P b ts args s = some nx) :
    NxV P ρ w s nx ((Go.builtin b ts ty consts ys.toArray).run P w) := by
  rcases hb with rfl | rfl | rfl | rfl
  · simp only [callB] at e
    split at e
    · rename_i t0 h0
      split at e
      · rename_i x
        obtain ⟨X, hx, rfl⟩ := den_one hd
        exact nxVal_sound h e fun v hv => lenV_sound h h0 hx hv
      · cases e
    · cases e
  · simp only [callB] at e
    split at e
    · rename_i t0 h0
      split at e
      · rename_i x
        obtain ⟨X, hx, rfl⟩ := den_one hd
        exact nxVal_sound h e fun v hv => capV_sound h0 hx hv
      · cases e
    · cases e
  · simp only [callB] at e
    refine nxVal_sound (m := Builtin.max_ ts ty ys.toArray) h e fun v hv => ?_
    cases args with
    | nil => cases hv
    | cons x r =>
      obtain ⟨X, q, hx, hr, rfl⟩ := denL_cons.1 hd
      exact fold_sound maxV_sound r q x X v hr hx hv
  · simp only [callB] at e
    refine nxVal_sound (m := Builtin.min_ ts ty ys.toArray) h e fun v hv => ?_
    cases args with
    | nil => cases hv
    | cons x r =>
      obtain ⟨X, q, hx, hr, rfl⟩ := denL_cons.1 hd
      exact fold_sound minV_sound r q x X v hr hx hv

theorem convV_pure (h : HR ρ s w) (ht : TR ρ t tm) {src dst : TypeId} (hdst : ∀ el, P.underlying dst ≠ some (.slice el)) {x : Operand} {nx : Nx} (e : doConv P s src dst (eval t x) = some nx) :
    NxV P ρ w s nx ((do pure (Next.value (← convert src dst (rv tm x))) : Sem Next).run P w) := by
  unfold doConv at e
  split at e
  · rename_i v hv
    have dv := eval_sound ht hv
    generalize rv tm x = X at *
    unfold nxPair at e
    split at e
    · rename_i y s' hc
      cases e
      unfold convV at hc
      split at hc
      · rename_i ds hs
        split at hc
        · rename_i k hd
          split at hc
          · rename_i j n
            cases hc; cases dv
            have : (convert src dst (.int j n)).run P w = .ok (.int k (k.wrap n)) w := by
              cases ds <;> simp [convert, run_und hs, run_und hd, Conv.intToInt]
            exact ⟨_, .int k (k.wrap n), rfl, by simp [this], by rw [mkInt_eq]; rfl⟩
          · cases hc
        · rename_i hd
          obtain ⟨rfl, y', h1, h2⟩ := toStr_sound h hs hd dv hc
          exact ⟨_, y', rfl, by simp [h2], h1⟩
        · rename_i el hd
          exact absurd hd (hdst el)
        · cases hc
      · cases hc
    · cases e
  · cases e

/-- AN OPERATION THAT LOOKS AT MEMORY AT MOST. -/
theorem opDo_pure {E : Env} (h : HR ρ s w) (ht : TR ρ t tm) (o : Oper) (hk : opKind E.P o.op ≤ 1) {nx : Nx} (e : doOp E t s o = some nx) : NxV E.P ρ w s nx ((execOp (rv tm) o).run E.P w) := by
  obtain ⟨dst, op, type, pos, after, guard⟩ := o
  unfold doOp at e
  simp only at e hk
  cases op <;> simp only [opDo] at e <;> try (cases e; done)
  case move x => exact moveLike h ht e
  case assign x => exact moveLike h ht e
  case pick c a b => exact doPick_sound h ht e
  case alloc elem => simp [opKind] at hk
  case box elem x => simp [opKind] at hk
  case build ty parts => exact doBuild_sound h ht e
  case buildSlice ty len parts => simp [opKind] at hk
  case load ty x => exact doLoad_sound h ht e
  case store ty x y => simp [opKind] at hk
  case nilCheck x => exact doNilCheck_sound h ht e
  case binOp op ty x y z => exact doBin_sound h ht e
  case unOp op ty x => exact doUn_sound h ht e
  case convert src dst x =>
    refine convV_pure h ht (fun el hu => ?_) e
    simp [opKind, hu] at hk
  case makeInterface ty x => exact doMkIface_sound h ht e
  case makeFunc fn first cap => exact doMkFunc_sound h ht e
  case makeMap ty r => simp [opKind] at hk
  case makeSlice ty l c => simp [opKind] at hk
  case slice ty x lo hi mx => exact doSlice_sound h ht e
  case fieldAddr ty x f => exact doFieldAddr_sound h ht e
  case field ty x f => exact doField_sound h ht e
  case indexAddr ty x i => exact doIndexAddr_sound h ht e
  case index ty x i => exact doIndex_sound h ht e
  case lookup ty x k ok => exact doLookup_sound h ht e
  case mapUpdate ty m k x => simp [opKind] at hk
  case insert ty m k x => simp [opKind] at hk
  case typeAssert x xt ty ok => exact doAssert_sound h ht e
  case extract x i => exact doExtract_sound h ht e
  case call c =>
    unfold callTo at e
    split at e
    · rename_i args ha
      obtain ⟨ys, y1, y2⟩ := args_den ht ha
      split at e
      · rename_i b hc
        have hb : b = .len ∨ b = .cap ∨ b = .max ∨ b = .min := by
          simp only [opKind, hc] at hk
          cases b <;> simp at hk ⊢
        simp only [execOp, resolve, hc, Sem.run_bind, Sem.run_pure, Result.andThen_ok, invoke, y2]
        exact callB_pure h hb y1 e
      · rename_i f hc
        simp [opKind, hc] at hk
      · cases e
    · cases e
  case defer c => simp [opKind] at hk
  case panic x => simp [opKind] at hk

end ops
end Go.AI
/- Operations that make memory: the value and the block hang on no state. -/
namespace Go.AI
section ops
variable {P : Program} {ρ : Rho} {s : S} {w : World} {t : T V} {tm : Array Value}

/-- A block made: the value at its lineage, the block; what the machine makes. -/
def Made (P : Program) (ρ : Rho) (w : World) (mk : Nat → V) (B : Blk) (m : Sem Next) : Prop :=
  ∃ y obj lim n, m.run P w = .ok (.value y) ({ w with drawn := n }.alloc obj) ∧
    ∀ ρ' f, ρ.le ρ' → ρ' f 0 = some ⟨w.heap.size, 0, lim⟩ → (∀ v, 1 ≤ v → ρ' f v = none) → den ρ' (mk f) = some y ∧ ∀ w' : World, w'.heap[w.heap.size]? = some obj → BlkR ρ' w' f B

theorem cells_blk {ρ' : Rho} {f : Nat} {lim b : Nat} {cs : List V} {ys : Array Value} {sb : Bool} {el e' : TypeId} {fz : Nat × Nat} (hd : denL ρ cs = some (ys.toList.take cs.length)) (hfz : (sb = false → fz = (0, 0)) ∧ ∀ i, i < ys.size → ¬ (fz.1 ≤ i ∧ i < fz.2))
    (hl : ρ.le ρ') (h0 : ρ' f 0 = some ⟨b, 0, lim⟩) (h1 : ∀ v, 1 ≤ v → ρ' f v = none) (hlim : lim = ys.size) {w' : World} (hw : w'.heap[b]? = some (.cells ys e' fz)) : BlkR ρ' w' f (.cells el sb 1 [⟨0, 0, cs⟩]) := by
  refine ⟨h1, fun u hu => ?_⟩
  simp at hu; subst hu
  refine ⟨Nat.zero_lt_one, _, ys, e', fz, h0, hw, Nat.le_refl _, by simp [hlim], hfz, fun i x hx => ?_⟩
  obtain ⟨y, hy, hy'⟩ := denL_get i hd hx
  refine ⟨y, den_mono hl _ _ hy, ?_⟩
  have hi : i < cs.length := (List.getElem?_eq_some_iff.1 hx).1
  rw [List.getElem?_take_of_lt hi, Array.getElem?_toList] at hy'
  simpa using hy'

theorem made_var {elem : TypeId} {v : V} {y : Value} (hv : den ρ v = some y) : Made P ρ w (fun f => .ptr ⟨f, 0, 0⟩) (.cells elem false 1 [⟨0, 0, v.cells⟩]) (do pure (Next.value (.pointer (some (← newVar elem y))))) := by
  refine ⟨_, _, y.cells.size, w.drawn, by simp [newVar, newRow]; exact ⟨rfl, rfl⟩, fun ρ' f hl h0 h1 => ⟨by simp [den, denA, h0], fun w' hw => ?_⟩⟩
  exact cells_blk (by rw [den_cells hv, ← cells_size hv, List.take_of_length_le (by simp)]) ⟨fun _ => rfl, by simp⟩ hl h0 h1 rfl hw

theorem made_row {elem : TypeId} {cs : List V} {ys : Array Value} (hd : denL ρ cs = some ys.toList) {len sz cap : Nat} (hl : len ≤ cap) (hsz : 0 < sz) :
    Made P ρ w (fun f => .slice ⟨f, 0, 0⟩ 0 len (some cap) sz) (.cells elem false 1 [⟨0, 0, cs⟩]) (do pure (Next.value (.slice (some (← newRow elem ys)) len cap))) := by
  have hlen : cs.length = ys.size := by have := denL_length hd; simpa using this.symm
  refine ⟨_, _, ys.size, w.drawn, by simp [newRow]; exact ⟨rfl, rfl⟩, fun ρ' f hle h0 h1 => ⟨?_, fun w' hw => ?_⟩⟩
  · exact slice_mk (a := ⟨f, 0, 0⟩) (cap := some cap) h0 (Nat.zero_le _) (Nat.zero_le _) hl hsz
  · exact cells_blk (by rw [hd, hlen, List.take_of_length_le (by simp)]) ⟨fun _ => rfl, by simp⟩ hle h0 h1 rfl hw

def MadeOp (P : Program) (ρ : Rho) (w : World) (d : S → Option Nx) (m : Sem Next) : Prop :=
  ∃ mk B, (∀ s', d s' = some (.val (mk s'.next) (s'.alloc B))) ∧ Made P ρ w mk B m

theorem Made.congr {mk : Nat → V} {B : Blk} {m m' : Sem Next} (h : Made P ρ w mk B m) (e : m'.run P w = m.run P w) : Made P ρ w mk B m' := by
  obtain ⟨y, obj, lim, n, h1, h2⟩ := h
  exact ⟨y, obj, lim, n, e.trans h1, h2⟩

theorem doAlloc_made {elem : TypeId} {nx : Nx} (e : doAlloc P s elem = some nx) : MadeOp P ρ w (fun s => doAlloc P s elem) (do pure (Next.value (← Instr.alloc elem true (.tuple #[])))) := by
  unfold doAlloc at e
  split at e
  · rename_i z hz
    obtain ⟨y, i, hi, hzi, hd⟩ := zero_spec hz
    refine ⟨_, _, fun s' => by simp only [doAlloc, hz, nxNew, newCells, newCellsB], (made_var (P := P) (w := w) (elem := elem) (hd ρ)).congr ?_⟩
    simp only [Instr.alloc, Sem.run_bind, run_zero hi hzi, Result.andThen_ok, Sem.run_pure]
    simp [newVar, newRow]
  · cases e

theorem doBox_made (ht : TR ρ t tm) {elem : TypeId} {x : Operand} {nx : Nx} (e : doBox s elem (eval t x) = some nx) : MadeOp P ρ w (fun s => doBox s elem (eval t x)) (do pure (Next.value (← Instr.box elem (rv tm x)))) := by
  unfold doBox at e
  split at e
  · rename_i z hz
    refine ⟨_, _, fun s' => by simp only [doBox, hz, nxNew, newCells, newCellsB], (made_var (P := P) (w := w) (elem := elem) (eval_sound ht hz)).congr ?_⟩
    simp only [Instr.box, Sem.run_bind, Sem.run_pure]
    simp [newVar, newRow]
  · cases e

theorem doMakeMap_made {ty : TypeId} : MadeOp P ρ w (fun s => some (.val (.map s.next) (s.alloc (.map [] 0)))) (do pure (Next.value (← Instr.makeMap ty none))) := by
  refine ⟨fun f => .map f, .map [] 0, fun s' => rfl, .map (some w.heap.size), .map #[] 0, 0, w.drawn, by simp [Instr.makeMap], fun ρ' f hl h0 h1 => ⟨by simp [den, h0], fun w' hw => ⟨_, #[], h0, hw, trivial⟩⟩⟩

def RowOp (P : Program) (ρ : Rho) (w : World) (d : S → Option Nx) (m : Sem Value) : Prop :=
  ∃ (el : TypeId) (cs : List V) (ys : Array Value) (len cap sz : Nat), (∀ s', d s' = some (.val (.slice (newCells s' el cs).1 0 len (some cap) sz) (newCells s' el cs).2)) ∧ denL ρ cs = some ys.toList ∧ len ≤ cap ∧ 0 < sz ∧
    m.run P w = (do pure (.slice (some (← newRow el ys)) len cap) : Sem Value).run P w

theorem RowOp.made {d : S → Option Nx} {m : Sem Value} (h : RowOp P ρ w d m) : MadeOp P ρ w d (do pure (Next.value (← m))) := by
  obtain ⟨el, cs, ys, len, cap, sz, h1, h2, h3, h4, h5⟩ := h
  refine ⟨_, _, fun s' => by rw [h1]; simp only [newCells, newCellsB], (made_row (P := P) (w := w) (elem := el) h2 h3 h4).congr ?_⟩
  simp only [Sem.run_bind] at h5 ⊢
  rw [h5]
  simp [newRow]

theorem doMkSlice_row (ht : TR ρ t tm) {ty : TypeId} {l c : Operand} {nx : Nx} (e : doMkSlice P s ty (natOfO (eval t l)) (natOfO (eval t c)) = some nx) :
    RowOp P ρ w (fun s => doMkSlice P s ty (natOfO (eval t l)) (natOfO (eval t c))) (Instr.makeSlice ty (rv tm l) (rv tm c)) := by
  unfold doMkSlice at e
  split at e
  · rename_i el hu
    split at e
    · rename_i l' hl
      split at e
      · rename_i c' hc
        obtain ⟨k1, e1⟩ := natOfO_eval ht hl
        obtain ⟨k2, e2⟩ := natOfO_eval ht hc
        split at e
        · rename_i z hz
          obtain ⟨zv, i, hi, hzi, hden⟩ := zero_spec hz
          split at e
          · rename_i n hn
            cases hb : (Nat.ble l' c' && Nat.ble c' 2199023255552 && !(Nat.beq n 0) && Nat.beq z.cells.length n && smallT P el c') with
            | false => simp [hb] at e
            | true =>
              have hbb := hb
              simp only [hb, cond_true] at e
              simp only [Bool.and_eq_true] at hb
              obtain ⟨⟨⟨⟨b1, b2⟩, b3⟩, b4⟩, b5⟩ := hb
              have b1 := Nat.le_of_ble_eq_true b1
              have b2 := Nat.le_of_ble_eq_true b2
              have b4 := Nat.eq_of_beq_eq_true b4
              have b3 : 0 < n := by
                rcases Nat.eq_zero_or_pos n with h0 | h0
                · subst h0; simp at b3
                · exact h0
              have b5 : i.bytes * c' ≤ 100000000000000 := by
                unfold smallT at b5
                simp only [hi] at b5
                exact Nat.le_of_ble_eq_true b5
              have hzc := den_cells (hden ρ)
              have hzl : zv.cells.toList.length = n := by have := denL_length hzc; omega
              have hrow := copies zv.cells.toList n hzl b3 c'
              have hd : denL ρ (List.replicate c' z.cells).flatten = some ((List.replicate c' zv.cells.toList).flatten.toArray).toList := by simpa using denL_flatten hzc c'
              have hrun : (Instr.makeSlice ty (rv tm l) (rv tm c)).run P w = (do pure (.slice (some (← newRow el (List.replicate c' zv.cells.toList).flatten.toArray)) l' c') : Sem Value).run P w := by
                have hsz := run_size hn w
                have w1 := wrap_small l' (by omega)
                have w2 := wrap_small c' b2
                simp only [Int.ofNat_eq_natCast] at w1 w2
                have hA : ∀ k n, (asInt (.int k n)).run P w = .ok n w := fun k n => by simp [asInt, asIntOf]
                have hrow2 : Array.map (fun x => zv.cells[x % zv.cells.size]!) (Array.range (c' * n)) = (List.replicate c' zv.cells.toList).flatten.toArray := by
                  apply Array.toList_inj.1
                  rw [← hrow]
                  simp [Array.toList_range]
                have hbig : (decide ((c' : Int) < 0) || decide ((i.bytes : Int) * (c' : Int) > 2 ^ 48)) = false := by
                  have g1 : ¬ ((c' : Int) < 0) := by omega
                  have g2 : ¬ ((i.bytes : Int) * (c' : Int) > 2 ^ 48) := by
                    have e : (i.bytes : Int) * (c' : Int) = ((i.bytes * c' : Nat) : Int) := (Int.natCast_mul _ _).symm
                    rw [e]
                    generalize i.bytes * c' = q at b5
                    have : (2 : Int) ^ 48 = 281474976710656 := rfl
                    omega
                  rw [decide_eq_false g1, decide_eq_false g2]; rfl
                have hl0 : decide ((l' : Int) < 0) = false := by simp
                have hlc : decide ((l' : Int) > (c' : Int)) = false := by simp; omega
                have hti : (typeInfo el).run P w = .ok i w := by simp [typeInfo, hi]
                have hzr := run_zero hi hzi w
                simp only [Instr.makeSlice, Sem.run_bind, run_und hu, Result.andThen_ok, e1, e2, hA, Sem.run_pure, hti, Int.ofNat_eq_natCast, w1, w2, Int.toNat_natCast]
                rw [if_neg (by rw [hbig, hl0, hlc]; simp)]
                simp only [Sem.run_bind, run_askRoom, Result.andThen_ok, hsz]
                by_cases hc0 : c' * n = 0
                · rw [if_pos hc0]
                  have g : ∀ f : Nat → Value, Array.map f (Array.range 0) = #[] := fun f => by simp
                  simp only [Sem.run_bind, Sem.run_pure, Result.andThen_ok, ← hrow2, hc0, g]
                · rw [if_neg hc0]
                  simp only [Sem.run_bind, hzr, Result.andThen_ok, Sem.run_pure, hrow2]
              have hb' : (Nat.ble l' c' && Nat.ble c' 2199023255552 && !(Nat.beq n 0) && Nat.beq z.cells.length n && smallT P el c') = true := hbb
              exact ⟨el, _, _, l', c', n, fun s' => by simp only [doMkSlice, hu, hl, hc, hz, hn, hb', cond_true, newCells, newCellsB], hd, b1, b3, hrun⟩
          · cases e
        · cases e
      · cases e
    · cases e
  · cases e

theorem doBuildSlice_row (ht : TR ρ t tm) {ty : TypeId} {len : Nat} {parts : Array (Nat × Operand)} {nx : Nx} (e : doBuildSlice P s ty len (evalsO t parts.toList) = some nx) :
    RowOp P ρ w (fun s => doBuildSlice P s ty len (evalsO t parts.toList)) (Instr.buildSlice ty len (parts.map fun (i, x) => (i, rv tm x))) := by
  unfold doBuildSlice at e
  split at e
  · rename_i el hu
    split at e
    · rename_i l hl
      have hl0 := hl
      have hp := evalsO_sound ht hl
      have hpl : (parts.toList.map fun (i, x) => (i, rv tm x)) = (parts.map fun (i, x) => (i, rv tm x)).toList := by simp
      rw [hpl] at hp
      split at e
      · rename_i z hz
        obtain ⟨zv, it, hi, hzi, hden⟩ := zero_spec hz
        have hzc := den_cells (hden ρ)
        split at e
        · rename_i n hn
          cases hb : (Nat.ble (len * n) 10000 && !(Nat.beq n 0) && Nat.beq z.cells.length n) with
          | false => rw [hb] at e; cases e
          | true =>
            have hbb := hb
            rw [hb] at e
            simp only [cond_true] at e
            simp only [Bool.and_eq_true] at hb
            have b1 := Nat.le_of_ble_eq_true hb.1.1
            have b2 : 0 < n := by
              rcases Nat.eq_zero_or_pos n with h0 | h0
              · subst h0; simp at hb
              · exact h0
            have b3 := Nat.eq_of_beq_eq_true hb.2
            unfold sliceNew at e
            split at e
            · rename_i cs hcs
              have hzl : zv.cells.toList.length = n := by have := denL_length hzc; omega
              have hrow := copies zv.cells.toList n hzl b2 len
              have hd : denL ρ (List.replicate len z.cells).flatten = some ((List.replicate len zv.cells.toList).flatten.toArray).toList := by simpa using denL_flatten hzc len
              obtain ⟨zs, hz1, hz2⟩ := fill_sound (place := fun i => some (i * n, n)) (fun i x hx => hx) hp hd hcs
              have hrow2 : Array.map (fun x => zv.cells[x % zv.cells.size]!) (Array.range (len * n)) = (List.replicate len zv.cells.toList).flatten.toArray := by
                apply Array.toList_inj.1
                rw [← hrow]
                simp [Array.toList_range]
              have hrun : (Instr.buildSlice ty len (parts.map fun (i, x) => (i, rv tm x))).run P w = (do pure (.slice (some (← newRow el zs)) len len) : Sem Value).run P w := by
                simp only [Instr.buildSlice, Sem.run_bind, run_und hu, Result.andThen_ok, run_size hn]
                rw [if_neg (by omega)]
                by_cases hc0 : len * n = 0
                · rw [if_pos hc0]
                  have g : ∀ f : Nat → Value, Array.map f (Array.range 0) = #[] := fun f => by simp
                  rw [← hrow2, hc0, g] at hz1
                  simp only [Sem.run_bind, Sem.run_pure, Result.andThen_ok, hc0, g, hz1]
                · rw [if_neg hc0]
                  simp only [Sem.run_bind, run_zero hi hzi, Result.andThen_ok, Sem.run_pure, hrow2, hz1]
              exact ⟨el, _, _, len, len, n, fun s' => by simp only [doBuildSlice, hu, hl0, hz, hn, hbb, cond_true, sliceNew, hcs, newCells, newCellsB], hz2, Nat.le_refl _, b2, hrun⟩
            · cases e
        · cases e
      · cases e
    · cases e
  · cases e

theorem doConv_made (ht : TR ρ t tm) {src dst el : TypeId} (hdst : P.underlying dst = some (.slice el)) {x : Operand} {nx : Nx} (e : doConv P s src dst (eval t x) = some nx) :
    MadeOp P ρ w (fun s => doConv P s src dst (eval t x)) (do pure (Next.value (← convert src dst (rv tm x)))) := by
  unfold doConv at e
  split at e
  · rename_i v hv
    have dv := eval_sound ht hv
    generalize rv tm x = X at *
    unfold nxPair convV at e
    cases hs : P.underlying src with
    | none => simp [hs] at e
    | some ds =>
      simp only [hs, hdst] at e
      cases v <;> simp only [toBytes] at e <;> try (cases e; done)
      rename_i l
      cases ds <;> simp only at e <;> try (cases e; done)
      cases hb : isBytes P el with
      | false => rw [hb] at e; cases e
      | true =>
        cases dv
        have hrun := run_bytes_of_string w src dst el (bytesV l) hs hdst (isBytes_spec hb)
        rw [bytesV_size] at hrun
        have hge := grownCap_ge w l.length 0 el
        generalize hc : grownCap w l.length 0 el = cap at *
        have hsz : (bytesRow (bytesV l) cap).size = cap := by
          simp only [bytesRow, Array.size_append, Array.size_map, Array.size_replicate, bytesV_size]
          have : (bytesV l).data.size = l.length := bytesV_size l
          omega
        rw [hsz] at hrun
        have hd' : denL ρ (l.map byteV) = some ((bytesRow (bytesV l) cap).toList.take (l.map byteV).length) := by
          rw [byteV_den]
          have : (bytesV l).data.toList.length = l.length := by simp [bytesV]
          simp [bytesRow, this]
        refine ⟨fun f => .slice ⟨f, 0, 0⟩ 0 l.length none 1, .cells el true 1 [⟨0, 0, l.map byteV⟩], fun s' => ?_, _, _, cap, w.drawn + 1, by simp only [Sem.run_bind, hrun, Result.andThen_ok, Sem.run_pure]; rfl, fun ρ' f hl h0 h1 => ⟨?_, fun w' hw => ?_⟩⟩
        · simp only [doConv, hv, nxPair, convV, hs, hdst, toBytes, hb, cond_true, newCellsB]
        · have := slice_mk (a := ⟨f, 0, 0⟩) (z := 0) (len := l.length) (cap := none) (sz := 1) h0 (by simp) (Nat.zero_le _) (by simpa [capOf] using hge) Nat.one_pos
          rw [this]
          simp [capOf, coordOf]
        · exact cells_blk hd' ⟨(fun h => by cases h), fun i hi => by rw [hsz] at hi; simp; omega⟩ hl h0 h1 hsz.symm hw
  · cases e

/-- AN OPERATION THAT MAKES MEMORY. -/
theorem opDo_make {E : Env} (ht : TR ρ t tm) (o : Oper) (hk : opKind E.P o.op = 2) {nx : Nx} (e : doOp E t s o = some nx) : MadeOp E.P ρ w (fun s => doOp E t s o) (execOp (rv tm) o) := by
  obtain ⟨dst, op, type, pos, after, guard⟩ := o
  unfold doOp at e ⊢
  simp only at e hk ⊢
  cases op <;> simp only [opDo] at e ⊢ <;> try (cases e; done)
  case alloc elem => exact doAlloc_made e
  case box elem x => exact doBox_made ht e
  case buildSlice ty len parts => exact (doBuildSlice_row ht e).made
  case makeMap ty r =>
    cases r with
    | none => exact doMakeMap_made
    | some _ => cases e
  case makeSlice ty l c => exact (doMkSlice_row ht e).made
  case convert src dst x =>
    cases hu : E.P.underlying dst with
    | none => simp [opKind, hu] at hk
    | some d => cases d <;> simp [opKind, hu] at hk; exact doConv_made ht hu e
  case binOp op ty x y z => simp only [opKind] at hk; cases hb : isEq op <;> simp [hb] at hk
  case call c => simp only [opKind] at hk; split at hk <;> simp at hk
  all_goals simp [opKind] at hk

end ops
end Go.AI
/- What an operation looks at. -/
namespace Go.AI
section ops
variable {s : S} {t t' : T V}

theorem evals_congr : ∀ {l : List Operand}, (∀ x ∈ l, eval t x = eval t' x) → evals t l = evals t' l
  | [], _ => rfl
  | x :: r, h => by
    have ih := evals_congr (l := r) fun y hy => h y (List.mem_cons_of_mem _ hy)
    simp only [evals, h x (by simp), ih]

theorem evalsO_congr : ∀ {l : List (Nat × Operand)}, (∀ x ∈ l, eval t x.2 = eval t' x.2) → evalsO t l = evalsO t' l
  | [], _ => rfl
  | (i, x) :: r, h => by
    have ih := evalsO_congr (l := r) fun y hy => h y (List.mem_cons_of_mem _ hy)
    simp only [evalsO, h (i, x) (by simp), ih]

theorem evalO_congr {x : Option Operand} (h : ∀ y, x = some y → eval t y = eval t' y) : evalO t x = evalO t' x := by
  cases x with
  | none => rfl
  | some y => simp only [evalO, h y rfl]

/-- An operation looks at its operands alone. -/
theorem doOp_congr {E : Env} (o : Oper) (h : ∀ x ∈ o.op.operands, eval t x = eval t' x) : doOp E t s o = doOp E t' s o := by
  obtain ⟨dst, op, type, pos, after, guard⟩ := o
  unfold doOp
  simp only at h ⊢
  cases op <;> simp only [Op.operands] at h <;> simp only [opDo] <;> try rfl
  case move x => rw [h x (by simp)]
  case assign x => rw [h x (by simp)]
  case pick c a b =>
    have h1 : ∀ q : Bool, eval t (bif q then a else b) = eval t' (bif q then a else b) := fun q => by cases q <;> exact h _ (by simp)
    simp only [doPick, h c (by simp), h1]
  case box elem x => rw [h x (by simp)]
  case build ty parts => rw [evalsO_congr fun x hx => h x.2 (by simp; exact ⟨x.1, by simpa using hx⟩)]
  case buildSlice ty len parts => rw [evalsO_congr fun x hx => h x.2 (by simp; exact ⟨x.1, by simpa using hx⟩)]
  case load ty x => rw [h x (by simp)]
  case store ty x y => rw [h x (by simp), h y (by simp)]
  case nilCheck x => rw [h x (by simp)]
  case binOp op ty x y z => rw [h x (by simp), h y (by simp)]
  case unOp op ty x => rw [h x (by simp)]
  case convert src dst x => rw [h x (by simp)]
  case makeInterface ty x => rw [h x (by simp)]
  case makeFunc fn first cap => rw [evals_congr fun x hx => h x (by simp; left; simpa using hx), evals_congr (l := cap.toList) fun x hx => h x (by simp; right; simpa using hx)]
  case makeMap ty r => cases r <;> rfl
  case makeSlice ty l c => rw [h l (by simp), h c (by simp)]
  case slice ty x lo hi mx =>
    rw [h x (by simp), evalO_congr (x := lo) fun y hy => h y (by subst hy; simp), evalO_congr (x := hi) fun y hy => h y (by subst hy; simp), evalO_congr (x := mx) fun y hy => h y (by subst hy; simp)]
  case fieldAddr ty x f => rw [h x (by simp)]
  case field ty x f => rw [h x (by simp)]
  case indexAddr ty x i => rw [h x (by simp), h i (by simp)]
  case index ty x i => rw [h x (by simp), h i (by simp)]
  case lookup ty x k ok => rw [h x (by simp), h k (by simp)]
  case mapUpdate ty m k x => rw [h m (by simp), h k (by simp), h x (by simp)]
  case insert ty m k x => rw [h m (by simp), h k (by simp), h x (by simp)]
  case typeAssert x xt ty ok => rw [h x (by simp)]
  case extract x i => rw [h x (by simp)]
  case call c =>
    rw [evals_congr fun x hx => h x (by simp only [Call.operands]; exact Array.mem_append.2 (.inr (by simpa using hx)))]
    unfold callTo
    split
    · split
      · rfl
      · rename_i f hc; rw [h f (by simp [Call.operands, hc])]
      · rfl
    · rfl
  case defer c =>
    rw [evals_congr fun x hx => h x (by simp only [Call.operands]; exact Array.mem_append.2 (.inr (by simpa using hx)))]
    unfold deferTo
    split
    · split
      · rename_i f hc; rw [h f (by simp [Call.operands, hc])]
      · rfl
    · rfl
  case panic x => rw [h x (by simp)]

end ops
end Go.AI
/- The next lineage is of no weight to what looks at memory at most. -/
namespace Go.AI
variable {t : T V} {h : T Blk} {n n' : Nat}

theorem nxVal_next {x y : Option V} (hxy : x = y) {v : V} {s1 : S} (e : nxVal ⟨h, n⟩ x = some (.val v s1)) : nxVal ⟨h, n'⟩ y = some (.val v ⟨h, n'⟩) := by
  subst hxy
  cases x with
  | none => cases e
  | some u => cases e; rfl

theorem eqlAt_ok {P : Program} {ok ok' : Ad → Bool} (ho : ok = ok') : ∀ d t x y, eqlAt P ok d t x y = eqlAt P ok' d t x y := by subst ho; intros; rfl

theorem plainAt_next : plainAt ⟨h, n⟩ = plainAt ⟨h, n'⟩ := rfl
theorem loadVar_next {P : Program} {ty : TypeId} {a : Ad} : loadVar P ⟨h, n⟩ ty a = loadVar P ⟨h, n'⟩ ty a := rfl
theorem loadCells_next {a : Ad} {k : Nat} : loadCells ⟨h, n⟩ a k = loadCells ⟨h, n'⟩ a k := rfl
theorem entsOf_next {m : V} : entsOf ⟨h, n⟩ m = entsOf ⟨h, n'⟩ m := rfl
theorem lenV_next {P : Program} {ty : TypeId} {x : V} : lenV P ty ⟨h, n⟩ x = lenV P ty ⟨h, n'⟩ x := rfl

theorem doOp_next {E : Env} (o : Oper) (hk : opKind E.P o.op ≤ 1) {v : V} {s1 : S} (e : doOp E t ⟨h, n⟩ o = some (.val v s1)) : doOp E t ⟨h, n'⟩ o = some (.val v ⟨h, n'⟩) := by
  obtain ⟨dst, op, type, pos, after, guard⟩ := o
  unfold doOp at e ⊢
  simp only at e hk ⊢
  cases op <;> simp only [opDo] at e ⊢ <;> try (cases e; done)
  case move x => exact nxVal_next rfl e
  case assign x => exact nxVal_next rfl e
  case pick c a b =>
    unfold doPick at e ⊢
    split at e
    · exact nxVal_next rfl e
    · cases e
  case build ty parts => exact nxVal_next rfl e
  case load ty x =>
    unfold doLoad at e ⊢
    split at e
    · exact nxVal_next loadVar_next e
    · cases e
  case nilCheck x => exact nxVal_next rfl e
  case binOp op ty x y z => exact nxVal_next rfl e
  case unOp op ty x => exact nxVal_next rfl e
  case convert src dst x =>
    unfold doConv at e ⊢
    split at e
    · rename_i x' hx'
      unfold nxPair at e ⊢
      unfold convV at e ⊢
      cases hs : E.P.underlying src with
      | none => simp [hs] at e
      | some ds =>
        cases hd : E.P.underlying dst with
        | none => simp [hs, hd] at e
        | some dd =>
          simp only [hs, hd] at e ⊢
          cases dd <;> simp only at e ⊢ <;> try (cases e; done)
          case int k => cases x' <;> simp only at e ⊢ <;> first | (cases e; done) | (cases e; rfl)
          case string =>
            unfold toStr at e ⊢
            cases x' <;> simp only at e ⊢ <;> try (first | (cases e; done) | (cases e; rfl))
            case slice a z len cap sz =>
              rw [loadCells_next (n' := n')] at e
              cases ds <;> simp only at e ⊢ <;> try (cases e; done)
              rename_i el
              split at e
              · rename_i y s2 hy
                cases hb : isBytes E.P el with
                | false => rw [hb] at hy; cases hy
                | true =>
                  rw [hb] at hy
                  simp only [cond_true] at hy ⊢
                  cases hz0 : Nat.beq sz 0 with
                  | true => rw [hz0] at hy; cases hy
                  | false =>
                  rw [hz0] at hy
                  simp only [cond_false] at hy ⊢
                  split at hy
                  · rename_i l hl; cases hy; cases e; rfl
                  · cases hy
              · cases e
            case nilslice =>
              cases ds <;> simp only at e ⊢ <;> try (cases e; done)
              rename_i el
              cases hb : isBytes E.P el with
              | false => rw [hb] at e; cases e
              | true => rw [hb] at e; cases e; rfl
          case slice el => simp [opKind, hd] at hk
    · cases e
  case makeInterface ty x => exact nxVal_next rfl e
  case makeFunc fn first cap => exact nxVal_next rfl e
  case slice ty x lo hi mx => exact nxVal_next rfl e
  case fieldAddr ty x f => exact nxVal_next rfl e
  case field ty x f => exact nxVal_next rfl e
  case indexAddr ty x i => exact nxVal_next rfl e
  case index ty x i => exact nxVal_next rfl e
  case lookup ty x k ok => exact nxVal_next rfl e
  case typeAssert x xt ty ok => exact nxVal_next rfl e
  case extract x i => exact nxVal_next rfl e
  case call c =>
    unfold callTo at e ⊢
    split at e
    · rename_i args ha
      split at e
      · rename_i b hc
        have hb : b = .len ∨ b = .cap ∨ b = .max ∨ b = .min := by
          simp only [opKind, hc] at hk
          cases b <;> simp at hk ⊢
        rcases hb with rfl | rfl | rfl | rfl <;> simp only [callB] at e ⊢
        · split at e
          · split at e
            · exact nxVal_next lenV_next e
            · cases e
          · cases e
        · split at e
          · split at e
            · exact nxVal_next rfl e
            · cases e
          · cases e
        · exact nxVal_next rfl e
        · exact nxVal_next rfl e
      · rename_i f hc
        simp [opKind, hc] at hk
      · cases e
    · cases e
  all_goals (first | (simp [opKind] at hk; done) | (exfalso; revert hk; simp [opKind]))

end Go.AI
/- What must come before an operation of a region. -/
namespace Go.AI

theorem fold_mask (acc : List Nat) (k : Nat) : ∀ (l : List Edge) (s : Nat), (l.foldl (fun s e => bif Region.binds .any e then Nat.lor s (Nat.lor (Nat.pow 2 e.on) (acc.getD e.on 0)) else s) s).testBit k = true ↔
    s.testBit k = true ∨ ∃ e ∈ l, Region.binds .any e = true ∧ (k = e.on ∨ (acc.getD e.on 0).testBit k = true)
  | [], s => by simp
  | e :: l, s => by
    rw [List.foldl_cons, fold_mask acc k l]
    cases hb : Region.binds .any e with
    | false =>
      simp only [cond_false, List.mem_cons, exists_eq_or_imp, hb, Bool.false_eq_true, false_and, false_or]
    | true =>
      simp only [cond_true, List.mem_cons, exists_eq_or_imp, hb, true_and]
      have : (Nat.lor s (Nat.lor (Nat.pow 2 e.on) (acc.getD e.on 0))).testBit k = (s.testBit k || (decide (e.on = k) || (acc.getD e.on 0).testBit k)) := by
        show (s ||| (2 ^ e.on ||| acc.getD e.on 0)).testBit k = _
        rw [Nat.testBit_or, Nat.testBit_or, Nat.testBit_two_pow]
      rw [this]
      simp only [Bool.or_eq_true, decide_eq_true_eq]
      constructor
      · rintro ((h | h | h) | h)
        · exact .inl h
        · exact .inr (.inl (.inl h.symm))
        · exact .inr (.inl (.inr h))
        · exact .inr (.inr h)
      · rintro (h | (h | h) | h)
        · exact .inl (.inl h)
        · exact .inl (.inr (.inl h.symm))
        · exact .inl (.inr (.inr h))
        · exact .inr h

theorem maskOf_bit (o : Oper) (acc : List Nat) (k : Nat) : (maskOf o acc).testBit k = true ↔ ∃ e ∈ o.after, Region.binds .any e = true ∧ (k = e.on ∨ (acc.getD e.on 0).testBit k = true) := by
  unfold maskOf
  rw [fold_mask]
  simp

theorem masks_pre : ∀ (l : List Oper) (acc : List Nat), ∃ r, masks l acc = acc ++ r ∧ r.length = l.length ∧ ∀ j o, l[j]? = some o → r[j]? = some (maskOf o (acc ++ r.take j))
  | [], acc => ⟨[], by simp [masks], rfl, fun j o h => by simp at h⟩
  | o :: l, acc => by
    obtain ⟨r, h1, h2, h3⟩ := masks_pre l (acc ++ [maskOf o acc])
    refine ⟨maskOf o acc :: r, by simp [masks, h1], by simp [h2], fun j o' hj => ?_⟩
    cases j with
    | zero => simp at hj; subst hj; simp
    | succ j =>
      simp at hj
      have := h3 j o' hj
      simpa using this

/-- Operation k must come before operation i. -/
def Pre (ops : Array Oper) (i k : Nat) : Prop := ((masks ops.toList []).getD i 0).testBit k = true

theorem masks_at {ops : Array Oper} {i : Nat} {o : Oper} (ho : ops[i]? = some o) : (masks ops.toList []).getD i 0 = maskOf o ((masks ops.toList []).take i) := by
  obtain ⟨r, h1, h2, h3⟩ := masks_pre ops.toList []
  rw [List.nil_append] at h1
  rw [h1]
  have := h3 i o (by simpa using ho)
  rw [List.nil_append] at this
  rw [List.getD_eq_getElem?_getD, this]
  rfl

/-- The edges go back in the text. -/
def EdgesBack (ops : Array Oper) : Prop := ∀ i o, ops[i]? = some o → ∀ e ∈ o.after, Region.binds .any e = true → e.on < i

theorem take_getD {l : List Nat} {i j : Nat} (h : j < i) : (l.take i).getD j 0 = l.getD j 0 := by
  rw [List.getD_eq_getElem?_getD, List.getD_eq_getElem?_getD, List.getElem?_take_of_lt h]

theorem pre_iff {ops : Array Oper} (hE : EdgesBack ops) {i k : Nat} {o : Oper} (ho : ops[i]? = some o) : Pre ops i k ↔ ∃ e ∈ o.after, Region.binds .any e = true ∧ (k = e.on ∨ Pre ops e.on k) := by
  unfold Pre
  rw [masks_at ho, maskOf_bit]
  constructor
  · rintro ⟨e, h1, h2, h3⟩
    rw [take_getD (hE i o ho e h1 h2)] at h3
    exact ⟨e, h1, h2, h3⟩
  · rintro ⟨e, h1, h2, h3⟩
    refine ⟨e, h1, h2, ?_⟩
    rw [take_getD (hE i o ho e h1 h2)]
    exact h3

theorem pre_out {ops : Array Oper} {i k : Nat} (h : Pre ops i k) : ∃ o, ops[i]? = some o := by
  cases ho : ops[i]? with
  | some o => exact ⟨o, rfl⟩
  | none =>
    exfalso
    unfold Pre at h
    obtain ⟨r, h1, h2, h3⟩ := masks_pre ops.toList []
    rw [List.nil_append] at h1
    have hi : ops.size ≤ i := by
      rcases Nat.lt_or_ge i ops.size with h' | h'
      · rw [Array.getElem?_eq_getElem h'] at ho; cases ho
      · exact h'
    rw [h1, List.getD_eq_getElem?_getD, List.getElem?_eq_none (by rw [h2]; simpa using hi)] at h
    simp at h

theorem pre_lt {ops : Array Oper} (hE : EdgesBack ops) : ∀ (i k : Nat), Pre ops i k → k < i := by
  intro i
  induction i using Nat.strongRecOn with
  | ind i ih =>
    intro k h
    obtain ⟨o, ho⟩ := pre_out h
    obtain ⟨e, h1, h2, h3⟩ := (pre_iff hE ho).1 h
    have hb := hE i o ho e h1 h2
    rcases h3 with rfl | h3
    · exact hb
    · exact Nat.lt_trans (ih e.on hb k h3) hb

theorem pre_trans {ops : Array Oper} (hE : EdgesBack ops) : ∀ (i k m : Nat), Pre ops i k → Pre ops k m → Pre ops i m := by
  intro i
  induction i using Nat.strongRecOn with
  | ind i ih =>
    intro k m h hm
    obtain ⟨o, ho⟩ := pre_out h
    obtain ⟨e, h1, h2, h3⟩ := (pre_iff hE ho).1 h
    refine (pre_iff hE ho).2 ⟨e, h1, h2, .inr ?_⟩
    rcases h3 with rfl | h3
    · exact hm
    · exact ih e.on (hE i o ho e h1 h2) k m h3 hm

end Go.AI
/- What a region's text gives. -/
namespace Go.AI

theorem number_mem : ∀ {l : List Oper} {i k : Nat} {o : Oper}, (k, o) ∈ number l i ↔ i ≤ k ∧ l[k - i]? = some o
  | [], i, k, o => by simp [number]
  | x :: l, i, k, o => by
    simp only [number, List.mem_cons, Prod.mk.injEq]
    rw [number_mem (l := l) (i := i + 1)]
    constructor
    · rintro (⟨rfl, rfl⟩ | ⟨h1, h2⟩)
      · simp
      · exact ⟨by omega, by rw [show k - i = (k - (i + 1)) + 1 by omega]; simpa using h2⟩
    · rintro ⟨h1, h2⟩
      by_cases hk : k = i
      · left; subst hk; simp at h2; exact ⟨rfl, h2.symm⟩
      · right; refine ⟨by omega, ?_⟩
        rw [show k - i = (k - (i + 1)) + 1 by omega] at h2; simpa using h2

theorem number_ops {ops : Array Oper} {k : Nat} {o : Oper} : (k, o) ∈ number ops.toList 0 ↔ ops[k]? = some o := by
  rw [number_mem]; simp

structure DataOk (ops : Array Oper) : Prop where
  back : EdgesBack ops
  guard : ∀ (i : Nat) (o : Oper) (g : Nat) (b : Bool), ops[i]? = some o → o.guard = some (g, b) → Pre ops i g
  dst : ∀ (i j : Nat) (o q : Oper) (d : Tmp), ops[i]? = some o → ops[j]? = some q → i ≠ j → q.dst = some d → o.dst ≠ some d
  sees : ∀ (i j : Nat) (o q : Oper) (d : Tmp), ops[i]? = some o → ops[j]? = some q → i ≠ j → q.dst = some d → d ∈ sees o → Pre ops i j ∨ Pre ops j i

theorem dataOk_spec {ops : Array Oper} (h : dataOk (masks ops.toList []) (number ops.toList 0) = true) : DataOk ops := by
  have key : ∀ i o, ops[i]? = some o → _ := fun i o ho => List.all_eq_true.1 h (i, o) (number_ops.2 ho)
  refine ⟨fun i o ho e he hb => ?_, fun i o g b ho hg => ?_, fun i j o q d ho hq hij hd => ?_, fun i j o q d ho hq hij hd hs => ?_⟩
  · have := key i o ho
    simp only [Bool.and_eq_true] at this
    have h2 := List.all_eq_true.1 this.1.1 e (by simpa using he)
    rw [hb] at h2
    exact blt_lt (by simpa using h2)
  · have := key i o ho
    simp only [Bool.and_eq_true] at this
    have h2 := this.1.2
    rw [hg] at h2
    exact h2
  · have := key i o ho
    simp only [Bool.and_eq_true] at this
    have h2 := List.all_eq_true.1 this.2 (j, q) (number_ops.2 hq)
    have hb : Nat.beq i j = false := by
      cases hb : Nat.beq i j with
      | false => rfl
      | true => exact absurd (Nat.eq_of_beq_eq_true hb) hij
    simp only [hb, hd, Bool.false_or, Bool.and_eq_true] at h2
    intro hc
    rw [hc] at h2
    simp at h2
  · have := key i o ho
    simp only [Bool.and_eq_true] at this
    have h2 := List.all_eq_true.1 this.2 (j, q) (number_ops.2 hq)
    have hb : Nat.beq i j = false := by
      cases hb : Nat.beq i j with
      | false => rfl
      | true => exact absurd (Nat.eq_of_beq_eq_true hb) hij
    simp only [hb, hd, Bool.false_or, Bool.and_eq_true] at h2
    have h3 := h2.2
    have hc : (sees o).contains d = true := by simpa using hs
    rw [hc] at h3
    simp only [Bool.not_true, Bool.false_or, Bool.or_eq_true] at h3
    exact h3

end Go.AI
/- Environments in a region. -/
namespace Go.AI

/-- What slot d holds when the operations of R have run. -/
def Looks (ops : Array Oper) (t0 : T V) (val : Nat → V) (R : Nat → Prop) (d : Tmp) (x : Option V) : Prop :=
  (∃ q o, ops[q]? = some o ∧ o.dst = some d ∧ R q ∧ x = some (val q)) ∨ ((∀ q o, ops[q]? = some o → o.dst = some d → ¬ R q) ∧ x = t0.get (pth d))

def Tof (ops : Array Oper) (t0 : T V) (val : Nat → V) (R : Nat → Prop) (t : T V) : Prop := ∀ d, Looks ops t0 val R d (t.get (pth d))

def Closed (ops : Array Oper) (R : Nat → Prop) : Prop := ∀ i k, R i → Pre ops i k → R k

def with1 (R : Nat → Prop) (i : Nat) : Nat → Prop := fun k => R k ∨ k = i

theorem Closed.with1 {ops : Array Oper} {R : Nat → Prop} (h : Closed ops R) {i : Nat} (hi : ∀ k, Pre ops i k → R k) : Closed ops (with1 R i) := by
  intro a k ha hk
  rcases ha with ha | rfl
  · exact .inl (h a k ha hk)
  · exact .inl (hi k hk)

theorem Tof.none {ops : Array Oper} {t0 : T V} {val : Nat → V} {R : Nat → Prop} (h : ∀ q, ¬ R q) : Tof ops t0 val R t0 := fun d => .inr ⟨fun q _ _ _ => h q, rfl⟩

theorem get_putD (t : T V) (d : Option Tmp) (v : V) (i : Nat) : (putD t d v).get (pth i) = if d = some i then some v else t.get (pth i) := get_putT t d (some v) i

theorem Tof.put {ops : Array Oper} (hD : DataOk ops) {t0 : T V} {val : Nat → V} {R : Nat → Prop} {t : T V} (h : Tof ops t0 val R t) {i : Nat} {o : Oper} (ho : ops[i]? = some o) : Tof ops t0 val (with1 R i) (putD t o.dst (val i)) := by
  intro d
  rw [get_putD]
  by_cases hd : o.dst = some d
  · rw [if_pos hd]
    exact .inl ⟨i, o, ho, hd, .inr rfl, rfl⟩
  · rw [if_neg hd]
    rcases h d with ⟨q, oq, h1, h2, h3, h4⟩ | ⟨h1, h2⟩
    · exact .inl ⟨q, oq, h1, h2, .inl h3, h4⟩
    · refine .inr ⟨fun q oq hq hdq hr => ?_, h2⟩
      rcases hr with hr | rfl
      · exact h1 q oq hq hdq hr
      · rw [ho] at hq; cases hq; exact hd hdq

theorem Tof.agree {ops : Array Oper} (hD : DataOk ops) {t0 : T V} {val : Nat → V} {R D : Nat → Prop} {t t' : T V} (h : Tof ops t0 val R t) (h' : Tof ops t0 val D t') (hR : Closed ops R) (hC : Closed ops D) {i : Nat} {o : Oper} (ho : ops[i]? = some o)
    (h1 : ∀ k, Pre ops i k → R k) (h2 : ∀ k, Pre ops i k → D k) (n1 : ¬ R i) (n2 : ¬ D i) {d : Tmp} (hd : d ∈ sees o ∨ ∃ g b q, o.guard = some (g, b) ∧ ops[g]? = some q ∧ q.dst = some d) : t.get (pth d) = t'.get (pth d) := by
  have key : ∀ q oq, ops[q]? = some oq → oq.dst = some d → (R q ↔ D q) := by
    intro q oq hq hdq
    by_cases hqi : q = i
    · subst hqi; exact ⟨fun r => absurd r n1, fun r => absurd r n2⟩
    · have hord : Pre ops i q ∨ Pre ops q i := by
        rcases hd with hd | ⟨g, b, qq, hg, hgq, hgd⟩
        · exact hD.sees i q o oq d ho hq (fun e => hqi e.symm) hdq hd
        · by_cases hgq' : g = q
          · subst hgq'; exact .inl (hD.guard i o g b ho hg)
          · exact absurd hgd (hD.dst g q qq oq d hgq hq hgq' hdq)
      rcases hord with p | p
      · exact ⟨fun _ => h2 q p, fun _ => h1 q p⟩
      · exact ⟨fun r => absurd (hR q i r p) n1, fun r => absurd (hC q i r p) n2⟩
  rcases h d with ⟨q, oq, a1, a2, a3, a4⟩ | ⟨a1, a2⟩
  · rcases h' d with ⟨q', oq', b1, b2, b3, b4⟩ | ⟨b1, b2⟩
    · have : q = q' := by
        by_cases e : q = q'
        · exact e
        · exact absurd a2 (hD.dst q q' oq oq' d a1 b1 e b2)
      subst this
      rw [a4, b4]
    · exact absurd ((key q oq a1 a2).1 a3) (b1 q oq a1 a2)
  · rcases h' d with ⟨q', oq', b1, b2, b3, b4⟩ | ⟨b1, b2⟩
    · exact absurd ((key q' oq' b1 b2).2 b3) (a1 q' oq' b1 b2)
    · rw [a2, b2]

end Go.AI
