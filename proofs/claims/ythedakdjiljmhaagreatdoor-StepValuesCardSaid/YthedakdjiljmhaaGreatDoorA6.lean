/- The evaluator's operations are sound, last part. No conditions. -/
import Derived.Test.YthedakdjiljmhaaGreatDoorA5
import Derived.Lib.Bytealg
set_option linter.unusedVariables false
set_option linter.unusedSimpArgs false
noncomputable section
/- Operations, eighth part: rows that grow. -/
namespace Go.AI
section ops
variable {P : Program} {ρ : Rho} {s : S} {w : World} {t : T V} {tm : Array Value}

/-- A lineage gets a new version. -/
theorem HR.grow {w' : World} (h : HR ρ s w) {f nv v0 : Nat} {l l0 : Loc} (h0 : ρ f v0 = some l0) (hnv : ρ f nv = none)
    (hin : ∀ g v x, ρ g v = some x → x.b = l.b → g = f ∧ x.base = l.base) (hlow : l.b < w'.heap.size) (hsize : w.heap.size ≤ w'.heap.size)
    (hos : w'.os = w.os) (htape : w'.tape = w.tape) (hout : w'.output = w.output)
    (hoth : ∀ k, k < w.heap.size → k ≠ l.b → w'.heap[k]? = w.heap[k]?) (hnew : l.b < w.heap.size → ∃ g v x, ρ g v = some x ∧ x.b = l.b ∧ ¬ x.ro) (hnl : ¬ l.ro) (hrw : ∀ v l, ρ f v = some l → ¬ l.ro)
    {B : Blk} (hB : BlkR (ρ.put f nv l) w' f B) : HR (ρ.put f nv l) (s.put f B) w' ∧ FR ρ w (ρ.put f nv l) w' := by
  have hf : f < s.next := Nat.lt_of_not_le fun hc => by have := h.fresh f v0 hc; rw [h0] at this; cases this
  refine ⟨⟨?_, ?_, ?_, ?_, ?_, ?_⟩, ⟨Rho.le_put _ hnv, hsize, hos, htape, hout, ?_, ?_⟩⟩
  · intro g v hg
    rw [S.next_put] at hg
    unfold Rho.put
    rw [if_neg (by omega)]
    exact h.fresh g v hg
  · intro g v x g' v' x' e e' hb
    rcases Rho.of_put e with ⟨rfl, rfl, rfl⟩ | d
    · rcases Rho.of_put e' with ⟨rfl, rfl, rfl⟩ | d'
      · exact ⟨rfl, rfl⟩
      · obtain ⟨q1, q2⟩ := hin _ _ _ d' hb.symm
        exact ⟨q1.symm, q2.symm⟩
    · rcases Rho.of_put e' with ⟨rfl, rfl, rfl⟩ | d'
      · exact hin _ _ _ d hb
      · exact h.inj _ _ _ _ _ _ d d' hb
  · intro g v x e
    rcases Rho.of_put e with ⟨rfl, rfl, rfl⟩ | e
    · exact hlow
    · exact Nat.lt_of_lt_of_le (h.low _ _ _ e) hsize
  · intro g B' hg
    rw [S.get_put] at hg
    split at hg
    · rename_i e; cases hg; subst e; exact hB
    · rename_i hne
      refine (h.blk g B' hg).keep (Rho.le_put _ hnv) (fun v hv => ?_) (fun v x hx => hoth _ (h.low _ _ _ hx) fun e => hne (hin _ _ _ hx e).1.symm)
      unfold Rho.put; rw [if_neg (by omega)]; exact hv
  · intro g B' hg
    rw [S.get_put] at hg
    rw [S.next_put]
    split at hg
    · rename_i e; subst e; exact hf
    · exact h.dom g B' hg
  · intro g B' hg hnr v x hx
    rw [S.get_put] at hg
    rcases Rho.of_put hx with ⟨rfl, rfl, rfl⟩ | hx
    · exact hnl
    · split at hg
      · rename_i e; subst e; exact hrw v x hx
      · exact h.rw g B' hg hnr v x hx
  · intro b hb hn
    refine hoth b hb fun e => ?_
    subst e
    obtain ⟨g, v, x, q1, q2, q3⟩ := hnew hb
    exact hn g v x q1 q3 q2
  · intro g v x e hl
    rcases Rho.of_put e with ⟨rfl, rfl, rfl⟩ | e
    · obtain ⟨g, v, y, q1, q2, q3⟩ := hnew hl
      exact ⟨g, v, y, q1, q2, fun q => absurd q q3⟩
    · exact ⟨g, v, x, e, rfl, id⟩

theorem FR.drew (ρ : Rho) (w : World) : FR ρ w ρ w.drew := FR.drawn w _
theorem HR.drew (h : HR ρ s w) : HR ρ s w.drew := h.drawn _

/-- A fresh row with room at its end. -/
theorem growNew_sound (h : HR ρ s w) {elem : TypeId} {cs : List V} {ys : List Value} (hd : denL ρ cs = some ys) {len sz cap : Nat} (hl : len ≤ cap) (hsz : 0 < sz) (hlen : ys.length = len * sz) {rest : Array Value} (hr : rest.size = (cap - len) * sz)
    {v : V} {s' : S} (e : growNew s elem cs len sz = (v, s')) :
    ∃ ρ', den ρ' v = some (.slice (some ⟨w.heap.size, 0, none⟩) len cap) ∧ HR ρ' s' (w.alloc (.cells (ys.toArray ++ rest) elem)) ∧ FR ρ w ρ' (w.alloc (.cells (ys.toArray ++ rest) elem)) := by
  simp only [growNew, newCells] at e
  have hsize : (ys.toArray ++ rest).size = cap * sz := by
    rw [Array.size_append, hr]
    have : ys.toArray.size = len * sz := by simpa using hlen
    rw [this, ← Nat.add_mul]; congr 1; omega
  have hlc := denL_length hd
  obtain ⟨ρ', h1, h2, h3⟩ := newCells_sound h false elem elem (cs := cs) (ys := ys.toArray ++ rest) (by
    rw [hd]; congr 1
    simp [← hlc]) (0, 0) ⟨fun _ => rfl, by simp⟩
  simp only [newCellsB] at e h2
  cases e
  refine ⟨ρ', ?_, h2, h3⟩
  rw [hsize] at h1
  have hq : cap * sz / sz = cap := Nat.mul_div_cancel _ hsz
  rw [slice_mk (a := ⟨s.next, 0, 0⟩) (z := 0) (cap := none) h1 (by simp [coordOf]) (Nat.zero_le _) (by show len ≤ (cap * sz - 0) / sz; rw [Nat.sub_zero, hq]; exact hl) hsz]
  simp only [capOf, coordOf]
  simp [Nat.sub_zero, hq]

theorem zeroCells_size (z : Array Value) (n : Nat) : (Builtin.zeroCells z n).size = n * z.size := by simp [Builtin.zeroCells]

theorem takeExact_load {a : Ad} {e : TypeId} {sb : Bool} {nv : Nat} {vers : List Ver} {u : Ver} {n : Nat} {old : List V} (hg : s.get a.f = some (.cells e sb nv vers)) (hu : findVer vers a.v = some u) (hb : Nat.ble u.lo a.c = true)
    (ho : takeExact n (u.cells.drop (a.c - u.lo)) = some old) : loadCells s a n = some old := by
  unfold loadCells
  rw [hg]
  simp only [hu, hb, cond_true, ho]

theorem elemOk_spec {elem : TypeId} {sz : Nat} (h : elemOk P elem sz = true) : ∃ z i, P.info? elem = some i ∧ i.zero = some z ∧ z.cells.size = sz ∧ 0 < sz ∧ i.bytes * 10000000 ≤ 100000000000000 := by
  unfold elemOk at h
  split at h
  · rename_i zv hz
    simp only [Bool.and_eq_true] at h
    obtain ⟨z, i, hi, hzi, hd⟩ := zero_spec hz
    refine ⟨z, i, hi, hzi, ?_, blt_lt h.1.2, ?_⟩
    · rw [cells_size (hd fun _ _ => none)]; exact Nat.eq_of_beq_eq_true h.1.1
    · have := h.2
      unfold smallT at this
      rw [hi] at this
      exact Nat.le_of_ble_eq_true this
  · cases h

/-- Append at a row, some more cells. -/
theorem growS_sound (h : HR ρ s w) {ts : Array TypeId} {ty sT xT elem : TypeId} {d : TypeDesc} {n sz len z : Nat} {a : Ad} {cap : Option Nat} {y : V} {Xv Yv : Value} {l : List V} (h0 : ts[0]? = some sT) (h1 : ts[1]? = some xT)
    (hs : P.underlying sT = some (.slice elem)) (hx : P.underlying xT = some d) (hd : ∀ k, d ≠ .int k) (hz : size P elem = some sz) (hok : elemOk P elem sz = true)
    (hX : den ρ (.slice a z len cap sz) = some Xv) (hY : den ρ y = some Yv) (ha : appended s sz y = some (l, n)) (hn : n ≤ 1000000) (hlen : len ≤ 1000000) (hn0 : n ≠ 0) {v : V} {s' : S} (e : growS s elem a z len cap sz l n = some (v, s')) :
    ∃ ρ' r w', (Builtin.append_ ts ty #[Xv, Yv]).run P w = .ok r w' ∧ den ρ' v = some r ∧ HR ρ' s' w' ∧ FR ρ w ρ' w' := by
  obtain ⟨zv, i, hi, hzi, hzs, hsz0, hbytes⟩ := elemOk_spec hok
  obtain ⟨lo, g1, g2, g3, g4, g5, rfl⟩ := slice_inv hX (.inl (by omega))
  obtain ⟨ys, y1, y2, y3, y4⟩ := appended_sound (P := P) h hY ha
  obtain ⟨ys', y1', y2', y3', y4'⟩ := appended_sound (P := P) h.drew hY ha
  rw [y1] at y1'; cases y1'
  unfold growS at e
  split at e
  · rename_i el sb nv vers hg
    split at e
    · rename_i u hu
      cases hb : Nat.ble u.lo a.c with
      | false => rw [hb] at e; cases e
      | true =>
      rw [hb] at e
      simp only [cond_true] at e
      split at e
      · rename_i old ho
        have hload := takeExact_load hg hu hb ho
        obtain ⟨lo', os, k1, k2, k3, k4, k5⟩ := load_run (P := P) h hload
        obtain ⟨lo'', os', k1', k2', k3', k4', k5'⟩ := load_run (P := P) h.drew hload
        rw [k3] at k3'; cases k3'
        rw [g1] at k1 k1'; cases k1; cases k1'
        have hcoord : 0 < len → coordOf lo a z cap sz = a.c := coord_pos g4
        have hold : (Builtin.firstCells sz len (.slice (some ⟨lo.b, coordOf lo a z cap sz - lo.base, none⟩) len (capOf lo a cap sz))).run P w.drew = .ok os.toArray w.drew := by
          rcases Nat.eq_zero_or_pos len with q | q
          · subst q
            have : os = [] := by simpa using k4
            subst this
            have := run_loadCells_list (P := P) (w := w.drew) ⟨lo.b, coordOf lo a z cap sz - lo.base, none⟩ [] (fun j v h => by simp at h)
            simp only [Builtin.firstCells, Nat.zero_mul]
            exact this
          · rw [hcoord q]; exact k5'
        have hall := denL_append k3 y1
        have hallLen : (os ++ ys).length = (len + n) * sz := by rw [List.length_append, k4, y2, Nat.add_mul]
        have fresh : capOf lo a cap sz < len + n → ∀ v s', growNew s elem (old ++ l) (len + n) sz = (v, s') →
            ∃ ρ' r w', (Builtin.append_ ts ty #[.slice (some ⟨lo.b, coordOf lo a z cap sz - lo.base, none⟩) len (capOf lo a cap sz), Yv]).run P w = .ok r w' ∧ den ρ' v = some r ∧ HR ρ' s' w' ∧ FR ρ w ρ' w' := by
          intro hlt v s' e
          have hrun := append_grow (ty := ty) h0 h1 hs hx hd hz hi hzi y3 hlt (by omega) hbytes hold y4'
          obtain ⟨ρ', j1, j2, j3⟩ := growNew_sound h.drew (elem := elem) hall (grownCap_ge w (len + n) (capOf lo a cap sz) elem) hsz0 hallLen (rest := Builtin.zeroCells zv.cells (grownCap w (len + n) (capOf lo a cap sz) elem - (len + n))) (by rw [zeroCells_size, hzs]) e
          refine ⟨ρ', _, _, hrun, j1, ?_, (FR.drew ρ w).trans ?_⟩
          · simpa using j2
          · simpa using j3
        split at e
        · -- a known capacity
          rename_i c
          unfold growCap at e
          cases hc : Nat.ble (len + n) c with
          | false =>
            rw [hc] at e
            simp only [cond_false, Option.some.injEq] at e
            refine fresh ?_ _ _ e
            show c < len + n
            exact Nat.lt_of_not_le fun q => by rw [Nat.ble_eq_true_of_le q] at hc; cases hc
          | true =>
            rw [hc] at e
            simp only [cond_true] at e
            have hle := Nat.le_of_ble_eq_true hc
            split at e
            · rename_i s1 hst
              cases e
              obtain ⟨ad, w', q1, q2, q3, q4⟩ := storeCells_sound P h hst y1
              have hrun := append_room (ty := ty) (w := w) (base := some ⟨lo.b, a.c - lo.base, none⟩) h0 h1 hs hx hd hz y3 hle y4
              have had : ad = (⟨lo.b, a.c - lo.base, none⟩ : Addr).add (len * sz) := by
                have := denA_add (ρ := ρ) (len * sz) (denA_mk g1 g3)
                rw [this] at q1; exact (Option.some.inj q1).symm
              simp only [← had, q2, Result.andThen_ok] at hrun
              refine ⟨ρ, _, w', hrun, ?_, q3, q4⟩
              exact slice_mk g1 g3 g3 hle g5
            · cases e
        · -- an unknown capacity
          cases ha1 : l.all V.one with
          | false => rw [ha1] at e; cases e
          | true =>
          rw [ha1] at e
          simp only [cond_true, Option.some.injEq] at e
          unfold growNone at e
          cases e
          obtain ⟨vr, hmem, hv⟩ := h.ver hg hu
          obtain ⟨lv, c, el', fz, r1, r2, r3, r4, r5, r6⟩ := vr
          rw [hv, g1] at r1; cases r1
          have hB := h.blk _ _ hg
          have hnv : ρ a.f nv = none := hB.1 nv (Nat.le_refl _)
          have hcells : ∀ (j : Nat) (q : Value), os[j]? = some q → c[a.c - lo.base + j]? = some q := by
            obtain ⟨ad, os2, t1, t2, t3, t4⟩ := loadCells_sound h hload
            rw [k3] at t2; cases t2
            rw [denA_mk g1 g3] at t1; cases t1
            intro j q hq
            have := t4 j q hq
            rw [addr_add] at this
            simpa [World.cell?, r2] using this
          rcases Nat.lt_or_ge (capOf lo a none sz) (len + n) with hlt | hge
          · -- a new row
            have hrun := append_grow (ty := ty) h0 h1 hs hx hd hz hi hzi y3 hlt (by omega) hbytes hold y4'
            generalize hcap : grownCap w (len + n) (capOf lo a none sz) elem = newCap at hrun
            have hcge : len + n ≤ newCap := by rw [← hcap]; exact grownCap_ge w _ _ _
            have hsize : (os.toArray ++ ys.toArray ++ Builtin.zeroCells zv.cells (newCap - (len + n))).size = newCap * sz := by
              rw [Array.size_append, zeroCells_size, hzs, Array.size_append, List.size_toArray, List.size_toArray, ← List.length_append, hallLen, ← Nat.add_mul]
              congr 1; omega
            have hq : newCap * sz / sz = newCap := Nat.mul_div_cancel _ hsz0
            have hheap : ∀ k, k < w.heap.size → (w.drew.alloc (.cells (os.toArray ++ ys.toArray ++ Builtin.zeroCells zv.cells (newCap - (len + n))) elem)).heap[k]? = w.heap[k]? := fun k hk => heap_alloc_lt w.drew _ hk
            obtain ⟨j1, j2⟩ := h.grow (w' := w.drew.alloc (.cells (os.toArray ++ ys.toArray ++ Builtin.zeroCells zv.cells (newCap - (len + n))) elem)) (f := a.f) (nv := nv) (l := ⟨w.heap.size, a.c, a.c + newCap * sz⟩) g1 hnv
              (fun g v x hx hb => by have := h.low _ _ _ hx; simp only at hb; omega) (by simp) (by simp) rfl rfl rfl
              (fun k hk _ => hheap k hk) (fun hb => by simp at hb) (by show ¬ (a.c + newCap * sz < a.c); omega) (fun v x hx => h.rw _ _ hg (fun _ h => by cases h) v x hx)
              (B := .cells el sb (nv + 1) (⟨nv, a.c, old ++ l⟩ :: vers.filter fun u => Nat.ble (u.lo + u.cells.length) (a.c + len * sz))) (by
                refine ⟨fun v hv => ?_, fun u' hu' => ?_⟩
                · unfold Rho.put; rw [if_neg (by omega)]; exact hB.1 v (by omega)
                · rcases List.mem_cons.1 hu' with rfl | hu'
                  · refine ⟨Nat.lt_succ_self _, ⟨w.heap.size, a.c, a.c + newCap * sz⟩, _, elem, (0, 0), Rho.put_same _ _ _ _, heap_alloc_new w.drew _, Nat.le_refl _, by rw [hsize], ⟨fun _ => rfl, by simp⟩, fun i x hxi => ?_⟩
                    obtain ⟨q, q1, q2⟩ := denL_get i hall hxi
                    refine ⟨q, den_mono (Rho.le_put _ hnv) _ _ q1, ?_⟩
                    have hi2 : i < (os ++ ys).length := (List.getElem?_eq_some_iff.1 q2).1
                    simp only [Nat.sub_self, Nat.zero_add]
                    rw [← Array.getElem?_toList, Array.toList_append, Array.toList_append]
                    rw [List.getElem?_append_left (by simpa using hi2)]
                    exact q2
                  · have hu2 := (List.mem_filter.1 hu').1
                    obtain ⟨p1, p2⟩ := hB.2 u' hu2
                    exact ⟨by omega, (p2.of_heap fun l' hl' => hheap _ (h.low _ _ _ hl')).mono (Rho.le_put _ hnv)⟩)
            refine ⟨_, _, _, hrun, ?_, j1, j2⟩
            have hcp : capOf ⟨w.heap.size, a.c, a.c + newCap * sz⟩ ⟨a.f, nv, a.c⟩ none sz = newCap := by simp [capOf, hq]
            have hco : coordOf ⟨w.heap.size, a.c, a.c + newCap * sz⟩ ⟨a.f, nv, a.c⟩ z none sz = a.c := coord_pos (len := len + n) (by rw [hcp]; exact hcge) (by omega)
            rw [slice_mk (a := ⟨a.f, nv, a.c⟩) (z := z) (len := len + n) (cap := none) (l := ⟨w.heap.size, a.c, a.c + newCap * sz⟩) (Rho.put_same _ _ _ _) (by rw [hco]; exact Nat.le_refl _) (Nat.le_refl _) (by rw [hcp]; exact hcge) g5, hco, hcp]
            simp
          · -- in place
            have hroom := hge
            have hcoord' : coordOf lo a z none sz = a.c := coord_pos (len := len + n) hge (by omega)
            have hrun := append_room (ty := ty) (w := w) (base := some ⟨lo.b, a.c - lo.base, none⟩) h0 h1 hs hx hd hz y3 hroom y4
            have hfit : a.c - lo.base + len * sz + 0 + ys.length ≤ c.size := by
              have t1 : (len + n) * sz ≤ (lo.lim - a.c) / sz * sz := Nat.mul_le_mul_right _ hge
              have t2 := Nat.div_mul_le_self (lo.lim - a.c) sz
              have t3 : 1 * sz ≤ (len + n) * sz := Nat.mul_le_mul_right _ (by omega)
              rw [y2]
              rw [Nat.add_mul] at t1 t3
              omega
            have hone : ∀ q ∈ ys, q.oneCell' = true := fun q hq => by
              obtain ⟨j, hj⟩ := List.getElem?_of_mem hq
              have hyl := denL_length y1
              have hj2 : j < l.length := by have := (List.getElem?_eq_some_iff.1 hj).1; omega
              obtain ⟨q', t1, t2⟩ := denL_get j y1 (List.getElem?_eq_getElem hj2)
              rw [hj] at t2; cases t2
              exact one_of_den t1 (List.all_eq_true.1 ha1 _ (List.getElem_mem hj2))
            obtain ⟨w', c', p1, p2, p3, p4, p5⟩ := store_run P lo.b (a.c - lo.base + len * sz) el' fz ys 0 c w r2 r5.2 hfit hone
            simp only [addr_add, p1, Result.andThen_ok] at hrun
            rw [← hcoord'] at hrun
            have hin : ∀ g v x, ρ g v = some x → x.b = lo.b → g = a.f ∧ x.base = lo.base := fun g v x hx hb => h.inj _ _ _ _ _ _ hx g1 hb
            obtain ⟨j1, j2⟩ := h.grow (w' := w') (f := a.f) (nv := nv) (l := lo) g1 hnv hin (by rw [p2.size]; exact h.low _ _ _ g1) (by rw [p2.size]; exact Nat.le_refl _) p2.os p2.tape p2.output
              (fun k _ hk => p2.other k hk) (fun _ => ⟨_, _, _, g1, rfl, h.rw _ _ hg (fun _ h => by cases h) _ _ g1⟩) (h.rw _ _ hg (fun _ h => by cases h) _ _ g1) (fun v x hx => h.rw _ _ hg (fun _ h => by cases h) v x hx)
              (B := .cells el sb (nv + 1) (⟨nv, a.c, old ++ l⟩ :: vers.filter fun u => Nat.ble (u.lo + u.cells.length) (a.c + len * sz))) (by
                refine ⟨fun v hv => ?_, fun u' hu' => ?_⟩
                · unfold Rho.put; rw [if_neg (by omega)]; exact hB.1 v (by omega)
                · rcases List.mem_cons.1 hu' with rfl | hu'
                  · refine ⟨Nat.lt_succ_self _, lo, c', el', fz, Rho.put_same _ _ _ _, p3, g3, by rw [p4]; exact r4, by rw [p4]; exact r5, fun i x hxi => ?_⟩
                    obtain ⟨q, q1, q2⟩ := denL_get i hall hxi
                    refine ⟨q, den_mono (Rho.le_put _ hnv) _ _ q1, ?_⟩
                    rw [p5]
                    have hi2 : i < (os ++ ys).length := (List.getElem?_eq_some_iff.1 q2).1
                    rw [List.length_append, k4] at hi2
                    simp only
                    by_cases hi3 : i < len * sz
                    · rw [if_neg (by omega)]
                      rw [List.getElem?_append_left (by omega)] at q2
                      exact hcells i q q2
                    · rw [if_pos (by omega)]
                      rw [List.getElem?_append_right (by omega), k4] at q2
                      rw [← q2]; congr 1; omega
                  · have hu2 := (List.mem_filter.1 hu').1
                    have hu3 := Nat.le_of_ble_eq_true (List.mem_filter.1 hu').2
                    obtain ⟨s1, l', c2, e2, f2, t1, t2, t3, t4, t5, t6⟩ := hB.2 u' hu2
                    refine ⟨by omega, ?_⟩
                    by_cases hbl : l'.b = lo.b
                    · obtain ⟨_, hbase⟩ := hin _ _ _ t1 hbl
                      rw [hbl, r2] at t2; cases t2
                      refine ⟨l', c', el', fz, Rho.le_put _ hnv _ _ _ t1, by rw [hbl]; exact p3, t3, by rw [p4]; exact t4, by rw [p4]; exact t5, fun i x hxi => ?_⟩
                      obtain ⟨q, q1, q2⟩ := t6 i x hxi
                      refine ⟨q, den_mono (Rho.le_put _ hnv) _ _ q1, ?_⟩
                      have hi2 : i < u'.cells.length := (List.getElem?_eq_some_iff.1 hxi).1
                      rw [p5, if_neg (by omega)]
                      exact q2
                    · exact ⟨l', c2, e2, f2, Rho.le_put _ hnv _ _ _ t1, by rw [p2.other _ hbl]; exact t2, t3, t4, t5, fun i x hxi => by
                        obtain ⟨q, q1, q2⟩ := t6 i x hxi
                        exact ⟨q, den_mono (Rho.le_put _ hnv) _ _ q1, q2⟩⟩)
            refine ⟨_, _, w', hrun, ?_, j1, j2⟩
            have hcp : capOf lo ⟨a.f, nv, a.c⟩ none sz = capOf lo a none sz := rfl
            have hco : coordOf lo ⟨a.f, nv, a.c⟩ z none sz = coordOf lo a z none sz := rfl
            rw [slice_mk (a := ⟨a.f, nv, a.c⟩) (z := z) (len := len + n) (cap := none) (l := lo) (Rho.put_same _ _ _ _) (by rw [hco]; exact g2) g3 (by rw [hcp]; exact hge) g5, hco, hcp]
      · cases e
    · cases e
  · cases e

theorem appendV_sound (h : HR ρ s w) {ts : Array TypeId} {ty sT xT : TypeId} {x y : V} {X Y : Value} (h0 : ts[0]? = some sT) (h1 : ts[1]? = some xT) (hX : den ρ x = some X) (hY : den ρ y = some Y)
    {v : V} {s' : S} (e : appendV P sT xT s x y = some (v, s')) :
    ∃ ρ' r w', (Builtin.append_ ts ty #[X, Y]).run P w = .ok r w' ∧ den ρ' v = some r ∧ HR ρ' s' w' ∧ FR ρ w ρ' w' := by
  unfold appendV at e
  split at e
  · rename_i elem hs
    cases hni : noInt P xT with
    | false => rw [hni] at e; cases e
    | true =>
    rw [hni] at e
    simp only [cond_true] at e
    obtain ⟨d, hx, hd⟩ := noInt_spec hni
    split at e
    · rename_i sz hz
      cases hok : elemOk P elem sz with
      | false => rw [hok] at e; cases e
      | true =>
      rw [hok] at e
      simp only [cond_true] at e
      unfold appendTo at e
      split at e
      · rename_i l n ha
        cases hn : Nat.ble n 1000000 with
        | false => rw [hn] at e; cases e
        | true =>
        rw [hn] at e
        simp only [cond_true] at e
        have hn := Nat.le_of_ble_eq_true hn
        obtain ⟨zv, i, hi, hzi, hzs, hsz0, hbytes⟩ := elemOk_spec hok
        obtain ⟨ys, y1, y2, y3, y4⟩ := appended_sound (P := P) h hY ha
        split at e
        · cases hX
          cases hb : Nat.beq n 0 with
          | true =>
            rw [hb] at e
            obtain rfl := Nat.eq_of_beq_eq_true hb
            cases e
            refine ⟨ρ, .slice none 0 0, w, ?_, rfl, h, FR.refl ρ w⟩
            exact append_room (ty := ty) (base := none) (sLen := 0) (sCap := 0) h0 h1 hs hx hd hz y3 (Nat.le_refl _) y4
          | false =>
            rw [hb] at e
            simp only [cond_false, Option.some.injEq] at e
            have hn0 : 0 < n := Nat.pos_of_ne_zero fun q => by subst q; simp at hb
            obtain ⟨ys', y1', y2', y3', y4'⟩ := appended_sound (P := P) h.drew hY ha
            rw [y1] at y1'; cases y1'
            have hrun := append_grow (ty := ty) (base := none) (sLen := 0) (sCap := 0) (olds := #[]) h0 h1 hs hx hd hz hi hzi y3 (by omega) (by omega) hbytes rfl y4'
            simp only [Nat.zero_add] at hrun
            obtain ⟨ρ', j1, j2, j3⟩ := growNew_sound h.drew (elem := elem) y1 (grownCap_ge w n 0 elem) hsz0 y2 (rest := Builtin.zeroCells zv.cells (grownCap w n 0 elem - n)) (by rw [zeroCells_size, hzs]) e
            refine ⟨ρ', _, _, hrun, j1, ?_, (FR.drew ρ w).trans ?_⟩
            · simpa using j2
            · simpa using j3
        · rename_i a z len cap sz'
          cases hb : (Nat.beq sz sz' && Nat.ble len 1000000) with
          | false => rw [hb] at e; cases e
          | true =>
          rw [hb] at e
          simp only [cond_true] at e
          simp only [Bool.and_eq_true] at hb
          obtain rfl := Nat.eq_of_beq_eq_true hb.1
          have hlen := Nat.le_of_ble_eq_true hb.2
          cases hb : Nat.beq n 0 with
          | true =>
            rw [hb] at e
            obtain rfl := Nat.eq_of_beq_eq_true hb
            cases e
            obtain ⟨lo, g1, g2, g3, g4, g5, rfl⟩ := slice_inv hX (.inl (by omega))
            refine ⟨ρ, _, w, ?_, hX, h, FR.refl ρ w⟩
            have := append_room (ty := ty) (w := w) (base := some ⟨lo.b, coordOf lo a z cap sz - lo.base, none⟩) (sLen := len) (sCap := capOf lo a cap sz) h0 h1 hs hx hd hz y3 g4 y4
            have hys : ys = [] := by simpa using y2
            subst hys
            rw [this]
            simp [Go.storeCells]
          | false =>
            rw [hb] at e
            simp only [cond_false] at e
            exact growS_sound h h0 h1 hs hx hd hz hok hX hY ha hn hlen (fun q => by subst q; simp at hb) e
        · cases e
      · cases e
    · cases e
  · cases e

end ops
end Go.AI
/- Operations, ninth part: calls. -/
namespace Go.AI
section ops
variable {P : Program} {ρ : Rho} {s : S} {w : World} {t : T V} {tm : Array Value}

theorem den_one {x : V} {ys : List Value} (h : denL ρ [x] = some ys) : ∃ X, den ρ x = some X ∧ ys = [X] := by
  obtain ⟨X, q, h1, h2, rfl⟩ := denL_cons.1 h
  cases h2; exact ⟨X, h1, rfl⟩
theorem den_two {x y : V} {ys : List Value} (h : denL ρ [x, y] = some ys) : ∃ X Y, den ρ x = some X ∧ den ρ y = some Y ∧ ys = [X, Y] := by
  obtain ⟨X, q, h1, h2, rfl⟩ := denL_cons.1 h
  obtain ⟨Y, h3, rfl⟩ := den_one h2
  exact ⟨X, Y, h1, h3, rfl⟩

theorem lenV_sound (h : HR ρ s w) {ts : Array TypeId} {ty t0 : TypeId} {x : V} {X : Value} {v : V} (h0 : ts[0]? = some t0) (hx : den ρ x = some X) (e : lenV P t0 s x = some v) :
    ∃ y, den ρ v = some y ∧ (Builtin.len_ ts ty #[X]).run P w = .ok y w := by
  unfold lenV at e
  split at e
  · rename_i l hu
    cases e; cases hx
    exact ⟨_, by rw [mkInt_eq]; rfl, by simp [Builtin.len_, h0, run_und hu, bytesV_size, goInt]⟩
  · rename_i n _ _ hu
    cases e
    exact ⟨_, rfl, by simp [Builtin.len_, h0, run_und hu, goInt]⟩
  · rename_i el a z n cap sz hu
    cases e
    obtain ⟨b', c', rfl, _⟩ := slice_shape hx
    exact ⟨_, by rw [mkInt_eq]; rfl, by simp [Builtin.len_, h0, run_und hu, goInt]⟩
  · rename_i el hu
    cases e; cases hx
    exact ⟨_, rfl, by simp [Builtin.len_, h0, run_und hu, goInt]⟩
  · rename_i k el hu
    cases e; cases hx
    exact ⟨_, rfl, by simp [Builtin.len_, h0, run_und hu, goInt]⟩
  · rename_i k el r hu
    split at e
    · rename_i es c hg
      cases e
      obtain ⟨l, hl, rfl⟩ := map_inv hx
      obtain ⟨l', rs, g1, g2, g3⟩ := h.blk _ _ hg
      rw [hl] at g1; cases g1
      have : es.length = rs.size := (EntsR.length g3).trans (Array.length_toList (xs := rs))
      exact ⟨.int .i64 (rs.size : Nat), by rw [← this]; rfl, by simp [Builtin.len_, h0, run_und hu, goInt, run_getMap g2]⟩
    · cases e
  · cases e

theorem capV_sound {ts : Array TypeId} {ty t0 : TypeId} {x : V} {X : Value} {v : V} (h0 : ts[0]? = some t0) (hx : den ρ x = some X) (e : capV P t0 x = some v) :
    ∃ y, den ρ v = some y ∧ (Builtin.cap_ ts ty #[X]).run P w = .ok y w := by
  unfold capV at e
  split at e
  · rename_i el hu
    split at e
    · cases e; cases hx
      exact ⟨_, rfl, by simp [Builtin.cap_, h0, run_und hu, goInt]⟩
    · rename_i a z n c sz
      cases e
      obtain ⟨b', c', rfl, hcc⟩ := slice_shape hx
      obtain rfl := hcc _ rfl
      exact ⟨_, by rw [mkInt_eq]; rfl, by simp [Builtin.cap_, h0, run_und hu, goInt]⟩
    · cases e
  · cases e

theorem fold_sound {f : V → V → Option V} {g : Value → Value → Sem Value} (hfg : ∀ x y v X Y, f x y = some v → den ρ x = some X → den ρ y = some Y → ∃ z, den ρ v = some z ∧ (g X Y).run P w = .ok z w) :
    ∀ (l : List V) (ys : List Value) (x : V) (X : Value) (v : V), denL ρ l = some ys → den ρ x = some X → l.foldlM f x = some v → ∃ y, den ρ v = some y ∧ (ys.foldlM g X).run P w = .ok y w
  | [], ys, x, X, v, hl, hx, h => by
    cases hl
    simp at h; subst h
    exact ⟨X, hx, rfl⟩
  | a :: l, ys, x, X, v, hl, hx, h => by
    obtain ⟨y, q, h1, h2, rfl⟩ := denL_cons.1 hl
    simp only [List.foldlM_cons] at h
    cases hf : f x a with
    | none => rw [hf] at h; simp at h
    | some u =>
      rw [hf] at h
      simp at h
      obtain ⟨z, z1, z2⟩ := hfg _ _ _ _ _ hf hx h1
      obtain ⟨y', k1, k2⟩ := fold_sound hfg l q u z v h2 z1 h
      exact ⟨y', k1, by simp only [List.foldlM_cons, Sem.run_bind, z2, Result.andThen_ok, k2]⟩

theorem maxV_sound (x y v : V) (X Y : Value) (h : maxV x y = some v) (hx : den ρ x = some X) (hy : den ρ y = some Y) : ∃ z, den ρ v = some z ∧ (Builtin.max2 X Y).run P w = .ok z w := by
  unfold maxV at h
  split at h
  · rename_i j a k b
    cases hk : sameKind j k with
    | false => rw [hk] at h; cases h
    | true =>
      rw [hk] at h
      simp only [cond_true, Option.some.injEq] at h
      subst h; cases hx; cases hy
      refine ⟨_, rfl, ?_⟩
      simp only [Builtin.max2, Sem.run_pure]
      by_cases hc : b > a <;> simp [hc]
  · cases h

theorem minV_sound (x y v : V) (X Y : Value) (h : minV x y = some v) (hx : den ρ x = some X) (hy : den ρ y = some Y) : ∃ z, den ρ v = some z ∧ (Builtin.min2 X Y).run P w = .ok z w := by
  unfold minV at h
  split at h
  · rename_i j a k b
    cases hk : sameKind j k with
    | false => rw [hk] at h; cases h
    | true =>
      rw [hk] at h
      simp only [cond_true, Option.some.injEq] at h
      subst h; cases hx; cases hy
      refine ⟨_, rfl, ?_⟩
      simp only [Builtin.min2, Sem.run_pure]
      by_cases hc : b < a <;> simp [hc]
  · cases h

theorem copied_sound (h : HR ρ s w) {sz n k : Nat} {y : V} {Y : Value} {l : List V} (hy : den ρ y = some Y) (e : copied s sz n y = some (l, k)) :
    ∃ ys m, denL ρ l = some ys ∧ (Builtin.lenOf Y).run P w = .ok m w ∧ k = Nat.min m n ∧ (Builtin.firstCells sz k Y).run P w = .ok ys.toArray w := by
  unfold copied at e
  split at e
  · cases e; cases hy
    exact ⟨[], 0, rfl, rfl, by simp, rfl⟩
  · rename_i b z m cap sz'
    cases hz0 : Nat.beq sz' 0 with
    | true => rw [hz0] at e; cases e
    | false =>
    rw [hz0] at e
    simp only [cond_false] at e
    cases hb : Nat.beq sz sz' with
    | false => rw [hb] at e; cases e
    | true =>
      rw [hb] at e
      obtain rfl := Nat.eq_of_beq_eq_true hb
      simp only [cond_true] at e
      split at e
      · rename_i l' hl
        cases e
        obtain ⟨lo, g1, g2, g3, g4, g5, rfl⟩ := slice_inv hy (.inl (nz_of hz0))
        obtain ⟨lo', ys, k1, k2, k3, k4, k5⟩ := load_run (P := P) h hl
        rw [g1] at k1; cases k1
        refine ⟨ys, m, k3, rfl, rfl, ?_⟩
        rcases Nat.eq_zero_or_pos m with h0 | h0
        · subst h0
          have : ys = [] := by simpa using k4
          subst this
          have := run_loadCells_list (P := P) (w := w) ⟨lo.b, coordOf lo b z cap sz - lo.base, none⟩ [] (fun j v h => by simp at h)
          simp only [Builtin.firstCells, Nat.zero_min, Nat.zero_mul]
          simpa using this
        · rw [coord_pos g4 h0]; exact k5
      · cases e
  · rename_i l'
    cases e; cases hy
    refine ⟨_, l'.length, byteV_den (l'.take (Nat.min l'.length n)), by simp [Builtin.lenOf, bytesV_size], rfl, ?_⟩
    have : (bytesV l').extract 0 (Nat.min l'.length n) = bytesV (l'.take (Nat.min l'.length n)) := by rw [extract_bytes]; simp
    have e2 : ∀ q : List Nat, Array.map (fun b => Value.int IntKind.u8 (b.toNat : Int)) (bytesV q).data = ((bytesV q).data.toList.map fun b => Value.int .u8 (b.toNat : Int)).toArray := fun q => by simp [← Array.toList_inj]
    simp only [Builtin.firstCells, this, Sem.run_pure, e2]
  · cases e

theorem copyV_sound (h : HR ρ s w) {ts : Array TypeId} {ty t0 : TypeId} {x y : V} {X Y : Value} {nx : Nx} (h0 : ts[0]? = some t0) (hx : den ρ x = some X) (hy : den ρ y = some Y) (e : copyV P t0 s x y = some nx) :
    NxR P ρ w nx ((do pure (Next.value (← Builtin.copy_ ts ty #[X, Y])) : Sem Next).run P w) := by
  unfold copyV at e
  split at e
  · rename_i el hu
    split at e
    · rename_i a z n cap sz
      split at e
      · rename_i sz' hsz
        cases hb : (Nat.beq sz sz' && Nat.blt 0 n) with
        | false => rw [hb] at e; cases e
        | true =>
          rw [hb] at e
          simp only [cond_true] at e
          simp only [Bool.and_eq_true] at hb
          obtain rfl := Nat.eq_of_beq_eq_true hb.1
          have hn := blt_lt hb.2
          obtain ⟨lo, g1, g2, g3, g4, g5, rfl⟩ := slice_inv hx (.inr hn)
          rw [coord_pos g4 hn]
          unfold copyTo at e
          split at e
          · rename_i l k hc
            obtain ⟨ys, m, y1, y2, rfl, y4⟩ := copied_sound (P := P) h hy hc
            split at e
            · rename_i s1 hst
              cases e
              obtain ⟨ad, w', q1, q2, q3, q4⟩ := storeCells_sound P h hst y1
              rw [denA_mk g1 g3] at q1; cases q1
              refine ⟨ρ, _, w', ?_, by rw [mkInt_eq]; rfl, q3, q4⟩
              simp [Builtin.copy_, h0, run_und hu, run_size hsz, y2, y4, q2, goInt]
            · cases e
          · cases e
      · cases e
    · cases e
  · cases e

theorem callB_sound (h : HR ρ s w) {b : Builtin} {ts : Array TypeId} {ty : TypeId} {consts : Array Bool} {args : List V} {ys : List Value} (hd : denL ρ args = some ys) {nx : Nx} (e : callB P b ts args s = some nx) :
    NxR P ρ w nx ((Go.builtin b ts ty consts ys.toArray).run P w) := by
  unfold callB at e
  split at e
  · split at e
    · rename_i t0 h0
      split at e
      · rename_i t1 h1
        split at e
        · rename_i x y
          obtain ⟨X, Y, hx, hy, rfl⟩ := den_two hd
          unfold nxPair at e
          split at e
          · rename_i v s' ha
            cases e
            obtain ⟨ρ', r, w', j1, j2, j3, j4⟩ := appendV_sound (ty := ty) h h0 h1 hx hy ha
            exact ⟨ρ', r, w', by simp [Go.builtin, j1], j2, j3, j4⟩
          · cases e
        · cases e
      · cases e
    · cases e
  · split at e
    · rename_i t0 h0
      split at e
      · rename_i x
        obtain ⟨X, hx, rfl⟩ := den_one hd
        exact (nxVal_sound h e fun v hv => lenV_sound h h0 hx hv).toR h
      · cases e
    · cases e
  · refine (nxVal_sound (m := Builtin.max_ ts ty ys.toArray) h e fun v hv => ?_).toR h
    cases args with
    | nil => cases hv
    | cons x r =>
      obtain ⟨X, q, hx, hr, rfl⟩ := denL_cons.1 hd
      exact fold_sound maxV_sound r q x X v hr hx hv
  · refine (nxVal_sound (m := Builtin.min_ ts ty ys.toArray) h e fun v hv => ?_).toR h
    cases args with
    | nil => cases hv
    | cons x r =>
      obtain ⟨X, q, hx, hr, rfl⟩ := denL_cons.1 hd
      exact fold_sound minV_sound r q x X v hr hx hv
  · cases e; exact ⟨rfl, h⟩
  · split at e
    · rename_i t0 h0
      split at e
      · rename_i x y
        obtain ⟨X, Y, hx, hy, rfl⟩ := den_two hd
        exact copyV_sound h h0 hx hy e
      · cases e
    · cases e
  · split at e
    · rename_i t0 h0
      split at e
      · rename_i x
        obtain ⟨X, hx, rfl⟩ := den_one hd
        exact (nxVal_sound h e fun v hv => capV_sound h0 hx hv).toR h
      · cases e
    · cases e
  · split at e
    · rename_i tt v
      cases e
      obtain ⟨X, hx, rfl⟩ := den_one hd
      refine ⟨X, hx, ?_, h⟩
      simp only [den] at hx
      split at hx
      · cases hx
        simp [Go.builtin, Instr.panic]
      · cases hx
    · cases e
  · cases e

def ExtK.entry : ExtK → Array Value → Sem Value
  | .indexByte => Extern.BytealgIndexByte.indexByte
  | .count => Extern.BytealgCount.count

/-- What must hold of the table of the library's functions. -/
structure EnvOk (E : Env) : Prop where
  ext : ∀ f k fn, E.ext f = some k → E.P.funcs[f]? = some fn → fn.body = none → (fn.name == "runtime.NumGoroutine") = false ∧ Extern.findNext fn = none ∧ Extern.find fn = some k.entry

theorem byte_eq (x c : Nat) : (UInt8.ofNat x == UInt8.ofNat c) = Nat.beq (Nat.mod x 256) (Nat.mod c 256) := by
  rw [Bool.eq_iff_iff]
  simp only [beq_iff_eq, Nat.beq_eq]
  constructor
  · intro h
    have := congrArg UInt8.toNat h
    simp at this; exact this
  · intro h
    apply UInt8.toNat_inj.1
    simp; exact h

theorem indexOf_spec (c : Nat) : ∀ (l : List Nat) (i : Nat), (match indexOfByte (Nat.mod c 256) l i with | some j => (Int.ofNat j) | none => -1) = if Lib.indexByte (l.map UInt8.ofNat) (UInt8.ofNat c) = -1 then -1 else Lib.indexByte (l.map UInt8.ofNat) (UInt8.ofNat c) + i
  | [], i => rfl
  | x :: l, i => by
    have ih := indexOf_spec c l (i + 1)
    have hge := Lib.indexByte_ge (l.map UInt8.ofNat) (UInt8.ofNat c)
    simp only [indexOfByte, List.map_cons, Lib.indexByte, byte_eq]
    cases hb : Nat.beq (Nat.mod x 256) (Nat.mod c 256) with
    | true => simp
    | false =>
      simp only [cond_false, Bool.false_eq_true, if_false]
      rw [ih]
      by_cases hq : Lib.indexByte (l.map UInt8.ofNat) (UInt8.ofNat c) = -1
      · simp [hq]
      · have h1 : (Lib.indexByte (l.map UInt8.ofNat) (UInt8.ofNat c) == -1) = false := by simpa using hq
        rw [if_neg hq, h1]
        simp only [Bool.false_eq_true, if_false]
        rw [if_neg (by omega)]
        push_cast
        omega

theorem count_spec (c : Nat) : ∀ (l : List Nat), countByte (Nat.mod c 256) l = Lib.countByte (l.map UInt8.ofNat) (UInt8.ofNat c)
  | [] => rfl
  | x :: l => by
    have ih := count_spec c l
    simp only [countByte, List.map_cons, Lib.countByte, List.count_cons, byte_eq] at ih ⊢
    cases hb : Nat.beq (Nat.mod x 256) (Nat.mod c 256) with
    | true => simp [ih]
    | false => simp [ih]

theorem externV_sound {k : ExtK} {args : List V} {ys : List Value} (hd : denL ρ args = some ys) {v : V} (e : externV k args = some v) :
    ∃ y, den ρ v = some y ∧ (k.entry ys.toArray).run P w = .ok y w := by
  unfold externV at e
  split at e
  · rename_i l c
    obtain ⟨X, Y, hx, hy, rfl⟩ := den_two hd
    cases hx; cases hy
    have hl : (bytesV l).data.toList = l.map UInt8.ofNat := by simp [bytesV]
    have hc : (Int.ofNat c).toNat.toUInt8 = UInt8.ofNat c := rfl
    split at e
    · have := Lib.run_indexByteString (P := P) (bytesV l) (Int.ofNat c) w
      have h2 := indexOf_spec c l 0
      rw [hl, hc] at this
      refine ⟨_, ?_, this⟩
      simp only [Option.some.injEq] at e
      subst e
      have hge := Lib.indexByte_ge (l.map UInt8.ofNat) (UInt8.ofNat c)
      generalize Lib.indexByte (l.map UInt8.ofNat) (UInt8.ofNat c) = r at *
      cases hq : indexOfByte (Nat.mod c 256) l 0 with
      | none =>
        rw [hq] at h2
        simp only at h2 ⊢
        by_cases hr : r = -1
        · subst hr; rfl
        · rw [if_neg hr] at h2; simp at h2; omega
      | some j =>
        rw [hq] at h2
        simp only at h2 ⊢
        by_cases hr : r = -1
        · rw [if_pos hr] at h2; simp at h2
        · rw [if_neg hr] at h2; simp at h2; rw [← h2]; rfl
    · have := Lib.run_countString (P := P) (bytesV l) (Int.ofNat c) w
      rw [hl, hc] at this
      refine ⟨_, ?_, this⟩
      simp only [Option.some.injEq] at e
      subst e
      rw [mkInt_eq, count_spec]; rfl
  · cases e

theorem callF_sound {E : Env} (hE : EnvOk E) (h : HR ρ s w) {f : FuncId} {args : List V} {ys : List Value} (hd : denL ρ args = some ys) {nx : Nx} (e : callF E f args s = some nx) :
    NxR E.P ρ w nx ((callFunc f ys.toArray).run E.P w) := by
  unfold callF at e
  split at e
  · cases e
  · rename_i fn hf
    split at e
    · rename_i hb
      split at e
      · rename_i k hk
        obtain ⟨h1, h2, h3⟩ := hE.ext f k fn hk hf hb
        unfold nxVal at e
        split at e
        · rename_i v hv
          cases e
          obtain ⟨y, y1, y2⟩ := externV_sound (P := E.P) (w := w) hd hv
          exact ⟨ρ, y, w, by rw [run_callFunc_extern hf h1 (by simp [hb]) h2 h3, y2]; rfl, y1, h, FR.refl ρ w⟩
        · cases e
      · cases e
    · cases e
      exact ⟨ys, hd, rfl, h⟩

theorem func_inv {fn : Fn} {first cap : List V} {X : Value} (h : den ρ (.func fn first cap) = some X) : ∃ g a b, denFn ρ fn = some g ∧ denL ρ first = some a ∧ denL ρ cap = some b ∧ X = .func g a.toArray b.toArray := by
  simp only [den] at h
  split at h
  · rename_i g hg
    split at h
    · rename_i a ha
      split at h
      · rename_i b hb
        cases h
        exact ⟨g, a, b, hg, ha, hb, rfl⟩
      · cases h
    · cases h
  · cases h

theorem args_den (ht : TR ρ t tm) {args : Array Operand} {vs : List V} (h : evals t args.toList = some vs) : ∃ ys, denL ρ vs = some ys ∧ args.map (rv tm) = ys.toArray :=
  ⟨_, evals_sound ht h, by simp [← Array.toList_inj]⟩

theorem callTo_sound {E : Env} (hE : EnvOk E) (h : HR ρ s w) (ht : TR ρ t tm) {c : Call} {ty : TypeId} {nx : Nx} (e : callTo E t s c.argTypes (evals t c.args.toList) c.callee = some nx) :
    NxR E.P ρ w nx ((do let d ← resolve (rv tm) c ty; invoke d.target d.args : Sem Next).run E.P w) := by
  unfold callTo at e
  split at e
  · rename_i args ha
    obtain ⟨ys, y1, y2⟩ := args_den ht ha
    split at e
    · rename_i b hc
      simp only [resolve, hc, Sem.run_bind, Sem.run_pure, Result.andThen_ok, invoke, y2]
      exact callB_sound h y1 e
    · rename_i f hc
      unfold callV at e
      split at e
      · rename_i fn first cap hf
        obtain ⟨g, a, b, g1, g2, g3, g4⟩ := func_inv (eval_sound ht hf)
        simp only [resolve, hc, g4, Deferred.ofValue, Sem.run_bind, Sem.run_pure, Result.andThen_ok, y2]
        split at e
        · rename_i g'
          cases g1
          have := callF_sound hE h (denL_append g2 (denL_append y1 g3)) e
          simpa [invoke] using this
        · rename_i l
          simp only [denFn] at g1
          split at g1
          · rename_i lb hlb
            cases g1
            cases e
            exact ⟨lb, a ++ ys, hlb, denL_append g2 y1, by simp [invoke], h⟩
          · cases g1
        · cases e
      · cases e
    · cases e
  · cases e

theorem deferTo_sound (h : HR ρ s w) (ht : TR ρ t tm) {c : Call} {ty : TypeId} {nx : Nx} (e : deferTo t s (evals t c.args.toList) c.callee = some nx) :
    NxR P ρ w nx ((do pure (.defer (← resolve (rv tm) c ty)) : Sem Next).run P w) := by
  unfold deferTo at e
  split at e
  · rename_i args ha
    obtain ⟨ys, y1, y2⟩ := args_den ht ha
    split at e
    · rename_i f hc
      unfold deferV at e
      split at e
      · rename_i fn first cap hf
        cases e
        obtain ⟨g, a, b, g1, g2, g3, g4⟩ := func_inv (eval_sound ht hf)
        refine ⟨_, ⟨g, b, a ++ ys, g1, g3, denL_append g2 y1, rfl⟩, ?_, h⟩
        simp [resolve, hc, g4, Deferred.ofValue, y2]
      · cases e
    · cases e
  · cases e

theorem doPanic_sound (h : HR ρ s w) (ht : TR ρ t tm) {x : Operand} {nx : Nx} (e : doPanic s (eval t x) = some nx) :
    NxR P ρ w nx ((do pure (Next.value (← Instr.panic (rv tm x))) : Sem Next).run P w) := by
  unfold doPanic at e
  split at e
  · rename_i tt v hx
    cases e
    have hv := eval_sound ht hx
    refine ⟨_, hv, ?_, h⟩
    generalize rv tm x = X at *
    simp only [den] at hv
    split at hv
    · cases hv
      simp [Instr.panic]
    · cases hv
  · cases e

theorem moveLike (h : HR ρ s w) (ht : TR ρ t tm) {x : Operand} {nx : Nx} (e : nxVal s (eval t x) = some nx) : NxV P ρ w s nx ((pure (Next.value (rv tm x)) : Sem Next).run P w) := by
  unfold nxVal at e
  split at e
  · rename_i v hv
    cases e
    exact ⟨_, _, rfl, rfl, eval_sound ht hv⟩
  · cases e

/-- A function value names no loop. -/
def fnOk : Op → Bool
  | .makeFunc (.yield _) _ _ => false
  | _ => true

/-- ONE OPERATION. -/
theorem opDo_sound {E : Env} (hE : EnvOk E) (h : HR ρ s w) (ht : TR ρ t tm) (o : Oper) {nx : Nx} (e : doOp E t s o = some nx) : NxR E.P ρ w nx ((execOp (rv tm) o).run E.P w) := by
  obtain ⟨dst, op, type, pos, after, guard⟩ := o
  unfold doOp at e
  simp only at e
  cases op <;> simp only [opDo] at e <;> try (cases e; done)
  case move x => exact (moveLike h ht e).toR h
  case assign x => exact (moveLike h ht e).toR h
  case pick c a b => exact (doPick_sound h ht e).toR h
  case alloc elem => exact doAlloc_sound h e
  case box elem x => exact doBox_sound h ht e
  case build ty parts => exact (doBuild_sound h ht e).toR h
  case buildSlice ty len parts => exact doBuildSlice_sound h ht e
  case load ty x => exact (doLoad_sound h ht e).toR h
  case store ty x y => exact doStore_sound h ht e
  case nilCheck x => exact (doNilCheck_sound h ht e).toR h
  case binOp op ty x y z => exact (doBin_sound h ht e).toR h
  case unOp op ty x => exact (doUn_sound h ht e).toR h
  case convert src dst x => exact doConv_sound h ht e
  case makeInterface ty x => exact (doMkIface_sound h ht e).toR h
  case makeFunc fn first cap => exact (doMkFunc_sound h ht e).toR h
  case makeMap ty r =>
    cases r with
    | none => cases e; exact doMakeMap_sound h
    | some _ => cases e
  case makeSlice ty l c => exact doMkSlice_sound h ht e
  case slice ty x lo hi mx => exact (doSlice_sound h ht e).toR h
  case fieldAddr ty x f => exact (doFieldAddr_sound h ht e).toR h
  case field ty x f => exact (doField_sound h ht e).toR h
  case indexAddr ty x i => exact (doIndexAddr_sound h ht e).toR h
  case index ty x i => exact (doIndex_sound h ht e).toR h
  case lookup ty x k ok => exact (doLookup_sound h ht e).toR h
  case mapUpdate ty m k x => exact doMapUpdate_sound h ht e
  case insert ty m k x => exact doMapUpdate_sound h ht e
  case typeAssert x xt ty ok => exact (doAssert_sound h ht e).toR h
  case extract x i => exact (doExtract_sound h ht e).toR h
  case call c => exact callTo_sound hE h ht e
  case defer c => exact deferTo_sound h ht e
  case panic x => exact doPanic_sound h ht e

end ops
end Go.AI
