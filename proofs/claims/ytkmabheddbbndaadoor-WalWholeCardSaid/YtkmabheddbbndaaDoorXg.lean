/- The operations that make one block out of their operands, and the stores, do in the model what the abstract executor says. -/
import Derived.Test.YtkmabheddbbndaaDoorXf
namespace Go.Xec
variable {P : Program} {μ : Mu} {w : World} {F : Nat → Prop} {w0 : World} {hp : Nat → Option ABlk}

theorem writeL_get : ∀ (l : List AV) (o : Nat) (cs : T AV) (i : Nat), (writeL cs o l).get i = if o ≤ i ∧ i < o + l.length then l[i - o]? else cs.get i
  | [], o, cs, i => by
    simp only [writeL, List.length_nil, Nat.add_zero]
    rw [if_neg (by omega)]
  | a :: l, o, cs, i => by
    simp only [writeL, writeL_get l, T.get_set, List.length_cons]
    by_cases h : o = i
    · subst h
      rw [if_neg (by omega), if_pos rfl, if_pos (by omega), Nat.sub_self]; rfl
    · by_cases h2 : o + 1 ≤ i ∧ i < o + 1 + l.length
      · rw [if_pos h2, if_pos (by omega)]
        have e : i - o = (i - (o + 1)) + 1 := by omega
        rw [e, List.getElem?_cons_succ]
      · rw [if_neg h2, if_neg (by omega), if_neg (by omega)]

theorem BR_blkOf {l : List AV} {c : Array Value} {e : TypeId} (h : VRs μ l c.toList) : BR μ (blkOf l) (.cells c e) 0 c.size := by
  have hl : l.length = c.size := by rw [← Array.length_toList]; exact VRs_length h
  refine ⟨c, e, 0, 0, rfl, by omega, fun i _ => by omega, fun i a hi ha => ?_⟩
  rw [writeL_get, if_pos (by omega), Nat.sub_zero] at ha
  obtain ⟨v, hv, hr⟩ := VRs_get h i a ha
  exact ⟨v, by rw [Nat.zero_add, ← Array.getElem?_toList]; exact hv, hr⟩

theorem flat_get {α : Type} (l : List α) : ∀ (k i : Nat), (List.replicate k l).flatten[i]? = if i < k * l.length then l[i % l.length]? else none
  | 0, i => by simp
  | k + 1, i => by
    rw [List.replicate_succ, List.flatten_cons]
    by_cases h : i < l.length
    · rw [List.getElem?_append_left h, if_pos (by rw [Nat.add_mul]; omega), Nat.mod_eq_of_lt h]
    · rw [List.getElem?_append_right (by omega), flat_get l k (i - l.length)]
      have e : (k + 1) * l.length = k * l.length + l.length := by rw [Nat.add_mul, Nat.one_mul]
      by_cases h2 : i < (k + 1) * l.length
      · rw [if_pos h2, if_pos (by omega), ← Nat.mod_eq_sub_mod (by omega)]
      · rw [if_neg h2, if_neg (by omega)]

/-- Zero values side by side. -/
theorem VRs_zeros {l : List AV} {z : Array Value} (h : VRs μ l z.toList) (k : Nat) (hz : 0 < z.size) :
    VRs μ (List.replicate k l).flatten ((Array.range (k * z.size)).map (z[· % z.size]!)).toList := by
  have hl : l.length = z.size := by rw [← Array.length_toList]; exact VRs_length h
  refine VRs_of_get ?_ fun i x v hx hv => ?_
  · simp [List.length_flatten, hl]
  · rw [flat_get, hl] at hx
    split at hx
    · rename_i hi
      obtain ⟨u, hu, hr⟩ := VRs_get h _ x hx
      have hlt : i % z.size < z.size := Nat.mod_lt _ hz
      have e1 : v = z[i % z.size]! := by
        rw [Array.getElem?_toList, Array.getElem?_map, Array.getElem?_range] at hv
        rw [if_pos hi] at hv
        simpa using hv.symm
      have e2 : u = z[i % z.size]! := by
        rw [Array.getElem?_toList, Array.getElem?_eq_getElem hlt] at hu
        injection hu with hu
        rw [← hu, getElem!_pos z _ hlt]
      rw [e1, ← e2]; exact hr
    · cases hx

theorem allocA_sim {nm : Nat} {o : Oper} {vs : List AV} {a : AV} {b : ABlk} {ρ : Operand → Value} (h : allocA P nm o.op vs = some (a, b))
    (hv : VRs μ vs (o.op.operands.toList.map ρ)) (hn : μ nm = none) :
    ∃ z o' ex, (execOp ρ o).run P w = .ok (.value z) { w with heap := w.heap.push o' } ∧ VR (μ.put nm (w.heap.size, 0) ex) a z ∧ BR (μ.put nm (w.heap.size, 0) ex) b o' 0 ex := by
  have hle : ∀ ex, μ.le (μ.put nm (w.heap.size, 0) ex) := fun ex => Mu.le_put hn
  have hat : ∀ ex, (μ.put nm (w.heap.size, 0) ex) nm = some (w.heap.size, 0) := fun ex => Mu.put_at _ _ _ _
  have hxt : ∀ ex, (μ.put nm (w.heap.size, 0) ex).ext nm = ex := fun ex => Mu.put_ext _ _ _ _
  obtain ⟨dst, op, ty, pos, after, guard⟩ := o
  cases op <;> simp only [allocA] at h <;> first
    | (cases h; done)
    | skip
  case alloc e =>
    split at h
    · rename_i z hz
      split at h
      · injection h with h; simp only [Prod.mk.injEq] at h; obtain ⟨h1, h2⟩ := h; subst h1; subst h2
        obtain ⟨zv, hzv, hzr⟩ := run_zeroT (μ := μ) hz w
        refine ⟨.pointer (some ⟨w.heap.size, 0, none⟩), .cells zv.cells e, zv.cells.size, ?_, ⟨w.heap.size, 0, hat _, rfl⟩, BR_blkOf (VRs_mono (hle _) _ _ (VR_cells hzr))⟩
        simp only [execOp]
        refine run_v ?_
        simp only [Instr.alloc, Sem.run_bind, hzv, Result.andThen_ok, newVar, newRow, run_newObj, Sem.run_pure]
      · cases h
    · cases h
  case box e x =>
    split at h
    · rename_i av
      injection h with h; simp only [Prod.mk.injEq] at h; obtain ⟨h1, h2⟩ := h; subst h1; subst h2
      obtain ⟨u, e', h1⟩ := VRs_one hv
      simp [Op.operands] at e'
      refine ⟨.pointer (some ⟨w.heap.size, 0, none⟩), .cells u.cells e, u.cells.size, ?_, ⟨w.heap.size, 0, hat _, rfl⟩, BR_blkOf (VR_cells (VR_mono (hle _) _ _ h1))⟩
      simp only [execOp, e']
      refine run_v ?_
      simp only [Instr.box, Sem.run_bind, Result.andThen_ok, newVar, newRow, run_newObj, Sem.run_pure]
    · cases h
  case buildSlice t len parts =>
    split at h
    · rename_i e he
      have hu := sliceElem_under he
      split at h
      · rename_i z hz
        split at h
        · rename_i zero hzero
          split at h
          · rename_i hc
            simp only [Bool.and_eq_true] at hc
            obtain ⟨⟨⟨c1, c2⟩, c3⟩, c4⟩ := hc
            have c1' := Nat.le_of_ble_eq_true c1
            have c2' := Nat.eq_of_beq_eq_true c2
            have c3' : 0 < z := by simpa using c3
            split at h
            · rename_i cs hcs
              injection h with h; simp only [Prod.mk.injEq] at h; obtain ⟨h1, h2⟩ := h; subst h1; subst h2
              obtain ⟨zv, hzv, hzr⟩ := run_zeroT (μ := μ) hzero w
              have hzc := VR_cells hzr
              have hzs : zv.cells.size = z := by rw [← c2', ← Array.length_toList, VRs_length hzc]
              have hpr := PRs_of_zip (μ := μ) (ρ := ρ) parts.toList vs (by simpa [Op.operands, Function.comp_def] using hv)
              have hvz := VRs_zeros hzc len (by omega)
              rw [hzs] at hvz
              obtain ⟨cs', r1, r2, r3⟩ := fillA_sim (μ := μ) _ _ _ _ _ cs hpr hvz hcs
              have hsz := VRs_length r2
              refine ⟨.slice (some ⟨w.heap.size, 0, none⟩) len len, .cells cs' e, cs'.size, ?_, ⟨w.heap.size, 0, len, hat _, Nat.le_refl _, Nat.le_refl _, by rw [hxt, r3]; simp, rfl⟩, BR_blkOf (VRs_mono (hle _) _ _ r2)⟩
              simp only [execOp]
              refine run_v ?_
              have hnl : ¬ len * z > 2 ^ 24 := by omega
              have r1' : Instr.fill (fun i => some (i * z, z)) ((Array.range (len * z)).map (zv.cells[· % z]!)) ((parts.map fun (i, x) => (i, ρ x)).toList) = some cs' := by
                simpa using r1
              simp only [Instr.buildSlice, Sem.run_bind, run_underlying hu, Result.andThen_ok, run_sizeOfT hz, hnl, if_false]
              by_cases h0 : len * z = 0
              · have hl0 : len = 0 := by
                  rcases Nat.mul_eq_zero.1 h0 with h0 | h0
                  · exact h0
                  · omega
                subst hl0
                rw [h0] at r1'
                simp only [Nat.zero_mul, if_true] at r1' ⊢
                have em : ∀ f : Nat → Value, Array.map f (Array.range 0) = #[] := fun f => by simp [Array.range]
                rw [em] at r1'
                simp only [Sem.run_bind, Sem.run_pure, Result.andThen_ok, em, r1', newRow, run_newObj]
              · rw [if_neg h0]
                simp only [Sem.run_bind, hzv, Result.andThen_ok, Sem.run_pure, hzs, r1', newRow, run_newObj]
            · cases h
          · cases h
        · cases h
      · cases h
    · cases h
  case makeMap t r =>
    cases r with
    | some _ => cases h
    | none =>
      injection h with h; simp only [Prod.mk.injEq] at h; obtain ⟨h1, h2⟩ := h; subst h1; subst h2
      refine ⟨.map (some w.heap.size), .map #[] 0, 0, ?_, ⟨w.heap.size, hat _, rfl⟩, rfl, #[], rfl, rfl⟩
      simp only [execOp, Option.map_none]
      refine run_v ?_
      simp only [Instr.makeMap, Sem.run_bind, Sem.run_pure, Result.andThen_ok, run_newObj]
  case makeSlice t l c =>
    split at h
    · rename_i e he
      have hu := sliceElem_under he
      split at h
      · rename_i kl lv kc cv
        split at h
        · rename_i z by_ zero hz hby hzero
          split at h
          · rename_i hc
            simp only [Bool.and_eq_true] at hc
            obtain ⟨⟨⟨⟨⟨c1, c2⟩, c3⟩, c4⟩, c5⟩, c6⟩ := hc
            have c1' : 0 ≤ lv := by simpa using c1
            have c2' : lv ≤ cv := by simpa using c2
            have c3' : cv < 9223372036854775808 := by simpa using c3
            have c4' : (by_ : Int) * cv ≤ 281474976710656 := by simpa using c4
            have c5' := Nat.eq_of_beq_eq_true c5
            have c6' : 0 < z := by simpa using c6
            injection h with h; simp only [Prod.mk.injEq] at h; obtain ⟨h1, h2⟩ := h; subst h1; subst h2
            obtain ⟨u, v, ee, g1, g2⟩ := VRs_two hv
            simp [Op.operands] at ee
            have g1' : u = .int kl lv := g1
            have g2' : v = .int kc cv := g2
            obtain ⟨zv, hzv, hzr⟩ := run_zeroT (μ := μ) hzero w
            obtain ⟨ti, hti, htib⟩ := run_bytesOfT hby w
            have hzc := VR_cells hzr
            have hzs : zv.cells.size = z := by rw [← c5', ← Array.length_toList, VRs_length hzc]
            have hvz := VRs_zeros hzc cv.toNat (by omega)
            rw [hzs] at hvz
            refine ⟨.slice (some ⟨w.heap.size, 0, none⟩) lv.toNat cv.toNat, .cells ((Array.range (cv.toNat * z)).map (zv.cells[· % z]!)) e, ((Array.range (cv.toNat * z)).map (zv.cells[· % z]!)).size, ?_,
              ⟨w.heap.size, 0, cv.toNat, hat _, Nat.le_refl _, by omega, by rw [hxt]; simp, rfl⟩, BR_blkOf (VRs_mono (hle _) _ _ hvz)⟩
            simp only [execOp, ee.1, ee.2, g1', g2']
            refine run_v ?_
            have wl : IntKind.i64.wrap lv = lv := IntWalk.i64_in _ (by omega)
            have wc : IntKind.i64.wrap cv = cv := IntWalk.i64_in _ (by omega)
            have t1 : ¬ cv < 0 := by omega
            have t2 : ¬ (by_ : Int) * cv > 2 ^ 48 := by
              have : (2 : Int) ^ 48 = 281474976710656 := by decide
              rw [this]; omega
            have t3 : ¬ lv < 0 := by omega
            have t4 : ¬ lv > cv := by omega
            simp only [Instr.makeSlice, asInt, asIntOf, Sem.run_bind, run_underlying hu, Result.andThen_ok, Sem.run_pure, hti, htib, wl, wc, t1, t2, t3, t4, decide_false, Bool.or_false, Bool.false_eq_true, if_false,
              run_askRoom, run_sizeOfT hz]
            by_cases h0 : cv.toNat * z = 0
            · have hl0 : cv.toNat = 0 := by
                rcases Nat.mul_eq_zero.1 h0 with h0 | h0
                · exact h0
                · omega
              rw [if_pos h0]
              have em : ∀ f : Nat → Value, Array.map f (Array.range 0) = #[] := fun f => by simp [Array.range]
              simp only [Sem.run_pure, Result.andThen_ok, newRow, Sem.run_bind, run_newObj, hl0, Nat.zero_mul, em]
            · rw [if_neg h0]
              simp only [Sem.run_bind, hzv, Result.andThen_ok, Sem.run_pure, newRow, run_newObj, hzs]
          · cases h
        · cases h
      · cases h
    · cases h

/-- Some cells stored one by one. -/
theorem run_storeCells_free (b o : Nat) (e : TypeId) (lo hi : Nat) : ∀ (vs : List Value) (i : Nat) (c : Array Value) (w : World), w.heap[b]? = some (.cells c e (lo, hi)) →
    o + i + vs.length ≤ c.size → (∀ j, j < c.size → ¬ (lo ≤ j ∧ j < hi)) → (∀ v ∈ vs, v.oneCell' = true) →
    ∃ c' w', (storeCells ⟨b, o, none⟩ vs i).run P w = .ok () w' ∧ w'.heap[b]? = some (.cells c' e (lo, hi)) ∧ c'.size = c.size ∧
      (∀ k, c'[k]? = if o + i ≤ k ∧ k < o + i + vs.length then vs[k - (o + i)]? else c[k]?) ∧ (∀ j, j ≠ b → w'.heap[j]? = w.heap[j]?) ∧ w'.heap.size = w.heap.size ∧
      w'.os = w.os ∧ w'.tape = w.tape ∧ w'.output = w.output
  | [], i, c, w, h, _, _, _ => by
    refine ⟨c, w, rfl, h, rfl, fun k => ?_, fun _ _ => rfl, rfl, rfl, rfl, rfl⟩
    rw [if_neg (by simp only [List.length_nil]; omega)]
  | v :: vs, i, c, w, h, hle, hf, h1 => by
    simp only [List.length_cons] at hle
    have hlt : o + i < c.size := by omega
    have hcell : w.cell? ⟨b, o + i, none⟩ = some c[o + i] := by rw [cell_of_heap h, Array.getElem?_eq_getElem hlt]
    have hfz : w.frozen? ⟨b, o + i, none⟩ = false := by
      simp only [World.frozen?, h]
      have := hf (o + i) hlt
      simp only [Bool.and_eq_false_iff, decide_eq_false_iff_not]
      omega
    have hset : (w.setCell ⟨b, o + i, none⟩ v).heap[b]? = some (.cells (c.setIfInBounds (o + i) v) e (lo, hi)) := by
      simp [World.setCell, Array.getElem?_modify, h]
    obtain ⟨c', w', r1, r2, r3, r4, r5, r6, r7, r8, r9⟩ := run_storeCells_free b o e lo hi vs (i + 1) (c.setIfInBounds (o + i) v) _ hset (by simp; omega) (by simpa using hf)
      (fun u hu => h1 u (List.mem_cons_of_mem _ hu))
    refine ⟨c', w', ?_, r2, by rw [r3]; simp, fun k => ?_, fun j hj => ?_, ?_, r7, r8, r9⟩
    · simp only [storeCells, Sem.run_bind, Addr.add_off, run_store P w _ v .plain (h1 v List.mem_cons_self), hcell, hfz, Bool.false_eq_true, if_false, Result.andThen_ok]
      exact r1
    · rw [r4 k]
      simp only [List.length_cons]
      by_cases hk : o + i = k
      · subst hk
        rw [if_neg (by omega), if_pos (by omega), Nat.sub_self]
        simp [hlt]
      · by_cases h2 : o + (i + 1) ≤ k ∧ k < o + (i + 1) + vs.length
        · rw [if_pos h2, if_pos (by omega)]
          have e : k - (o + i) = (k - (o + (i + 1))) + 1 := by omega
          rw [e, List.getElem?_cons_succ]
        · rw [if_neg h2, if_neg (by omega)]
          simp [hk]
    · rw [r5 j hj]
      simp only [World.setCell, Array.getElem?_modify]
      rw [if_neg (by omega)]
    · rw [r6]; simp [World.setCell]

theorem get_set_fun (t : T ABlk) (β : Nat) (b : ABlk) : (t.set β b).get = fun γ => if γ = β then some b else t.get γ := by
  funext γ; exact T.get_set t β γ b

/-- A store into a live block. -/
theorem write_sim {st st' : St} {β o : Nat} {l : List AV} {vs : List Value} (k : HInv F w0 μ st.heap.get w) (h : st.write β o l = some st') (hv : VRs μ l vs) :
    ∃ r base w', μ β = some (r, base) ∧ (storeCells ⟨r, base + o, none⟩ vs).run P w = .ok () w' ∧ HInv F w0 μ st'.heap.get w' ∧ st'.nxt = st.nxt := by
  unfold St.write at h
  split at h
  · rename_i m cs hb
    split at h
    · rename_i hc
      rw [Bool.and_eq_true] at hc
      have hle := Nat.le_of_ble_eq_true hc.1
      injection h with h; subst h
      obtain ⟨r, base, c, e, lo, hi, h1, h2, h3, h4, h5⟩ := k.cells hb
      have hl := VRs_length hv
      have hone : ∀ v ∈ vs, v.oneCell' = true := by
        intro v hm
        obtain ⟨i, hi', he⟩ := List.getElem_of_mem hm
        have hx : i < l.length := by omega
        obtain ⟨u, hu, hr⟩ := VRs_get hv i l[i] (List.getElem?_eq_getElem hx)
        rw [List.getElem?_eq_getElem hi'] at hu
        injection hu with hu
        rw [← he, hu]
        exact VR_one hr (List.all_eq_true.1 hc.2 _ (List.getElem_mem hx))
      obtain ⟨c', w', r1, r2, r3, r4, r5, r6, r7, r8, r9⟩ := run_storeCells_free (P := P) r (base + o) e lo hi vs 0 c w h2 (by omega) h4 hone
      refine ⟨r, base, w', h1, r1, ?_, rfl⟩
      rw [get_set_fun]
      refine k.turn (by rw [hb]; rfl) (fun n cs e => by rw [hb] at e; cases e) h1 ?_ r2 r5 r6 r7 r8 r9
      refine ⟨c', e, lo, hi, rfl, ⟨h3.1, by rw [r3]; exact h3.2, k.base0 hb h1⟩, by rw [r3]; exact h4, fun i a hi' ha => ?_⟩
      rw [writeL_get] at ha
      rw [r4 (base + i)]
      by_cases hin : o ≤ i ∧ i < o + l.length
      · rw [if_pos hin] at ha
        rw [if_pos (by omega)]
        obtain ⟨u, hu, hr⟩ := VRs_get hv _ a ha
        exact ⟨u, by rw [← hu]; congr 1; omega, hr⟩
      · rw [if_neg hin] at ha
        rw [if_neg (by omega)]
        exact h5 i a hi' ha
    · cases h
  · cases h
end Go.Xec
