/- The operations that look at memory, and those that make a block, give in the model what the abstract executor says. -/
import Derived.Test.YtkmabheddbbndaaDoorXe
namespace Go.Xec
variable {P : Program} {μ : Mu} {w : World} {F : Nat → Prop} {w0 : World} {hp : Nat → Option ABlk}

/-- A live block of cells, in the world. -/
theorem HInv.cells (k : HInv F w0 μ hp w) {β n : Nat} {cs : T AV} (hb : hp β = some (.cells n cs)) :
    ∃ r base c e lo hi, μ β = some (r, base) ∧ w.heap[r]? = some (.cells c e (lo, hi)) ∧ (n ≤ μ.ext β ∧ base + μ.ext β ≤ c.size) ∧ (∀ i, i < c.size → ¬ (lo ≤ i ∧ i < hi)) ∧
      (∀ i a, i < n → cs.get i = some a → ∃ v, c[base + i]? = some v ∧ VR μ a v) := by
  obtain ⟨r, base, o, h1, h2, h3, _⟩ := k.blk β _ hb
  obtain ⟨c, e, lo, hi, rfl, h4, h5, h6⟩ := h3
  exact ⟨r, base, c, e, lo, hi, h1, h2, ⟨h4.1, h4.2.1⟩, h5, h6⟩

theorem HInv.rom (k : HInv F w0 μ hp w) {β n : Nat} {cs : T AV} (hb : hp β = some (.rom n cs)) :
    ∃ r base c e fz, μ β = some (r, base) ∧ w.heap[r]? = some (.cells c e fz) ∧ (n ≤ μ.ext β ∧ base + μ.ext β ≤ c.size) ∧ (∀ i a, i < n → cs.get i = some a → ∃ v, c[base + i]? = some v ∧ VR μ a v) := by
  obtain ⟨r, base, o, h1, h2, h3, _⟩ := k.blk β _ hb
  obtain ⟨c, e, fz, rfl, h4, h5⟩ := h3
  exact ⟨r, base, c, e, fz, h1, h2, h4, h5⟩
theorem HInv.base0 (k : HInv F w0 μ hp w) {β n r base : Nat} {cs : T AV} (hb : hp β = some (.cells n cs)) (hm : μ β = some (r, base)) : base = 0 := by
  obtain ⟨r', base', o, h1, h2, h3, _⟩ := k.blk β _ hb
  rw [hm] at h1; injection h1 with h1; simp only [Prod.mk.injEq] at h1
  obtain ⟨c, e, lo, hi, _, h4, _⟩ := h3
  rw [h1.2]; exact h4.2.2

theorem HInv.map (k : HInv F w0 μ hp w) {β clock : Nat} {es : List (AV × AV × Nat)} (hb : hp β = some (.map es clock)) :
    ∃ r es', μ β = some (r, 0) ∧ w.heap[r]? = some (.map es' clock) ∧ ERs μ es es'.toList := by
  obtain ⟨r, base, o, h1, h2, h3, _⟩ := k.blk β _ hb
  obtain ⟨rfl, es', rfl, h4⟩ := h3
  exact ⟨r, es', h1, h2, h4⟩

theorem cell_of_heap {r i : Nat} {c : Array Value} {e : TypeId} {fz : Nat × Nat} (h : w.heap[r]? = some (.cells c e fz)) : w.cell? ⟨r, i, none⟩ = c[i]? := by
  simp [World.cell?, h]

theorem readN_spec {c : Array Value} {base n : Nat} {cs : T AV} (hc : ∀ i a, i < n → cs.get i = some a → ∃ v, c[base + i]? = some v ∧ VR μ a v) :
    ∀ (k o : Nat) (l : List AV), o + k ≤ n → readN cs o k = some l → ∃ vs : List Value, VRs μ l vs ∧ vs.length = k ∧ ∀ j v, vs[j]? = some v → c[base + o + j]? = some v
  | 0, o, l, _, h => by
    simp only [readN] at h
    injection h with h; subst h
    exact ⟨[], VRs_nil.2 rfl, rfl, by simp⟩
  | k + 1, o, l, hn, h => by
    simp only [readN] at h
    split at h
    · rename_i a l' ha hl
      injection h with h; subst h
      obtain ⟨vs, h1, h2, h3⟩ := readN_spec hc k (o + 1) l' (by omega) hl
      obtain ⟨v, hv, hr⟩ := hc o a (by omega) ha
      refine ⟨v :: vs, VRs_cons_cons.2 ⟨hr, h1⟩, by simp [h2], fun j u hu => ?_⟩
      cases j with
      | zero => simp at hu; subst hu; exact hv
      | succ j =>
        have := h3 j u (by simpa using hu)
        rw [show base + o + (j + 1) = base + (o + 1) + j by omega]; exact this
    · cases h

/-- Some cells read one by one. -/
theorem read_sim {st : St} (hs : ∀ β b, st.heap.get β = some b → hp β = some b) (k : HInv F w0 μ hp w) {β o n : Nat} {l : List AV} (h : st.read β o n = some l) :
    ∃ r base vs, μ β = some (r, base) ∧ VRs μ l vs ∧ vs.length = n ∧ ∀ j v, vs[j]? = some v → w.cell? ((⟨r, base + o, none⟩ : Addr).add j) = some v := by
  unfold St.read at h
  split at h
  · rename_i m cs hb
    split at h
    · rename_i hle
      have hle' := Nat.le_of_ble_eq_true hle
      obtain ⟨r, base, c, e, lo, hi, h1, h2, h3, h4, h5⟩ := k.cells (hs _ _ hb)
      obtain ⟨vs, g1, g2, g3⟩ := readN_spec h5 n o l hle' h
      refine ⟨r, base, vs, h1, g1, g2, fun j v hv => ?_⟩
      rw [Addr.add_off, cell_of_heap h2]
      exact g3 j v hv
    · cases h
  · rename_i m cs hb
    split at h
    · rename_i hle
      have hle' := Nat.le_of_ble_eq_true hle
      obtain ⟨r, base, c, e, fz, h1, h2, h3, h5⟩ := k.rom (hs _ _ hb)
      obtain ⟨vs, g1, g2, g3⟩ := readN_spec h5 n o l hle' h
      refine ⟨r, base, vs, h1, g1, g2, fun j v hv => ?_⟩
      rw [Addr.add_off, cell_of_heap h2]
      exact g3 j v hv
    · cases h
  · cases h

theorem loadCells_sim {st : St} (hs : ∀ β b, st.heap.get β = some b → hp β = some b) (k : HInv F w0 μ hp w) {β o n : Nat} {l : List AV} (h : st.read β o n = some l) :
    ∃ r base vs, μ β = some (r, base) ∧ VRs μ l vs ∧ vs.length = n ∧ (loadCells ⟨r, base + o, none⟩ n).run P w = .ok vs.toArray w := by
  obtain ⟨r, base, vs, h1, h2, h3, h4⟩ := read_sim hs k h
  refine ⟨r, base, vs, h1, h2, h3, ?_⟩
  have := run_loadCells_list (P := P) w ⟨r, base + o, none⟩ vs h4
  rwa [h3] at this

theorem loadA_sim {st : St} (hs : ∀ β b, st.heap.get β = some b → hp β = some b) (k : HInv F w0 μ hp w) {t : TypeId} {β o : Nat} {a : AV} (h : loadA P st t β o = some a) :
    ∃ r base v, μ β = some (r, base) ∧ (loadVar t ⟨r, base + o, none⟩).run P w = .ok v w ∧ VR μ a v := by
  unfold loadA at h
  split at h
  · rename_i ht
    split at h
    · rename_i z hz
      split at h
      · rename_i l hl
        injection h with h; subst h
        obtain ⟨r, base, vs, h1, h2, h3, h4⟩ := loadCells_sim (P := P) hs k hl
        refine ⟨r, base, .agg vs.toArray, h1, ?_, _, rfl, h2⟩
        simp only [loadVar, Sem.run_bind, run_aggT ht, Result.andThen_ok, if_true, run_sizeOfT hz, h4, Sem.run_pure]
      · cases h
    · cases h
  · rename_i ht
    split at h
    · rename_i m cs hb
      split at h
      · rename_i hlt
        have hlt' : o < m := by simpa using hlt
        obtain ⟨r, base, c, e, lo, hi, h1, h2, h3, h4, h5⟩ := k.cells (hs _ _ hb)
        obtain ⟨v, hv, hr⟩ := h5 o a hlt' h
        refine ⟨r, base, v, h1, ?_, hr⟩
        simp only [loadVar, Sem.run_bind, run_aggT ht, Result.andThen_ok, Bool.false_eq_true, if_false, run_load, cell_of_heap h2, hv]
      · cases h
    · rename_i m cs hb
      split at h
      · rename_i hlt
        have hlt' : o < m := by simpa using hlt
        obtain ⟨r, base, c, e, fz, h1, h2, h3, h5⟩ := k.rom (hs _ _ hb)
        obtain ⟨v, hv, hr⟩ := h5 o a hlt' h
        refine ⟨r, base, v, h1, ?_, hr⟩
        simp only [loadVar, Sem.run_bind, run_aggT ht, Result.andThen_ok, Bool.false_eq_true, if_false, run_load, cell_of_heap h2, hv]
      · cases h
    · cases h
  · cases h

theorem mapT_spec {t kt e : TypeId} (h : mapT P t = some (kt, e)) : P.underlying t = some (.map kt e) := by
  unfold mapT at h
  split at h
  · rename_i k e' hu
    split at h <;> first
      | (injection h with h; simp only [Prod.mk.injEq] at h; rw [hu, h.1, h.2]; done)
      | cases h
  · cases h

theorem run_checkKey {kt : TypeId} {key : AV} {v : Value} {em : Bool} (h : keyOk P kt key = true) (hv : VR μ key v) (n : Nat) (w : World) :
    (Instr.checkKey em (n + 1) kt v).run P w = .ok () w := by
  unfold keyOk at h
  split at h
  · rename_i k x y hu; cases hv
    simp [Instr.checkKey, run_underlying hu]
  · rename_i x hu; cases hv
    simp [Instr.checkKey, run_underlying hu]
  · cases h

/-- What a search found, in both worlds. -/
def FoundR (μ : Mu) : Option (Nat × AV) → Option (Nat × Value) → Prop
  | none, r => r = none
  | some (i, a), r => ∃ v, r = some (i, v) ∧ VR μ a v

theorem findNow_sim {kt : TypeId} {key : AV} {kv : Value} {d : TypeDesc} (hu : P.underlying kt = some d) (hk : keyOk P kt key = true) (hv : VR μ key kv) :
    ∀ (es : List (AV × AV × Nat)) (es' : List MapEntry) (i : Nat) (r : Option (Nat × AV)), ERs μ es es' → findA key es i = some r →
      ∃ r', Instr.findNow d kv es' i = some r' ∧ FoundR μ r r'
  | [], es', i, r, he, h => by
    simp only [ERs] at he
    subst he
    simp only [findA] at h
    injection h with h; subst h
    exact ⟨none, rfl, rfl⟩
  | e :: es, es', i, r, he, h => by
    obtain ⟨e', es'', rfl, h1, h2, h3, h4⟩ := he
    simp only [findA] at h
    have same : ∀ b, keyEq key e.1 = some b → Instr.sameNow d kv e'.key = some b := by
      intro b hb
      unfold keyOk at hk
      unfold keyEq at hb
      rw [hu] at hk
      split at hb
      · rename_i k x j y hkey
        cases hv
        rw [hkey] at h1
        have h1' : e'.key = .int j y := h1
        split at hb
        · rename_i hkj
          have hkj' : k = j := by simpa using hkj
          subst hkj'
          cases d <;> simp only at hk <;> first
            | (cases hk; done)
            | (rw [h1']; simpa [Instr.sameNow] using hb)
        · cases hb
      · rename_i x y hkey
        cases hv
        rw [hkey] at h1
        have h1' : e'.key = .string ⟨⟨y⟩⟩ := h1
        cases d <;> simp only at hk <;> first
          | (cases hk; done)
          | (rw [h1']
             simp only [Instr.sameNow]
             rw [beq_toListBytes, ByteArray.toList_eq, ByteArray.toList_eq]
             exact hb)
      · cases hb
    split at h
    · rename_i hb
      injection h with h; subst h
      exact ⟨some (i, e'.val), by simp only [Instr.findNow, same _ hb], e'.val, rfl, h2⟩
    · rename_i hb
      obtain ⟨r', g1, g2⟩ := findNow_sim hu hk hv es es'' (i + 1) r h4 h
      exact ⟨r', by simp only [Instr.findNow, same _ hb]; exact g1, g2⟩
    · cases h

theorem keyOk_under {kt : TypeId} {key : AV} (h : keyOk P kt key = true) : ∃ d, P.underlying kt = some d := by
  unfold keyOk at h
  split at h
  · rename_i hu; exact ⟨_, hu⟩
  · rename_i hu; exact ⟨_, hu⟩
  · cases h

theorem run_findKey {kt : TypeId} {key : AV} {kv : Value} (hk : keyOk P kt key = true) (hv : VR μ key kv) {es : List (AV × AV × Nat)} {es' : List MapEntry} {r : Option (Nat × AV)}
    (he : ERs μ es es') (h : findA key es 0 = some r) (w : World) : ∃ r', (Instr.findKey kt kv es').run P w = .ok r' w ∧ FoundR μ r r' := by
  obtain ⟨d, hu⟩ := keyOk_under hk
  obtain ⟨r', h1, h2⟩ := findNow_sim hu hk hv es es' 0 r he h
  exact ⟨r', by simp only [Instr.findKey, Sem.run_bind, run_underlying hu, Result.andThen_ok, h1, Sem.run_pure], h2⟩

theorem giveA_sim {e : TypeId} {ok : Bool} {r : Option (Nat × AV)} {r' : Option (Nat × Value)} {a : AV} (h : giveA P e ok r = some a) (hr : FoundR μ r r') :
    ∃ z, ((do
        let (v, ok') ← match r' with
          | some (_, v) => pure (v, true)
          | none => pure (← zeroValue e, false)
        pure (if ok then .tuple #[v, .bool ok'] else v)) : Sem Value).run P w = .ok z w ∧ VR μ a z := by
  cases r with
  | none =>
    have hr' : r' = none := hr
    subst hr'
    simp only [giveA] at h
    split at h
    · rename_i z hz
      obtain ⟨zv, hzv, hzr⟩ := run_zeroT (μ := μ) hz w
      injection h with h; subst h
      cases ok
      · exact ⟨zv, by simp [hzv], hzr⟩
      · exact ⟨.tuple #[zv, .bool false], by simp [hzv], _, rfl, VRs_cons_cons.2 ⟨hzr, VRs_cons_cons.2 ⟨rfl, VRs_nil.2 rfl⟩⟩⟩
    · cases h
  | some p =>
    obtain ⟨i, x⟩ := p
    obtain ⟨v, rfl, hv⟩ := hr
    simp only [giveA] at h
    injection h with h; subst h
    cases ok
    · exact ⟨v, by simp, hv⟩
    · exact ⟨.tuple #[v, .bool true], by simp, _, rfl, VRs_cons_cons.2 ⟨hv, VRs_cons_cons.2 ⟨rfl, VRs_nil.2 rfl⟩⟩⟩

theorem getObj_map {r clock : Nat} {es : Array MapEntry} (h : w.heap[r]? = some (.map es clock)) : (getObj r).run P w = .ok (.map es clock) w := by
  simp [getObj, Sem.run, h]

theorem bytesOfCells_spec : ∀ (l : List AV) (s : List UInt8) (vs : List Value), bytesOfCells l = some s → VRs μ l vs →
    ∃ ns : List Int, vs = ns.map (Value.int .u8) ∧ s = ns.map fun n => UInt8.ofNat n.toNat
  | [], s, vs, h, hv => by
    rw [VRs_nil] at hv; subst hv
    simp only [bytesOfCells] at h
    injection h with h; subst h
    exact ⟨[], rfl, rfl⟩
  | a :: l, s, vs, h, hv => by
    obtain ⟨v, vs', rfl, h1, h2⟩ := VRs_cons.1 hv
    cases a with
    | int k n =>
      cases k <;> simp only [bytesOfCells] at h <;> first
        | (cases h; done)
        | skip
      split at h
      · rename_i r hr
        injection h with h; subst h
        obtain ⟨ns, e1, e2⟩ := bytesOfCells_spec l r vs' hr h2
        have h1' : v = .int .u8 n := h1
        exact ⟨n :: ns, by rw [h1', e1]; rfl, by rw [e2]; rfl⟩
      · cases h
    | _ => simp [bytesOfCells] at h

theorem foldl_push : ∀ (ns : List Int) (l : List UInt8), ns.foldl (fun r n => r.push (UInt8.ofNat n.toNat)) (ByteArray.mk ⟨l⟩) = ⟨⟨l ++ ns.map fun n => UInt8.ofNat n.toNat⟩⟩
  | [], l => by simp
  | n :: ns, l => by
    simp only [List.foldl_cons, List.map_cons]
    have : (ByteArray.mk ⟨l⟩).push (UInt8.ofNat n.toNat) = ⟨⟨l ++ [UInt8.ofNat n.toNat]⟩⟩ := by
      apply ByteArray.ext
      apply Array.ext'
      simp [ByteArray.push]
    rw [this, foldl_push ns]
    simp

theorem sliceArrA_sim {st : St} (hs : ∀ β b, st.heap.get β = some b → hp β = some b) (k : HInv F w0 μ hp w) {t : TypeId} {x r : AV} {u : Value} {lo hi : Option AV} {lo' hi' : Option Value}
    (h : sliceArrA P st t x lo hi = some r) (hx : VR μ x u) (h1 : VRo μ lo lo') (h2 : VRo μ hi hi') : ∃ z, (Instr.sliceAt t u lo' hi' none).run P w = .ok z w ∧ VR μ r z := by
  unfold sliceArrA at h
  split at h
  · rename_i n e hu
    split at h
    · cases h
    · rename_i z hz
      split at h
      · rename_i β o
        obtain ⟨b, base, hm, rfl⟩ := hx
        split at h
        · rename_i m cs hb
          split at h
          · rename_i hfit
            have hfit' := Nat.le_of_ble_eq_true hfit
            obtain ⟨r', base', c, e', lo2, hi2, q1, q2, q3, q4, q5⟩ := k.cells (hs _ _ hb)
            have hex : o + n * z ≤ μ.ext β := Nat.le_trans hfit' q3.1
            split at h
            · rename_i l hh hb
              obtain ⟨r1, r2, r3⟩ := boundsA_sim (P := P) (w := w) (isSlice := false) (Nat.le_refl n) (Nat.le_refl n) hb h1 h2
              split at h
              · rename_i hl
                injection h with h; subst h
                have hl' : l = 0 := Nat.eq_of_beq_eq_true hl
                subst hl'
                refine ⟨.slice (some ⟨b, base + o, none⟩) hh n, ?_, b, base, n, hm, Nat.le_refl _, r3, hex, rfl⟩
                simp [Instr.sliceAt, Instr.sureAddr, run_underlying hu, r1, run_sizeOfT hz, Addr.add]
              · rename_i hl
                have hl' : l ≠ 0 := Nat.ne_of_beq_eq_false hl
                split at h
                · rename_i hcl
                  injection h with h; subst h
                  have hcl' : n = l := Nat.eq_of_beq_eq_true hcl
                  have e1 : hh = l := by omega
                  refine ⟨.slice (some (if n = l then ⟨b, base + o, none⟩ else Addr.add ⟨b, base + o, none⟩ (l * z))) 0 (n - l), ?_, _, _, rfl⟩
                  simp only [Instr.sliceAt, Instr.sureAddr, Sem.run_bind, run_underlying hu, Result.andThen_ok, r1, run_sizeOfT hz, Sem.run_pure]
                  rw [e1, Nat.sub_self]
                · rename_i hcl
                  injection h with h; subst h
                  have hcl' : n ≠ l := Nat.ne_of_beq_eq_false hcl
                  refine ⟨.slice (some ⟨b, base + (o + l * z), none⟩) (hh - l) (n - l), ?_, b, base, n - l, hm, by omega, by omega, ?_, rfl⟩
                  · simp only [Instr.sliceAt, Instr.sureAddr, Sem.run_bind, run_underlying hu, Result.andThen_ok, r1, run_sizeOfT hz, Sem.run_pure]
                    rw [if_neg (by omega)]
                    simp only [Addr.add_off, Nat.add_assoc]
                  · have : n * z = l * z + (n - l) * z := by rw [← Nat.add_mul]; congr 1; omega
                    omega
            · cases h
          · cases h
        · cases h
      · cases h
  · cases h

theorem readA_sim {st : St} (hs : ∀ β b, st.heap.get β = some b → hp β = some b) (k : HInv F w0 μ hp w) {o : Oper} {vs : List AV} {a : AV} {ρ : Operand → Value}
    (h : readA P st o.op vs = some a) (hv : VRs μ vs (o.op.operands.toList.map ρ)) : ∃ z, (execOp ρ o).run P w = .ok (.value z) w ∧ VR μ a z := by
  obtain ⟨dst, op, ty, pos, after, guard⟩ := o
  cases op <;> simp only [readA] at h <;> first
    | (cases h; done)
    | skip
  case slice t x lo hi mx =>
    cases mx with
    | some _ => cases h
    | none =>
      simp only at h
      split at h
      · rename_i a' l hh hc
        obtain ⟨u, lo', hi', e1, e2, e3, g1, g2, g3⟩ := cutOps_sim hc hv
        obtain ⟨z, hz, hr⟩ := sliceArrA_sim (P := P) hs k h g1 g2 g3
        exact ⟨z, by simp only [execOp, e1, e2, e3, Option.map_none]; exact run_v hz, hr⟩
      · cases h
  case load t x =>
    split at h
    · rename_i β o
      obtain ⟨u, e, b, base, hm, rfl⟩ := VRs_one hv
      simp [Op.operands] at e
      obtain ⟨r, base', v, h1, h2, h3⟩ := loadA_sim (P := P) hs k h
      rw [hm] at h1; injection h1 with h1; simp only [Prod.mk.injEq] at h1
      refine ⟨v, ?_, h3⟩
      simp only [execOp, e]
      refine run_v ?_
      simp only [Instr.loadAt, Instr.sureAddr, Sem.run_bind, Sem.run_pure, Result.andThen_ok]
      rw [h1.1, h1.2]; exact h2
    · cases h
  case lookup t x key ok =>
    split at h
    · rename_i kt e hm
      have hu := mapT_spec hm
      split at h
      · rename_i m ka
        split at h
        · rename_i hk
          obtain ⟨u, v, ee, h1, h2⟩ := VRs_two hv
          simp [Op.operands] at ee
          have hck : ∀ em w, (Instr.checkKey em 10000 kt v).run P w = .ok () w := fun em w => run_checkKey hk h2 9999 w
          split at h
          · have h1' : u = .map none := h1
            obtain ⟨z, hz, hr⟩ := giveA_sim (w := w) (r' := none) h (show FoundR μ none none from rfl)
            refine ⟨z, ?_, hr⟩
            simp only [execOp, ee.1, ee.2, h1']
            refine run_v ?_
            obtain ⟨d, hd⟩ := keyOk_under hk
            have hf : (Instr.findKey kt v []).run P w = .ok none w := by simp [Instr.findKey, run_underlying hd, Instr.findNow]
            simp only [Instr.lookup, Sem.run_bind, run_underlying hu, Result.andThen_ok, Sem.run_pure, hck, hf] at hz ⊢
            exact hz
          · rename_i β
            split at h
            · rename_i es clock hb
              split at h
              · rename_i r hr
                obtain ⟨b, hmu, rfl⟩ := h1
                obtain ⟨r', es', g1, g2, g3⟩ := k.map (hs _ _ hb)
                rw [hmu] at g1; injection g1 with g1; simp only [Prod.mk.injEq] at g1
                rw [← g1.1] at g2
                obtain ⟨f', hf1, hf2⟩ := run_findKey hk h2 g3 hr w
                obtain ⟨z, hz, hrz⟩ := giveA_sim (w := w) h hf2
                refine ⟨z, ?_, hrz⟩
                simp only [execOp, ee.1, ee.2]
                refine run_v ?_
                simp only [Instr.lookup, Sem.run_bind, run_underlying hu, Result.andThen_ok, Sem.run_pure, getObj_map g2, hck, hf1] at hz ⊢
                exact hz
              · cases h
            · cases h
          · cases h
        · cases h
      · cases h
    · cases h
  case convert src dst x =>
    split at h
    · rename_i e hsrc
      split at h
      · rename_i hdst
        split at h
        · rename_i he
          split at h
          · injection h with h; subst h
            obtain ⟨u, ee, h1⟩ := VRs_one hv
            simp [Op.operands] at ee
            have h1' : u = .slice none 0 0 := h1
            refine ⟨.string .empty, ?_, rfl⟩
            simp only [execOp, ee, h1']
            refine run_v ?_
            rw [run_convert_bytes_string w src dst e _ _ _ hsrc he hdst]
            rfl
          · injection h with h; subst h
            obtain ⟨u, ee, a, c', rfl⟩ := VRs_one hv
            simp [Op.operands] at ee
            refine ⟨.string .empty, ?_, rfl⟩
            simp only [execOp, ee]
            refine run_v ?_
            rw [run_convert_bytes_string w src dst e _ _ _ hsrc he hdst]
            exact run_bytesToString w a 0 c' [] (by simp [loadCells, loadCellsFrom])
          · rename_i β o n c zz
            split at h
            · rename_i l hl
              split at h
              · rename_i s hbs
                injection h with h; subst h
                obtain ⟨u, ee, b, base, c', hm, hc, hn, hex, rfl⟩ := VRs_one hv
                simp [Op.operands] at ee
                obtain ⟨r, base', vs', h1, h2, h3, h4⟩ := loadCells_sim (P := P) hs k hl
                rw [hm] at h1; injection h1 with h1; simp only [Prod.mk.injEq] at h1
                rw [← h1.1, ← h1.2] at h4
                obtain ⟨ns, e1, e2⟩ := bytesOfCells_spec l s vs' hbs h2
                refine ⟨.string ⟨⟨s⟩⟩, ?_, rfl⟩
                simp only [execOp, ee]
                refine run_v ?_
                rw [run_convert_bytes_string w src dst e _ _ _ hsrc he hdst]
                rw [run_bytesToString w _ n c' ns (by rw [h4, e1])]
                have := foldl_push ns []
                rw [List.nil_append] at this
                rw [e2, ← this]
                rfl
              · cases h
            · cases h
          · cases h
        · cases h
      · cases h
    · cases h
  case call c =>
    obtain ⟨callee, args, ts⟩ := c
    cases callee with
    | value f => simp only at h; cases h
    | invoke f m => simp only at h; cases h
    | builtin b =>
      have hargs : (Op.call { callee := Callee.builtin b, args := args, argTypes := ts }).operands.toList.map ρ = (args.map ρ).toList := by simp [Op.operands, Call.operands]
      simp only at hv
      rw [hargs] at hv
      have one : ∀ v, (args.map ρ).toList = [v] → args.map ρ = #[v] := fun v e => by rw [← Array.toList_inj, e]
      cases b <;> simp only at h <;> first
        | (cases h; done)
        | skip
      case len =>
        split at h
        · rename_i t ht
          split at h
          · rename_i kt e hu
            split at h
            · injection h with h; subst h
              obtain ⟨u, e', h1⟩ := VRs_one hv
              have h1' : u = .map none := h1
              refine ⟨goInt 0, ?_, rfl⟩
              have hz : (Builtin.len_ ts ty #[.map none]).run P w = .ok (goInt 0) w := by
                have hu0 : (#[Value.map none] : Array Value)[0]? = some (.map none) := rfl
                simp only [Builtin.len_, ht, hu0, Sem.run_bind, run_underlying hu, Result.andThen_ok]; rfl
              simp only [execOp, resolve, one u e', h1', Sem.run_bind, Sem.run_pure, Result.andThen_ok, invoke, builtin, hz]
            · rename_i β
              split at h
              · rename_i es clock hb
                injection h with h; subst h
                obtain ⟨u, e', b, hmu, rfl⟩ := VRs_one hv
                obtain ⟨r', es', g1, g2, g3⟩ := k.map (hs _ _ hb)
                rw [hmu] at g1; injection g1 with g1; simp only [Prod.mk.injEq] at g1
                rw [← g1.1] at g2
                have hlen : ∀ (es : List (AV × AV × Nat)) (es' : List MapEntry), ERs μ es es' → es.length = es'.length := by
                  intro es
                  induction es with
                  | nil => intro es' he; simp only [ERs] at he; subst he; rfl
                  | cons x xs ih => intro es' he; obtain ⟨_, _, rfl, _, _, _, h4⟩ := he; simp [ih _ h4]
                have hl := hlen _ _ g3
                refine ⟨goInt es'.size, ?_, ?_⟩
                · have hz : (Builtin.len_ ts ty #[.map (some b)]).run P w = .ok (goInt es'.size) w := by
                    have hu0 : (#[Value.map (some b)] : Array Value)[0]? = some (.map (some b)) := rfl
                    simp only [Builtin.len_, ht, hu0, Sem.run_bind, run_underlying hu, Result.andThen_ok, getObj_map g2]; rfl
                  simp only [execOp, resolve, one _ e', Sem.run_bind, Sem.run_pure, Result.andThen_ok, invoke, builtin, hz]
                · show goInt _ = .int .i64 _
                  rw [hl, Array.length_toList]; rfl
              · cases h
            · cases h
          · cases h
        · cases h
end Go.Xec
