/- Append, and all operations that turn memory in one. -/
import Derived.Test.YtkmabheddbbndaaDoorXh
namespace Go.Xec
variable {P : Program} {μ : Mu} {w : World} {F : Nat → Prop} {w0 : World}

theorem run_append_fits' {w' : World} {ts : Array TypeId} {ty t t1 e : TypeId} {d1 : TypeDesc} {v : Value} {base : Option Addr} {sLen sCap z m : Nat} {nv : Array Value}
    (ht : ts[0]? = some t) (ht1 : ts[1]? = some t1) (hd1 : P.underlying t1 = some d1) (hd2 : ∀ k, d1 ≠ .int k) (hu : P.underlying t = some (.slice e)) (hz : sizeOfT P e = some z)
    (hlen : (Builtin.lenOf v).run P w = .ok m w) (hroom : sLen + m ≤ sCap) (hnew : (Builtin.firstCells z m v).run P w = .ok nv w)
    (hst : (match base with | some a => storeCells (a.add (sLen * z)) nv.toList | none => pure () : Sem Unit).run P w = .ok () w') :
    (Builtin.append_ ts ty #[.slice base sLen sCap, v]).run P w = .ok (.slice base (sLen + m) sCap) w' := by
  have hu0 : (#[.slice base sLen sCap, v] : Array Value)[0]? = some (.slice base sLen sCap) := rfl
  have hu1 : (#[.slice base sLen sCap, v] : Array Value)[1]? = some v := rfl
  have hd3 : (match d1 with | .int _ => true | _ => false) = false := by cases d1 <;> first | rfl | exact absurd rfl (hd2 _)
  simp only [Builtin.append_, ht, ht1, hu0, hu1, Sem.run_bind, run_underlying hu, Result.andThen_ok, run_sizeOfT hz, run_underlying hd1, Sem.run_pure]
  simp only [Bool.false_eq_true, if_false, hlen, Result.andThen_ok, hroom, if_true, Bool.not_false, Sem.run_bind, hnew]
  cases base with
  | none => simp only [Sem.run_pure] at hst ⊢; injection hst with _ hst; subst hst; rfl
  | some a => simp only [Sem.run_bind] at hst ⊢; rw [hst]; rfl

theorem run_append_grows' {ts : Array TypeId} {ty t t1 e : TypeId} {d1 : TypeDesc} {v zv : Value} {ti : TypeInfo} {base : Option Addr} {sLen sCap z m : Nat} {nv ov : Array Value}
    (ht : ts[0]? = some t) (ht1 : ts[1]? = some t1) (hd1 : P.underlying t1 = some d1) (hd2 : ∀ k, d1 ≠ .int k) (hu : P.underlying t = some (.slice e)) (hz : sizeOfT P e = some z)
    (hi : P.info? e = some ti) (hzv : ti.zero = some zv)
    (hlen : (Builtin.lenOf v).run P w = .ok m w) (hroom : sCap < sLen + m) (hnew : ∀ w2 : World, w2.heap = w.heap → (Builtin.firstCells z m v).run P w2 = .ok nv w2)
    (hold : ∀ w2 : World, w2.heap = w.heap → (Builtin.firstCells z sLen (.slice base sLen sCap)).run P w2 = .ok ov w2)
    (h1 : sLen + m < 4611686018427387904) (h2 : ¬ Builtin.nextslicecap (sLen + m) sCap * ti.bytes > 2 ^ 48) :
    ∃ cap d, sLen + m ≤ cap ∧ (Builtin.append_ ts ty #[.slice base sLen sCap, v]).run P w =
      .ok (.slice (some ⟨w.heap.size, 0, none⟩) (sLen + m) cap) { w with heap := w.heap.push (.cells (ov ++ nv ++ Builtin.zeroCells zv.cells (cap - (sLen + m))) e), drawn := d } := by
  have hu0 : (#[.slice base sLen sCap, v] : Array Value)[0]? = some (.slice base sLen sCap) := rfl
  have hu1 : (#[.slice base sLen sCap, v] : Array Value)[1]? = some v := rfl
  have hmax : IntKind.i64.max = 9223372036854775807 := by decide
  have h3 : ¬ (((sLen + m : Nat) : Int) > IntKind.i64.max ∧ (false = true ∨ ti.bytes = 0)) := by rw [hmax]; omega
  have hnr : ¬ sLen + m ≤ sCap := by omega
  refine ⟨(Question.appendCap (sLen + m) sCap e).cut (w.tape w.drawn (.appendCap (sLen + m) sCap e)), w.drawn + 1, by simp only [Question.cut]; omega, ?_⟩
  have hfo : (Question.appendCap (sLen + m) sCap e).forced = false := rfl
  have hzvr : ∀ w2 : World, (zeroValue e).run P w2 = .ok zv w2 := fun w2 => by simp only [zeroValue, Sem.run_bind, run_typeInfo hi, Result.andThen_ok, hzv]; rfl
  simp only [Builtin.append_, ht, ht1, hu0, hu1, Sem.run_bind, run_underlying hu, Result.andThen_ok, run_sizeOfT hz, run_underlying hd1, Sem.run_pure]
  simp only [Bool.false_eq_true, if_false, hlen, Result.andThen_ok, hnr, Bool.not_false, Sem.run_bind, if_true]
  simp only [run_typeInfo hi, Result.andThen_ok]
  rw [if_neg (by rw [hmax]; omega)]
  simp only [Sem.run_bind, run_typeInfo hi, Result.andThen_ok, h2, if_false, run_choose, hfo, Bool.false_eq_true, run_askRoom]
  rw [hold { w with drawn := w.drawn + 1 } rfl]
  simp only [Result.andThen_ok]
  rw [hnew { w with drawn := w.drawn + 1 } rfl]
  simp only [Result.andThen_ok, hzvr, newRow, Sem.run_bind, run_newObj, Sem.run_pure]

theorem HInv.ofHeap {hp : Nat → Option ABlk} (k : HInv F w0 μ hp w) {w2 : World} (h : w2.heap = w.heap) (h1 : w2.os = w.os) (h2 : w2.tape = w.tape) (h3 : w2.output = w.output) : HInv F w0 μ hp w2 :=
  ⟨fun β b hb => by rw [h]; exact k.blk β b hb, k.inj, fun j hj => by rw [h]; exact k.frame j hj, k.fsz, by rw [h]; exact k.size, h1.trans k.os, h2.trans k.tape, h3.trans k.output⟩

theorem run_firstCells_heap {z n : Nat} {v : Value} {nv : Array Value} (h : (Builtin.firstCells z n v).run P w = .ok nv w) {w2 : World} (h2 : w2.heap = w.heap)
    (hv : ∀ a l c, v = .slice (some a) l c → ∀ i, i < n * z → (w.cell? (a.add i)).isSome) : (Builtin.firstCells z n v).run P w2 = .ok nv w2 := by
  cases v with
  | slice a l c =>
    cases a with
    | none =>
      simp only [Builtin.firstCells, Sem.run_pure] at h ⊢
      injection h with h; rw [h]
    | some a =>
      have hc := hv a l c rfl
      have hcell : ∀ x, w2.cell? x = w.cell? x := fun x => by simp only [World.cell?, h2]
      simp only [Builtin.firstCells] at h ⊢
      have e1 := run_loadCells (P := P) w a (n * z) (fun i => (w.cell? (a.add i)).getD undef) (fun j hj => by
        obtain ⟨q, hq⟩ := Option.isSome_iff_exists.1 (hc j hj); rw [hq]; rfl)
      have e2 := run_loadCells (P := P) w2 a (n * z) (fun i => (w.cell? (a.add i)).getD undef) (fun j hj => by
        rw [hcell]; obtain ⟨q, hq⟩ := Option.isSome_iff_exists.1 (hc j hj); rw [hq]; rfl)
      rw [h] at e1; injection e1 with e1
      rw [e2, e1]
  | string s =>
    simp only [Builtin.firstCells, Sem.run_pure] at h ⊢
    injection h with h; rw [h]
  | _ => simp [Builtin.firstCells] at h

theorem elems_cells {st : St} {hp : Nat → Option ABlk} (hs : ∀ β b, st.heap.get β = some b → hp β = some b) (k : HInv F w0 μ hp w) {x : AV} {v : Value} {z n m : Nat} {l : List AV}
    (h : elemsA st z x n = some l) (hl : lenA x = some m) (hn : n ≤ m) (hv : VR μ x v) : ∀ a l c, v = .slice (some a) l c → ∀ i, i < n * z → (w.cell? (a.add i)).isSome := by
  intro a l' c hva i hi
  unfold elemsA at h
  split at h
  · cases hv; cases hva
  · simp only [lenA] at hl
    injection hl with hl
    have : n = 0 := by omega
    subst this; omega
  · obtain ⟨b, base, c', hm, hc, hn', hex, rfl⟩ := hv
    obtain ⟨r, base', vs, h1, h2, h3, h4⟩ := read_sim hs k h
    rw [hm] at h1; injection h1 with h1; simp only [Prod.mk.injEq] at h1
    injection hva with e1; injection e1 with e1
    rw [← e1, h1.1, h1.2]
    have hx : i < vs.length := by omega
    rw [h4 i vs[i] (List.getElem?_eq_getElem hx)]; rfl
  · cases hv; cases hva
  · cases h

/-- What is asked of the run of an append: it fits, or it grows. -/
structure AppRun (P : Program) (w : World) (ts : Array TypeId) (ty e : TypeId) (v : Value) (z m : Nat) (vs : List Value) : Prop where
  fits : ∀ (base : Option Addr) (sLen sCap : Nat) (w' : World), sLen + m ≤ sCap → (match base with | some a => storeCells (a.add (sLen * z)) vs.toArray.toList | none => pure () : Sem Unit).run P w = .ok () w' →
    (Builtin.append_ ts ty #[.slice base sLen sCap, v]).run P w = .ok (.slice base (sLen + m) sCap) w'
  grows : ∀ (ti : TypeInfo) (zv : Value) (base : Option Addr) (sLen sCap : Nat) (ov : Array Value), P.info? e = some ti → ti.zero = some zv → sCap < sLen + m →
    (∀ w2 : World, w2.heap = w.heap → (Builtin.firstCells z sLen (.slice base sLen sCap)).run P w2 = .ok ov w2) → sLen + m < 4611686018427387904 → ¬ Builtin.nextslicecap (sLen + m) sCap * ti.bytes > 2 ^ 48 →
    ∃ cap d, sLen + m ≤ cap ∧ (Builtin.append_ ts ty #[.slice base sLen sCap, v]).run P w =
      .ok (.slice (some ⟨w.heap.size, 0, none⟩) (sLen + m) cap) { w with heap := w.heap.push (.cells (ov ++ vs.toArray ++ Builtin.zeroCells zv.cells (cap - (sLen + m))) e), drawn := d }

theorem appendC_sim {st st' : St} (k : HInv F w0 μ st.heap.get w) (hf : Fresh μ st.nxt) {ts : Array TypeId} {ty e by_ z m : Nat} {new : List AV} {s a : AV} {u v : Value} {vs : List Value}
    (hz : sizeOfT P e = some z) (hby : bytesOfT P e = some by_) (g1 : VRs μ new vs) (R : AppRun P w ts ty e v z m vs)
    (h : appendC P st e by_ z m new s = some (a, st')) (hs : VR μ s u) :
    ∃ z w' μ', (Builtin.append_ ts ty #[u, v]).run P w = .ok z w' ∧ VR μ' a z ∧ Went F w0 μ st.nxt μ' st' w' := by
  unfold appendC at h
  split at h
  · cases h
  rename_i hc
  simp only [Bool.and_eq_true] at hc
  obtain ⟨⟨hc1, hc2⟩, hc3⟩ := hc
  have hnl : new.length = m * z := Nat.eq_of_beq_eq_true hc1
  obtain ⟨zv, hzv, hzs⟩ : ∃ zv, (P.info? e).bind (·.zero) = some zv ∧ zv.cells.size = z := by
    unfold zeroOk at hc3
    split at hc3
    · rename_i zero hzero
      obtain ⟨i, v', h1, h2, h3⟩ := zeroT_spec (μ := μ) hzero
      refine ⟨v', by rw [h1]; exact h2, ?_⟩
      rw [← Nat.eq_of_beq_eq_true hc3, ← Array.length_toList, VRs_length (VR_cells h3)]
    · cases hc3
  have gl := VRs_length g1
  have info : ∃ ti, P.info? e = some ti ∧ ti.bytes = by_ := by
    unfold bytesOfT at hby
    split at hby
    · rename_i i hi; injection hby with hby; exact ⟨i, hi, hby⟩
    · cases hby
  obtain ⟨ti, hti, htib⟩ := info
  rw [hti] at hzv
  have hzv' : ti.zero = some zv := hzv
  have hfn : μ st.nxt = none := hf _ (Nat.le_refl _)
  have sizes : ∀ (ov : Array Value) (s cap : Nat), ov.size = s * z → s + m ≤ cap → (ov ++ vs.toArray ++ Builtin.zeroCells zv.cells (cap - (s + m))).size = cap * z := by
    intro ov s cap h1 h2
    rw [Array.size_append, Array.size_append, size_zeroCells, hzs, h1]
    have : vs.toArray.size = m * z := by rw [List.size_toArray, ← gl, hnl]
    rw [this, ← Nat.add_mul, ← Nat.add_mul]
    congr 1; omega
  split at h
  · -- a nil slice
    cases hs
    split at h
    · rename_i h0
      have h0' : m = 0 := Nat.eq_of_beq_eq_true h0
      subst h0'
      injection h with h; simp only [Prod.mk.injEq] at h; obtain ⟨e1, e2⟩ := h; subst e1; subst e2
      exact ⟨.slice none 0 0, w, μ, R.fits none 0 0 w (by omega) rfl, rfl, Went.same k hf⟩
    · rename_i h0
      have h0' : m ≠ 0 := Nat.ne_of_beq_eq_false h0
      split at h
      · rename_i hroom
        injection h with h; simp only [Prod.mk.injEq] at h; obtain ⟨e1, e2⟩ := h; subst e1; subst e2
        obtain ⟨r1, r2⟩ := roomA_spec (old := 0) hroom (by omega)
        obtain ⟨cap, d, c1, c2⟩ := R.grows ti zv none 0 0 #[] hti hzv' (by omega) (fun _ _ => rfl) (by rw [Nat.zero_add]; exact r2)
          (by rw [Nat.zero_add, htib]; exact r1)
        have hsz := sizes #[] 0 cap (by simp) c1
        have hat := Mu.put_at μ st.nxt (w.heap.size, 0) (#[] ++ vs.toArray ++ Builtin.zeroCells zv.cells (cap - (0 + m))).size
        have hxt := Mu.put_ext μ st.nxt (w.heap.size, 0) (#[] ++ vs.toArray ++ Builtin.zeroCells zv.cells (cap - (0 + m))).size
        refine ⟨_, _, μ.put st.nxt (w.heap.size, 0) (#[] ++ vs.toArray ++ Builtin.zeroCells zv.cells (cap - (0 + m))).size, c2, ?_, Mu.le_put hfn, by simp, fun β hβ => Mu.put_other _ _ _ (by omega), ?_, hf.put _ _⟩
        · exact ⟨w.heap.size, 0, cap, hat, by omega, Nat.le_refl _, by rw [hxt, hsz]; omega, by simp⟩
        · have := k.alloc (nm := st.nxt) hfn (b := blkOf new) (o := .cells (#[] ++ vs.toArray ++ Builtin.zeroCells zv.cells (cap - (0 + m))) e) (ex := _) (d := d) (by
            refine ⟨_, _, 0, 0, rfl, ⟨?_, Nat.le_of_eq (Nat.zero_add _), rfl⟩, fun i _ => by omega, fun i a hi ha => ?_⟩
            · rw [hsz, hnl]; exact Nat.mul_le_mul_right _ (by omega)
            · rw [writeL_get, if_pos (by omega), Nat.sub_zero] at ha
              obtain ⟨q, hq, hr⟩ := VRs_get g1 i a ha
              refine ⟨q, ?_, VR_mono (Mu.le_put hfn) _ _ hr⟩
              rw [Nat.zero_add, Array.empty_append, Array.getElem?_append_left (by rw [List.size_toArray]; omega)]
              simpa using hq)
          rw [get_set_fun]; exact this
      · cases h
  · rename_i β o n c zz
    split at h
    · cases h
    rename_i hzz
    have hzz' : z = zz := Nat.eq_of_beq_eq_true hzz
    subst hzz'
    obtain ⟨b, base, c', hmu, hcc, hnc, hex, rfl⟩ := hs
    split at h
    · rename_i hle
      have hle' := Nat.le_of_ble_eq_true hle
      split at h
      · rename_i st2 hw
        injection h with h; simp only [Prod.mk.injEq] at h; obtain ⟨e1, e2⟩ := h; subst e1; subst e2
        obtain ⟨r, base', w', q1, q2, q3, q4⟩ := write_sim (P := P) k hw g1
        rw [hmu] at q1; injection q1 with q1; simp only [Prod.mk.injEq] at q1
        refine ⟨.slice (some ⟨b, base + o, none⟩) (n + m) c', w', μ, R.fits _ _ _ _ (by omega) ?_, ⟨b, base, c', hmu, hcc, hle', hex, rfl⟩,
          Mu.le_refl _, by omega, fun _ _ => rfl, q3, by rw [q4]; exact hf⟩
        simp only [Addr.add_off]
        rw [q1.1, q1.2, Nat.add_assoc]; exact q2
      · cases h
    · split at h
      · rename_i hroom
        split at h
        · rename_i kk cs hb
          split at h
          · rename_i hfit
            split at h
            · rename_i old hold
              split at h
              case h_2 => cases h
              rename_i ho0'
              have ho0 : o = 0 := Nat.eq_of_beq_eq_true ho0'
              injection h with h; simp only [Prod.mk.injEq] at h; obtain ⟨e1, e2⟩ := h; subst e1; subst e2
              have hfit' := Nat.le_of_ble_eq_true hfit
              obtain ⟨ho1, ho2⟩ := readN_get _ _ _ hold
              obtain ⟨r, base', cc, ee, lo, hi, q1, q2, q3, q4, q5⟩ := k.cells hb
              rw [hmu] at q1; injection q1 with q1; simp only [Prod.mk.injEq] at q1
              obtain ⟨q1a, q1b⟩ := q1
              subst q1a; subst q1b
              have hmz : (n + m) * z = n * z + m * z := Nat.add_mul _ _ _
              by_cases hcap : n + m ≤ c'
              · have hcz : (n + m) * z ≤ c' * z := Nat.mul_le_mul_right _ hcap
                have hone : ∀ q ∈ vs, q.oneCell' = true := by
                  intro q hq
                  obtain ⟨i, hi', hee⟩ := List.getElem_of_mem hq
                  have hxx : i < new.length := by omega
                  obtain ⟨q', hq', hr⟩ := VRs_get g1 i new[i] (List.getElem?_eq_getElem hxx)
                  rw [List.getElem?_eq_getElem hi'] at hq'
                  injection hq' with hq'
                  rw [← hee, hq']
                  exact VR_one hr (List.all_eq_true.1 hc2 _ (List.getElem_mem hxx))
                obtain ⟨c2, w', p1, p2, p3, p4, p5, p6, p7, p8, p9⟩ := run_storeCells_free (P := P) b (base + o + n * z) ee lo hi vs 0 cc w q2 (by omega) q4 hone
                refine ⟨.slice (some ⟨b, base + o, none⟩) (n + m) c', w', μ.put st.nxt (b, base + o) (μ.ext β - o), R.fits _ _ _ _ hcap ?_, ?_, Mu.le_put hfn, by simp,
                  fun γ hγ => Mu.put_other _ _ _ (by omega), ?_, hf.put _ _⟩
                · simp only [Addr.add_off]; exact p1
                · exact ⟨b, base + o, c', Mu.put_at _ _ _ _, hcap, Nat.le_refl _, by rw [Mu.put_ext]; omega, rfl⟩
                · refine k.rename hf hb hmu p2 (by rw [p3]; exact q4) ho0 (by omega) (by omega) (by rw [p3]; exact q3.2) (fun i a hi ha => ?_) p5 p6 p7 p8 p9
                  have hg := growT_get hold (by omega) ha
                  rw [p4]
                  by_cases hin : i < n * z
                  · rw [List.getElem?_append_left (by omega)] at hg
                    rw [if_neg (by omega)]
                    have := ho2 i a hg
                    obtain ⟨q, hq, hr⟩ := q5 (o + i) a (by omega) this
                    exact ⟨q, by rw [← hq, Nat.add_assoc], hr⟩
                  · rw [List.getElem?_append_right (by omega), ho1] at hg
                    rw [if_pos (by omega)]
                    obtain ⟨q, hq, hr⟩ := VRs_get g1 _ a hg
                    exact ⟨q, by rw [← hq]; congr 1; omega, hr⟩
              · obtain ⟨r1, r2⟩ := roomA_spec (old := c') hroom (by omega)
                have hel : elemsA st z (.sl β o n c z) n = some old := by
                  simp only [elemsA, St.read, hb, hfit, hold]
                have hvr : VR μ (.sl β o n c z) (.slice (some ⟨b, base + o, none⟩) n c') := ⟨b, base, c', hmu, hcc, hnc, hex, rfl⟩
                obtain ⟨os, o1, o2⟩ := elemsA_sim (P := P) (fun _ _ q => q) k hel rfl (Nat.le_refl _) hvr
                have o3 : ∀ w2 : World, w2.heap = w.heap → (Builtin.firstCells z n (.slice (some ⟨b, base + o, none⟩) n c')).run P w2 = .ok os.toArray w2 := fun w2 h2 =>
                  run_firstCells_heap o2 h2 (elems_cells (fun _ _ q => q) k hel rfl (Nat.le_refl _) hvr)
                have ol := VRs_length o1
                obtain ⟨cap, d, c1, c2⟩ := R.grows ti zv _ _ _ _ hti hzv' (by omega) o3 r2 (by rw [htib]; exact r1)
                have hsz := sizes os.toArray n cap (by rw [List.size_toArray, ← ol, ho1]) c1
                have kd := k.sub (h' := (st.heap.del β).get) (fun γ b' hγ => by rw [T.get_del] at hγ; split at hγ <;> first | (cases hγ; done) | exact hγ)
                have hat := Mu.put_at μ st.nxt (w.heap.size, 0) (os.toArray ++ vs.toArray ++ Builtin.zeroCells zv.cells (cap - (n + m))).size
                have hxt := Mu.put_ext μ st.nxt (w.heap.size, 0) (os.toArray ++ vs.toArray ++ Builtin.zeroCells zv.cells (cap - (n + m))).size
                refine ⟨_, _, μ.put st.nxt (w.heap.size, 0) (os.toArray ++ vs.toArray ++ Builtin.zeroCells zv.cells (cap - (n + m))).size, c2, ?_, Mu.le_put hfn, by simp, fun γ hγ => Mu.put_other _ _ _ (by omega), ?_, hf.put _ _⟩
                · exact ⟨w.heap.size, 0, cap, hat, c1, Nat.le_refl _, by rw [hxt, hsz]; omega, rfl⟩
                · have := kd.alloc (nm := st.nxt) hfn (b := .cells ((n + m) * z) (growT cs o (n * z) old new)) (o := .cells (os.toArray ++ vs.toArray ++ Builtin.zeroCells zv.cells (cap - (n + m))) e) (ex := _) (d := d) (by
                    refine ⟨_, _, 0, 0, rfl, ⟨?_, Nat.le_of_eq (Nat.zero_add _), rfl⟩, fun i _ => by omega, fun i a hi ha => ?_⟩
                    · rw [hsz]; exact Nat.mul_le_mul_right _ c1
                    · have hg := growT_get hold (by omega) ha
                      have hall := VRs_append o1 g1
                      obtain ⟨q, hq, hr⟩ := VRs_get hall i a hg
                      refine ⟨q, ?_, VR_mono (Mu.le_put hfn) _ _ hr⟩
                      rw [Nat.zero_add, Array.getElem?_append_left (by rw [Array.size_append, List.size_toArray, List.size_toArray]; omega)]
                      simpa using hq)
                  rw [get_set_fun]; exact this
            · cases h
          · cases h
        · cases h
      · cases h
  · cases h

theorem appendA_sim {st st' : St} (k : HInv F w0 μ st.heap.get w) (hf : Fresh μ st.nxt) {ts : Array TypeId} {ty t t1 : TypeId} {d1 : TypeDesc} {s x a : AV} {u v : Value}
    (ht : ts[0]? = some t) (ht1 : ts[1]? = some t1) (hd1 : P.underlying t1 = some d1) (hd2 : ∀ k, d1 ≠ .int k)
    (h : appendA P st t s x = some (a, st')) (hs : VR μ s u) (hx : VR μ x v) :
    ∃ z w' μ', (Builtin.append_ ts ty #[u, v]).run P w = .ok z w' ∧ VR μ' a z ∧ Went F w0 μ st.nxt μ' st' w' := by
  unfold appendA at h
  split at h
  · cases h
  rename_i e he
  have hu := sliceElem_under he
  split at h
  case h_2 => cases h
  rename_i z by_ m hz hby hm
  split at h
  · cases h
  rename_i new hnew
  have hlen := lenA_sim (P := P) hm hx w
  obtain ⟨vs, g1, g2⟩ := elemsA_sim (P := P) (fun _ _ q => q) k hnew hm (Nat.le_refl _) hx
  have g3 : ∀ w2 : World, w2.heap = w.heap → (Builtin.firstCells z m v).run P w2 = .ok vs.toArray w2 := fun w2 h2 =>
    run_firstCells_heap g2 h2 (elems_cells (fun _ _ q => q) k hnew hm (Nat.le_refl _) hx)
  refine appendC_sim k hf hz hby g1 ⟨fun base sLen sCap w' h1 h2 => ?_, fun ti zv base sLen sCap ov h1 h2 h3 h4 h5 h6 => ?_⟩ h hs
  · exact run_append_fits' ht ht1 hd1 hd2 hu hz hlen h1 g2 h2
  · exact run_append_grows' ht ht1 hd1 hd2 hu hz h1 h2 hlen h3 g3 h4 h5 h6

theorem appendZ_sim {st st' : St} (k : HInv F w0 μ st.heap.get w) (hf : Fresh μ st.nxt) {ts : Array TypeId} {ty t t1 : TypeId} {kk : IntKind} {s x a : AV} {u v : Value}
    (ht : ts[0]? = some t) (ht1 : ts[1]? = some t1) (hd1 : P.underlying t1 = some (.int kk))
    (h : appendZ P st t s x = some (a, st')) (hs : VR μ s u) (hx : VR μ x v) :
    ∃ z w' μ', (Builtin.append_ ts ty #[u, v]).run P w = .ok z w' ∧ VR μ' a z ∧ Went F w0 μ st.nxt μ' st' w' := by
  unfold appendZ at h
  split at h
  case h_2 => cases h
  rename_i k1 l
  split at h
  · cases h
  rename_i e he
  have hu := sliceElem_under he
  split at h
  case h_2 => cases h
  rename_i z by_ zero hz hby hzero
  split at h
  case h_2 => cases h
  rename_i hc
  simp only [zcond, Bool.and_eq_true, decide_eq_true_eq] at hc
  obtain ⟨⟨⟨⟨c1, c2⟩, c3⟩, c4⟩, c5⟩ := hc
  have c4' := Nat.eq_of_beq_eq_true c4
  have c5' : 0 < z := by simpa using c5
  have hxv : v = .int k1 l := by simpa only [VR] using hx
  subst hxv
  obtain ⟨ti, zv, h1, h2, h3⟩ := zeroT_spec (μ := μ) hzero
  have hbt : ti.bytes = by_ := by
    unfold bytesOfT at hby
    rw [h1] at hby
    injection hby
  have hzs : zv.cells.size = z := by rw [← c4', ← Array.length_toList, VRs_length (VR_cells h3)]
  have g1 := VRs_zeros (VR_cells h3) l.toNat (by omega)
  have hw : IntKind.i64.wrap l = l := IntWalk.i64_in _ (by omega)
  have hn0 : l.toNat * z = 0 → (Builtin.zeroCells zv.cells l.toNat) = #[] := by
    intro q
    apply Array.eq_empty_of_size_eq_zero
    rw [size_zeroCells, hzs, q]
  have hap : ∀ w2 : World, ((if l.toNat * z = 0 then pure #[] else do pure (Builtin.zeroCells (← zeroValue e).cells l.toNat)) : Sem (Array Value)).run P w2 = .ok (Builtin.zeroCells zv.cells l.toNat) w2 := by
    intro w2
    by_cases q : l.toNat * z = 0
    · rw [if_pos q, hn0 q]; rfl
    · rw [if_neg q]
      simp only [zeroValue, Sem.run_bind, run_typeInfo h1, Result.andThen_ok, h2]; rfl
  have hu0 : ∀ q : Value, (#[q, .int k1 l] : Array Value)[0]? = some q := fun _ => rfl
  have hu1 : ∀ q : Value, (#[q, .int k1 l] : Array Value)[1]? = some (.int k1 l) := fun _ => rfl
  have n1 : ¬ l < 0 := by omega
  have n2 : ¬ l * (ti.bytes : Int) > 2 ^ 48 := by rw [hbt]; omega
  refine appendC_sim k hf hz hby g1 ⟨fun base sLen sCap w' q1 q2 => ?_, fun ti' zv' base sLen sCap ov p1 p2 p3 p4 p5 p6 => ?_⟩ h hs
  · simp only [Builtin.append_, ht, ht1, hu0, hu1, Sem.run_bind, run_underlying hu, Result.andThen_ok, run_sizeOfT hz, run_underlying hd1, Sem.run_pure, asInt, asIntOf]
    simp only [if_true, Sem.run_bind, Sem.run_pure, Result.andThen_ok, hw, n1, if_false, run_typeInfo h1, n2, q1, Bool.not_true, Bool.false_eq_true]
    have hap' := hap w
    simp only [Builtin.zeroCells] at hap' ⊢
    rw [hap']
    simp only [Result.andThen_ok]
    cases base with
    | none => simp only [Sem.run_pure] at q2 ⊢; injection q2 with _ q2; subst q2; rfl
    | some a => simp only [Sem.run_bind] at q2 ⊢; rw [q2]; rfl
  · rw [h1] at p1; injection p1 with p1; subst p1
    rw [h2] at p2; injection p2 with p2; subst p2
    have hmax : IntKind.i64.max = 9223372036854775807 := by decide
    have hnr : ¬ sLen + l.toNat ≤ sCap := by omega
    refine ⟨(Question.appendCap (sLen + l.toNat) sCap e).cut (w.tape w.drawn (.appendCap (sLen + l.toNat) sCap e)), w.drawn + 1, by simp only [Question.cut]; omega, ?_⟩
    have hfo : (Question.appendCap (sLen + l.toNat) sCap e).forced = false := rfl
    have hzvr : ∀ w2 : World, (zeroValue e).run P w2 = .ok zv w2 := fun w2 => by simp only [zeroValue, Sem.run_bind, run_typeInfo h1, Result.andThen_ok, h2]; rfl
    simp only [Builtin.append_, ht, ht1, hu0, hu1, Sem.run_bind, run_underlying hu, Result.andThen_ok, run_sizeOfT hz, run_underlying hd1, Sem.run_pure, asInt, asIntOf]
    simp only [if_true, Sem.run_bind, Sem.run_pure, Result.andThen_ok, hw, n1, if_false, run_typeInfo h1, n2, hnr, Bool.not_true, Bool.false_eq_true]
    rw [if_neg (by rw [hmax]; omega)]
    simp only [Sem.run_bind, run_typeInfo h1, Result.andThen_ok, p6, if_false, run_choose, hfo, Bool.false_eq_true, run_askRoom]
    rw [p4 { w with drawn := w.drawn + 1 } rfl]
    simp only [Result.andThen_ok]
    have hap' := hap { w with drawn := w.drawn + 1 }
    simp only [Builtin.zeroCells] at hap' ⊢
    rw [hap']
    simp only [Result.andThen_ok, hzvr, newRow, Sem.run_bind, run_newObj, Sem.run_pure]
end Go.Xec
