/- The operations that turn memory (stores, maps, append, copy) do in the model what the abstract executor says. -/
import Derived.Test.YtkmabheddbbndaaDoorXg
namespace Go.Xec
variable {P : Program} {μ : Mu} {w : World} {F : Nat → Prop} {w0 : World}

/-- What an operation gives: a value, or nothing. -/
def OkRes (n : Next) (z : Value) : Prop := n = .value z ∨ (n = .skip ∧ z = Go.undef)

/-- From one state and world to the next. -/
structure Went (F : Nat → Prop) (w0 : World) (μ : Mu) (n : Nat) (μ' : Mu) (st' : St) (w' : World) : Prop where
  le : μ.le μ'
  up : n ≤ st'.nxt
  old : ∀ β, β < n → μ' β = μ β
  inv : HInv F w0 μ' st'.heap.get w'
  fresh : Fresh μ' st'.nxt

theorem Went.same {st : St} (k : HInv F w0 μ st.heap.get w) (hf : Fresh μ st.nxt) : Went F w0 μ st.nxt μ st w :=
  ⟨Mu.le_refl μ, Nat.le_refl _, fun _ _ => rfl, k, hf⟩

theorem run_u {s : Sem Unit} {w w' : World} (h : s.run P w = .ok () w') : ((do s; pure .skip : Sem Next)).run P w = .ok .skip w' := by
  simp only [Sem.run_bind, h, Result.andThen_ok, Sem.run_pure]

theorem ERs_length {μ : Mu} : ∀ {es : List (AV × AV × Nat)} {es' : List MapEntry}, ERs μ es es' → es.length = es'.length
  | [], _, he => by simp only [ERs] at he; subst he; rfl
  | _ :: _, _, he => by obtain ⟨_, _, rfl, _, _, _, h4⟩ := he; simp [ERs_length h4]

def ER (μ : Mu) (e : AV × AV × Nat) (e' : MapEntry) : Prop := VR μ e.1 e'.key ∧ VR μ e.2.1 e'.val ∧ e.2.2 = e'.born

theorem ERs_get : ∀ {es : List (AV × AV × Nat)} {es' : List MapEntry}, ERs μ es es' → ∀ (i : Nat) (e : AV × AV × Nat), es[i]? = some e → ∃ e', es'[i]? = some e' ∧ ER μ e e'
  | [], _, _, i, e, h => by simp at h
  | x :: xs, _, he, i, e, h => by
    obtain ⟨x', xs', rfl, h1, h2, h3, h4⟩ := he
    cases i with
    | zero => simp at h; subst h; exact ⟨x', rfl, h1, h2, h3⟩
    | succ i => obtain ⟨e', g1, g2⟩ := ERs_get h4 i e (by simpa using h); exact ⟨e', by simpa using g1, g2⟩

theorem ERs_of_get : ∀ {es : List (AV × AV × Nat)} {es' : List MapEntry}, es.length = es'.length → (∀ (i : Nat) (e : AV × AV × Nat) (e' : MapEntry), es[i]? = some e → es'[i]? = some e' → ER μ e e') → ERs μ es es'
  | [], es', hl, _ => by
    cases es' with
    | nil => rfl
    | cons _ _ => simp at hl
  | x :: xs, es', hl, h => by
    cases es' with
    | nil => simp at hl
    | cons x' xs' =>
      obtain ⟨h1, h2, h3⟩ := h 0 x x' rfl rfl
      exact ⟨x', xs', rfl, h1, h2, h3, ERs_of_get (by simpa using hl) fun i e e' he he' => h (i + 1) e e' (by simpa using he) (by simpa using he')⟩

theorem ERs_modify {es : List (AV × AV × Nat)} {es' : List MapEntry} (he : ERs μ es es') (i : Nat) (f : AV × AV × Nat → AV × AV × Nat) (g : MapEntry → MapEntry)
    (h : ∀ e e', es[i]? = some e → es'[i]? = some e' → ER μ e e' → ER μ (f e) (g e')) : ERs μ (es.modify i f) (es'.modify i g) := by
  refine ERs_of_get (by simp [ERs_length he]) fun j e e' h1 h2 => ?_
  rw [List.getElem?_modify] at h1 h2
  by_cases hij : i = j
  · subst hij
    simp only [if_true, Option.map_eq_map, Option.map_eq_some_iff] at h1 h2
    obtain ⟨x, hx, rfl⟩ := h1
    obtain ⟨x', hx', rfl⟩ := h2
    obtain ⟨y, hy, hr⟩ := ERs_get he i x hx
    rw [hx'] at hy; injection hy with hy; subst hy
    exact h x x' hx hx' hr
  · have h1 : es[j]? = some e := by simpa [hij] using h1
    have h2 : es'[j]? = some e' := by simpa [hij] using h2
    obtain ⟨y, hy, hr⟩ := ERs_get he j e h1
    rw [h2] at hy; injection hy with hy; subst hy
    exact hr

theorem ERs_push {es : List (AV × AV × Nat)} {es' : List MapEntry} (he : ERs μ es es') {e : AV × AV × Nat} {e' : MapEntry} (h : ER μ e e') : ERs μ (es ++ [e]) (es' ++ [e']) := by
  refine ERs_of_get (by simp [ERs_length he]) fun j x x' h1 h2 => ?_
  have hl := ERs_length he
  by_cases hj : j < es.length
  · rw [List.getElem?_append_left hj] at h1
    rw [List.getElem?_append_left (by omega)] at h2
    obtain ⟨y, hy, hr⟩ := ERs_get he j x h1
    rw [h2] at hy; injection hy with hy; subst hy
    exact hr
  · rw [List.getElem?_append_right (by omega)] at h1
    rw [List.getElem?_append_right (by omega)] at h2
    rw [← hl] at h2
    cases hk : j - es.length with
    | zero => rw [hk] at h1 h2; simp at h1 h2; subst h1; subst h2; exact h
    | succ n => rw [hk] at h1; simp at h1

theorem findA_key : ∀ (es : List (AV × AV × Nat)) (key : AV) (s i : Nat) (v : AV), findA key es s = some (some (i, v)) →
    s ≤ i ∧ ∃ e, es[i - s]? = some e ∧ keyEq key e.1 = some true ∧ e.2.1 = v
  | [], key, s, i, v, h => by simp [findA] at h
  | e :: es, key, s, i, v, h => by
    simp only [findA] at h
    split at h
    · rename_i hk
      injection h with h; injection h with h
      simp only [Prod.mk.injEq] at h
      obtain ⟨h1, h2⟩ := h
      subst h1
      exact ⟨Nat.le_refl _, e, by simp, hk, h2⟩
    · obtain ⟨h1, e', h2, h3, h4⟩ := findA_key es key (s + 1) i v h
      refine ⟨by omega, e', ?_, h3, h4⟩
      have : i - s = (i - (s + 1)) + 1 := by omega
      rw [this, List.getElem?_cons_succ]; exact h2
    · cases h

theorem keyEq_same {a b : AV} {u v : Value} (h : keyEq a b = some true) (ha : VR μ a u) (hb : VR μ b v) (n : Nat) : u = v ∧ Instr.sameBits n v u = true := by
  unfold keyEq at h
  split at h
  · rename_i k x j y
    have ha' : u = .int k x := ha
    have hb' : v = .int j y := hb
    subst ha'; subst hb'
    split at h
    · rename_i hkj
      have hkj' : k = j := by simpa using hkj
      have hxy : x = y := by simpa using h
      subst hkj'; subst hxy
      exact ⟨rfl, by cases n <;> simp [Instr.sameBits]⟩
    · cases h
  · rename_i x y
    have ha' : u = .string ⟨⟨x⟩⟩ := ha
    have hb' : v = .string ⟨⟨y⟩⟩ := hb
    have hxy : x = y := by simpa using h
    subst hxy; subst ha'; subst hb'
    exact ⟨rfl, by cases n <;> (simp only [Instr.sameBits]; rw [beq_toListBytes]; simp)⟩
  · cases h

theorem run_keyThatStays {old new : Value} (h : Instr.sameBits 10000 old new = true) (w : World) : (Instr.keyThatStays old new).run P w = .ok new w := by
  simp only [Instr.keyThatStays, h, if_true, Sem.run_pure]

theorem run_setObj_map {r clock clock' : Nat} {es es' : Array MapEntry} (h : w.heap[r]? = some (.map es clock)) :
    (setObj r (.map es' clock')).run P w = .ok () { w with heap := w.heap.setIfInBounds r (.map es' clock') } := by
  simp [setObj, Sem.run, h]

/-- A map is turned. -/
theorem HInv.turnMap {st : St} (k : HInv F w0 μ st.heap.get w) {β r clock clock' : Nat} {es es1 : List (AV × AV × Nat)} {es' : Array MapEntry} (hb : st.heap.get β = some (.map es clock))
    (hm : μ β = some (r, 0)) (he : ERs μ es1 es'.toList) :
    HInv F w0 μ (st.heap.set β (.map es1 clock')).get { w with heap := w.heap.setIfInBounds r (.map es' clock') } := by
  obtain ⟨r2, base, o, q1, q2, q3, q4⟩ := k.blk β _ hb
  rw [hm] at q1; injection q1 with q1; simp only [Prod.mk.injEq] at q1
  have hlt : r < w.heap.size := by rw [q1.1]; exact (Array.getElem?_eq_some_iff.1 q2).1
  rw [get_set_fun]
  refine k.turn (by rw [hb]; rfl) (fun n cs e => by rw [hb] at e; cases e) hm (o := .map es' clock') ⟨rfl, es', rfl, he⟩ ?_ ?_ ?_ rfl rfl rfl
  · simp [hlt]
  · intro j hj
    show (w.heap.setIfInBounds r _)[j]? = _
    rw [Array.getElem?_setIfInBounds_ne (fun e => hj e.symm)]
  · simp

theorem lenA_sim {x : AV} {v : Value} {m : Nat} (h : lenA x = some m) (hv : VR μ x v) (w : World) : (Builtin.lenOf v).run P w = .ok m w := by
  unfold lenA at h
  split at h
  · injection h with h; subst h; cases hv; rfl
  · injection h with h; subst h; obtain ⟨_, _, rfl⟩ := hv; rfl
  · injection h with h; subst h; obtain ⟨_, _, _, _, _, _, _, rfl⟩ := hv; rfl
  · injection h with h; subst h; cases hv; rfl
  · cases h

theorem elemsA_sim {st : St} {hp : Nat → Option ABlk} (hs : ∀ β b, st.heap.get β = some b → hp β = some b) (k : HInv F w0 μ hp w) {x : AV} {v : Value} {z n m : Nat} {l : List AV}
    (h : elemsA st z x n = some l) (hl : lenA x = some m) (hn : n ≤ m) (hv : VR μ x v) : ∃ vs : List Value, VRs μ l vs ∧ (Builtin.firstCells z n v).run P w = .ok vs.toArray w := by
  unfold elemsA at h
  split at h
  · injection h with h; subst h; cases hv
    exact ⟨[], VRs_nil.2 rfl, rfl⟩
  · injection h with h; subst h; obtain ⟨a, c', rfl⟩ := hv
    simp only [lenA] at hl
    injection hl with hl
    have : n = 0 := by omega
    subst this
    exact ⟨[], VRs_nil.2 rfl, by simp [Builtin.firstCells, loadCells, loadCellsFrom]⟩
  · rename_i β o _ _ _
    obtain ⟨b, base, c', hm, hc, hn', hex, rfl⟩ := hv
    obtain ⟨r, base', vs, h1, h2, h3, h4⟩ := loadCells_sim (P := P) hs k h
    rw [hm] at h1; injection h1 with h1; simp only [Prod.mk.injEq] at h1
    rw [← h1.1, ← h1.2] at h4
    exact ⟨vs, h2, by simp only [Builtin.firstCells]; exact h4⟩
  · rename_i s
    injection h with h; subst h
    cases hv
    refine ⟨(s.take n).map fun c => .int .u8 c.toNat, VRs_map (μ := μ) (fun c : UInt8 => AV.int .u8 c.toNat) (fun c : UInt8 => Value.int .u8 c.toNat) (fun _ => rfl) _, ?_⟩
    simp only [Builtin.firstCells, Sem.run_pure]
    congr 1
    apply Array.ext'
    rw [Array.toList_map, ByteArray.data_extract, Array.toList_extract, List.extract_eq_take_drop]
    simp
  · cases h

theorem roomA_spec {m by_ old : Nat} (h : roomA m by_ = true) (ho : old < m) : ¬ Builtin.nextslicecap m old * by_ > 2 ^ 48 ∧ m < 4611686018427387904 := by
  unfold roomA at h
  rw [Bool.and_eq_true] at h
  have h1 := Nat.le_of_ble_eq_true h.1
  have h2 : m < 4611686018427387904 := by simpa using h.2
  have h3 := nextslicecap_le ho
  have h4 : Builtin.nextslicecap m old * by_ ≤ (2 * m + 768) * by_ := Nat.mul_le_mul_right _ (by omega)
  exact ⟨by omega, h2⟩

theorem readN_get {cs : T AV} : ∀ (k o : Nat) (l : List AV), readN cs o k = some l → l.length = k ∧ ∀ i a, l[i]? = some a → cs.get (o + i) = some a
  | 0, o, l, h => by simp only [readN] at h; injection h with h; subst h; exact ⟨rfl, by simp⟩
  | k + 1, o, l, h => by
    simp only [readN] at h
    split at h
    · rename_i a l' ha hl
      injection h with h; subst h
      obtain ⟨h1, h2⟩ := readN_get k (o + 1) l' hl
      refine ⟨by simp [h1], fun i b hb => ?_⟩
      cases i with
      | zero => simp at hb; subst hb; exact ha
      | succ i => have := h2 i b (by simpa using hb); rw [← this]; congr 1; omega
    · cases h

theorem readN_some {cs : T AV} : ∀ (k o : Nat) (l : List AV), readN cs o k = some l → ∀ i, i < k → ∃ a, cs.get (o + i) = some a ∧ l[i]? = some a
  | 0, _, _, _, i, hi => by omega
  | k + 1, o, l, h, i, hi => by
    simp only [readN] at h
    split at h
    · rename_i a l' ha hl
      injection h with h; subst h
      cases i with
      | zero => exact ⟨a, ha, rfl⟩
      | succ i =>
        obtain ⟨b, h1, h2⟩ := readN_some k (o + 1) l' hl i (by omega)
        exact ⟨b, by rw [← h1]; congr 1; omega, by simpa using h2⟩
    · cases h

/-- What a grown slice's block holds: what was there, and what was put behind it. -/
theorem growT_get {cs : T AV} {o k : Nat} {old new : List AV} (h : readN cs o k = some old) {i : Nat} {a : AV} (hi : i < k + new.length) (ha : (growT cs o k old new).get i = some a) :
    (old ++ new)[i]? = some a := by
  have hl := (readN_get _ _ _ h).1
  unfold growT at ha
  split at ha
  · rw [writeL_get] at ha
    by_cases hk : i < k
    · rw [if_neg (by omega)] at ha
      obtain ⟨b, h1, h2⟩ := readN_some _ _ _ h i hk
      rw [Nat.zero_add, ha] at h1; injection h1 with h1; subst h1
      rw [List.getElem?_append_left (by omega)]; exact h2
    · rw [if_pos (by omega)] at ha
      rw [List.getElem?_append_right (by omega), hl]; exact ha
  · rw [writeL_get] at ha
    rw [if_pos (by simp [hl]; omega), Nat.sub_zero] at ha
    exact ha

theorem Fresh.put {n : Nat} (hf : Fresh μ n) (p : Nat × Nat) (e : Nat) : Fresh (μ.put n p e) (n + 1) := fun β hβ => by
  rw [Mu.put_other _ _ _ (by omega)]; exact hf β (by omega)

/-- The slice that is appended to, and its block, leave under a new name that lies where they lay. -/
theorem HInv.rename {st : St} (k : HInv F w0 μ st.heap.get w) (hf : Fresh μ st.nxt) {β r base o n : Nat} {cs cs2 : T AV} (hb : st.heap.get β = some (.cells n cs)) (hm : μ β = some (r, base))
    {k2 : Nat} {c : Array Value} {e : TypeId} {lo hi : Nat} {w' : World} (hw : w'.heap[r]? = some (.cells c e (lo, hi))) (hfz : ∀ i, i < c.size → ¬ (lo ≤ i ∧ i < hi))
    (ho0 : o = 0) (hk : k2 ≤ μ.ext β - o) (ho : o ≤ μ.ext β) (hsz : base + μ.ext β ≤ c.size)
    (hc : ∀ i a, i < k2 → cs2.get i = some a → ∃ v, c[base + o + i]? = some v ∧ VR μ a v)
    (hoth : ∀ j, j ≠ r → w'.heap[j]? = w.heap[j]?) (hs : w'.heap.size = w.heap.size) (h1 : w'.os = w.os) (h2 : w'.tape = w.tape) (h3 : w'.output = w.output) :
    HInv F w0 (μ.put st.nxt (r, base + o) (μ.ext β - o)) ((st.heap.del β).set st.nxt (.cells k2 cs2)).get w' := by
  have hne : β ≠ st.nxt := fun e => by
    have := hf β (by omega)
    rw [hm] at this; cases this
  have hle : μ.le (μ.put st.nxt (r, base + o) (μ.ext β - o)) := Mu.le_put (hf _ (Nat.le_refl _))
  have get2 : ∀ γ, ((st.heap.del β).set st.nxt (.cells k2 cs2)).get γ = if γ = st.nxt then some (.cells k2 cs2) else if γ = β then none else st.heap.get γ := by
    intro γ
    rw [T.get_set, T.get_del]
  obtain ⟨r', base', o', q1, q2, q3, q4⟩ := k.blk β _ hb
  rw [hm] at q1; injection q1 with q1; simp only [Prod.mk.injEq] at q1
  have hnF : ¬ F r := by rw [q1.1]; exact q4
  have live : ∀ γ b, γ ≠ st.nxt → γ ≠ β → st.heap.get γ = some b → ∃ r2 base2 o2, μ γ = some (r2, base2) ∧ w'.heap[r2]? = some o2 ∧ BR μ b o2 base2 (μ.ext γ) ∧ b.own F r2 ∧ r2 ≠ r := by
    intro γ b _ g2 hγ
    obtain ⟨r2, base2, o2, e1, e2, e3, e4⟩ := k.blk γ b hγ
    have hr : r2 ≠ r := fun er => g2 (k.inj γ β r2 base2 base (by rw [hγ]; rfl) (by rw [hb]; rfl) e1 (by rw [er]; exact hm))
    exact ⟨r2, base2, o2, e1, by rw [hoth r2 hr]; exact e2, e3, e4, hr⟩
  refine ⟨?_, ?_, ?_, k.fsz, by rw [hs]; exact k.size, h1.trans k.os, h2.trans k.tape, h3.trans k.output⟩
  · intro γ b hγ
    rw [get2 γ] at hγ
    by_cases g1 : γ = st.nxt
    · subst g1
      rw [if_pos rfl] at hγ
      injection hγ with hγ; subst hγ
      refine ⟨r, base + o, _, Mu.put_at _ _ _ _, hw, ?_, hnF⟩
      rw [Mu.put_ext]
      refine ⟨c, e, lo, hi, rfl, ⟨hk, by omega, by rw [ho0, k.base0 hb hm]⟩, hfz, fun i a hi ha => ?_⟩
      obtain ⟨v, hv, hr⟩ := hc i a hi ha
      exact ⟨v, hv, VR_mono hle _ _ hr⟩
    · rw [if_neg g1] at hγ
      by_cases g2 : γ = β
      · rw [if_pos g2] at hγ; cases hγ
      · rw [if_neg g2] at hγ
        obtain ⟨r2, base2, o2, e1, e2, e3, e4, _⟩ := live γ b g1 g2 hγ
        exact ⟨r2, base2, o2, (hle _ _ e1).1, e2, by rw [(hle _ _ e1).2]; exact BR_mono hle e3, e4⟩
  · have far : ∀ γ rr bb, γ ≠ st.nxt → (((st.heap.del β).set st.nxt (.cells k2 cs2)).get γ).isSome → (μ.put st.nxt (r, base + o) (μ.ext β - o)) γ = some (rr, bb) → μ γ = some (rr, bb) ∧ rr ≠ r ∧ (st.heap.get γ).isSome := by
      intro γ rr bb g1 hs1 hμ
      rw [Mu.put_other _ _ _ g1] at hμ
      rw [get2 γ, if_neg g1] at hs1
      by_cases g2 : γ = β
      · rw [if_pos g2] at hs1; cases hs1
      · rw [if_neg g2] at hs1
        obtain ⟨b, hγ⟩ := Option.isSome_iff_exists.1 hs1
        obtain ⟨r2, base2, o2, e1, e2, e3, e4, e5⟩ := live γ b g1 g2 hγ
        rw [hμ] at e1; injection e1 with e1; simp only [Prod.mk.injEq] at e1
        exact ⟨hμ, by rw [e1.1]; exact e5, hs1⟩
    intro γ δ rr b1 b2 e1 e2 hγ hδ
    by_cases g1 : γ = st.nxt <;> by_cases g2 : δ = st.nxt
    · rw [g1, g2]
    · exfalso
      rw [g1, Mu.put_at] at hγ
      injection hγ with hγ; simp only [Prod.mk.injEq] at hγ
      exact (far δ rr b2 g2 e2 hδ).2.1 hγ.1.symm
    · exfalso
      rw [g2, Mu.put_at] at hδ
      injection hδ with hδ; simp only [Prod.mk.injEq] at hδ
      exact (far γ rr b1 g1 e1 hγ).2.1 hδ.1.symm
    · obtain ⟨a1, _, a3⟩ := far γ rr b1 g1 e1 hγ
      obtain ⟨c1, _, c3⟩ := far δ rr b2 g2 e2 hδ
      exact k.inj γ δ rr b1 b2 a3 c3 a1 c1
  · intro j hj
    rw [hoth j (fun e => hnF (e ▸ hj))]; exact k.frame j hj
end Go.Xec
