/- Regions that draw their order: whatever the order, what one run in the order of the text says holds. -/
import Derived.Test.YtkmabheddbbndaaDoorXl
namespace Go.Xec
variable {P : Program} {F : Nat → Prop} {w0 : World}

theorem oper_exists {o : Oper} {a : Act} {w : World} {K : Act → World → Prop} (h : o.wp P a w K (fun _ _ _ => False)) : ∃ a' w', K a' w' := by
  unfold Oper.wp at h
  generalize (execOp a.eval o).run P w = r at h
  cases r with
  | ok x w' =>
    cases x with
    | value v => exact ⟨_, _, h⟩
    | skip => exact ⟨_, _, h⟩
    | defer d => exact ⟨_, _, h⟩
    | enter f args =>
      obtain ⟨e, w'', fr, hR, _⟩ := h []
      cases e with
      | returned v => exact ⟨_, _, hR⟩
      | panicked c => exact hR.elim
      | outgrown => obtain ⟨_, _, q⟩ := hR; exact q.elim
    | row row args =>
      obtain ⟨v, w'', hR, _⟩ := h default []
      exact ⟨_, _, hR⟩
    | _ => exact h.elim
  | halt x w' => cases x <;> exact h.elim

def effW (P : Program) (e : Ent) : Bool := e.wanted && isEff (kindOf P e.o.op)
def allocW (P : Program) (e : Ent) : Bool := e.wanted && isAlloc (kindOf P e.o.op)

/-- The state ahead of the q-th operation of the text. -/
def stAt (tr : List Ent) (stEnd : St) (q : Nat) : St := match tr[q]? with
  | some e => e.pre
  | none => stEnd

/-- How many operations there are ahead of the first one that turns memory and is not in S. -/
def cutS (P : Program) (S : Nat → Bool) : Nat → List Ent → Nat
  | _, [] => 0
  | i, e :: l => if effW P e = true ∧ S i = false then 0 else cutS P S (i + 1) l + 1

theorem cutS_le (S : Nat → Bool) : ∀ (l : List Ent) (i : Nat), cutS P S i l ≤ l.length
  | [], _ => Nat.le_refl _
  | e :: l, i => by
    simp only [cutS, List.length_cons]
    split
    · omega
    · have := cutS_le S l (i + 1); omega

theorem cutS_before (S : Nat → Bool) : ∀ (l : List Ent) (i k : Nat) (e : Ent), k < cutS P S i l → l[k]? = some e → effW P e = true → S (i + k) = true
  | [], _, _, _, h, _, _ => by simp [cutS] at h
  | x :: l, i, k, e, h, he, hw => by
    simp only [cutS] at h
    split at h
    · omega
    · rename_i hn
      cases k with
      | zero =>
        simp at he; subst he
        rw [Nat.add_zero]
        cases hS : S i with
        | true => rfl
        | false => exact absurd ⟨hw, hS⟩ hn
      | succ k =>
        have := cutS_before S l (i + 1) k e (by omega) (by simpa using he) hw
        rwa [show i + (k + 1) = i + 1 + k by omega]

theorem cutS_at (S : Nat → Bool) : ∀ (l : List Ent) (i : Nat), cutS P S i l < l.length → ∃ e, l[cutS P S i l]? = some e ∧ effW P e = true ∧ S (i + cutS P S i l) = false
  | [], _, h => by simp [cutS] at h
  | x :: l, i, h => by
    simp only [cutS] at h ⊢
    split
    · rename_i hn
      exact ⟨x, rfl, hn.1, by simpa using hn.2⟩
    · rename_i hn
      rw [if_neg hn] at h
      obtain ⟨e, h1, h2, h3⟩ := cutS_at S l (i + 1) (by simp at h; omega)
      exact ⟨e, by simpa using h1, h2, by rwa [show i + (cutS P S (i + 1) l + 1) = i + 1 + cutS P S (i + 1) l by omega]⟩

theorem cutS_congr (S S2 : Nat → Bool) : ∀ (l : List Ent) (i : Nat), (∀ k e, l[k]? = some e → effW P e = true → S (i + k) = S2 (i + k)) → cutS P S i l = cutS P S2 i l
  | [], _, _ => rfl
  | x :: l, i, h => by
    simp only [cutS]
    have ih := cutS_congr S S2 l (i + 1) (fun k e he hw => by have := h (k + 1) e (by simpa using he) hw; rwa [show i + 1 + k = i + (k + 1) by omega])
    rw [ih]
    by_cases hw : effW P x = true
    · have := h 0 x rfl hw
      rw [Nat.add_zero] at this
      rw [this]
    · simp [hw]

section
variable {call : Callee} {n : Nat} {ops : Array Oper} {base : Nat}

/-- One run in the order of the text can be had in the model. -/
theorem Trace.real (hcall : CalleeOk P F w0 call) {N : Nat} {i : Nat} {fr fr' : Fr} {st st' : St} {l : List Oper} {tr : List Ent} (h : Trace P call n ops base i fr st l tr fr' st') :
    ∀ (μ : Mu) (a : Act) (w : World), TR μ fr a.tmps → a.tmps.size = n → HInv F w0 μ st.heap.get w → Fresh μ st.nxt → base + N ≤ st.nxt → (∀ k, i ≤ k → k < N → μ (base + k) = none) → i + l.length ≤ N →
      (∀ (j : Nat) (e : Ent), tr[j]? = some e → (∀ k, i + j ≤ k → k < N → e.pre.heap.get (base + k) = none) ∧ base + N ≤ e.pre.nxt) ∧ base + N ≤ st'.nxt := by
  induction h with
  | nil => intro μ a w _ _ _ _ h5 _ _; exact ⟨fun j e h => by simp at h, h5⟩
  | @run i fr fr1 fr' st st1 st' o l tr vs v h1 h2 h3 h4 h5 ih =>
    intro μ a w k1 k2 k3 k4 k5 k6 k7
    simp only [List.length_cons] at k7
    have dom : ∀ k, i ≤ k → k < N → st.heap.get (base + k) = none := by
      intro k hk hN
      cases hg : st.heap.get (base + k) with
      | none => rfl
      | some b =>
        obtain ⟨r, bb, o', e1, _⟩ := k3.blk _ b hg
        rw [k6 k hk hN] at e1; cases e1
    have hv := evalAll_sim (μ := μ) (ρ' := a.eval) _ _ (fun x _ b hb => aeval_sim k1 hb) h2
    obtain ⟨a', w', v', μ', q1, q2, q3, q4, q5, q6, q7⟩ := oper_exists (step_wp (K := fun a' w' => ∃ v' μ', a' = a.put o.dst v' ∧ VR μ' v v' ∧ μ.le μ' ∧ st.nxt ≤ st1.nxt ∧ (∀ β, β < st.nxt → β ≠ base + i → μ' β = μ β) ∧ HInv F w0 μ' st1.heap.get w' ∧ Fresh μ' st1.nxt)
      (Q := fun _ _ _ => False) hcall h3 hv k3 k4 (k6 i (Nat.le_refl _) (by omega)) (by omega)
      (fun v' μ' w' g1 g2 g3 g4 g5 g6 => ⟨v', μ', rfl, g1, g2, g3, g4, g5, g6⟩))
    obtain ⟨r1, r2⟩ := ih μ' a' w' (by rw [q1]; exact (k1.mono q3).put k2 h4 q2) (by rw [q1, Act.size_put]; exact k2) q6 q7 (by omega) (fun k hk hN => by
      rw [q5 (base + k) (by omega) (by omega)]; exact k6 k (by omega) hN) (by omega)
    refine ⟨fun j e he => ?_, r2⟩
    cases j with
    | zero => simp at he; subst he; exact ⟨fun k hk hN => dom k (by omega) hN, k5⟩
    | succ j =>
      have := r1 j e (by simpa using he)
      rwa [show i + (j + 1) = i + 1 + j by omega]
  | @skip i fr fr1 fr' st st' o l tr h1 h4 h5 ih =>
    intro μ a w k1 k2 k3 k4 k5 k6 k7
    simp only [List.length_cons] at k7
    have dom : ∀ k, i ≤ k → k < N → st.heap.get (base + k) = none := by
      intro k hk hN
      cases hg : st.heap.get (base + k) with
      | none => rfl
      | some b =>
        obtain ⟨r, bb, o', e1, _⟩ := k3.blk _ b hg
        rw [k6 k hk hN] at e1; cases e1
    obtain ⟨r1, r2⟩ := ih μ (a.put o.dst undef) w (k1.put k2 h4 VR_undef) (by rw [Act.size_put]; exact k2) k3 k4 k5 (fun k hk hN => k6 k (by omega) hN) (by omega)
    refine ⟨fun j e he => ?_, r2⟩
    cases j with
    | zero => simp at he; subst he; exact ⟨fun k hk hN => dom k (by omega) hN, k5⟩
    | succ j =>
      have := r1 j e (by simpa using he)
      rwa [show i + (j + 1) = i + 1 + j by omega]
end

/-- All that is known of a region and of its run in the order of the text. -/
structure Region1 (P : Program) (call : Callee) (n : Nat) (ops : Array Oper) (base : Nat) (fr0 : Fr) (st0 : St) (tr : List Ent) (frE : Fr) (stE : St) : Prop where
  stat : Stat P ops
  trace : Trace P call n ops base 0 fr0 st0 ops.toList tr frE stE
  dyn : ∀ (i j : Nat) (a b : Ent), i < j → tr[i]? = some a → tr[j]? = some b → dynPair P (masks ops.toList []) i j a b = true
  dom : ∀ (j : Nat) (e : Ent), tr[j]? = some e → ∀ k, j ≤ k → k < ops.size → e.pre.heap.get (base + k) = none
  nxt : ∀ (j : Nat) (e : Ent), tr[j]? = some e → base + ops.size ≤ e.pre.nxt
  nxtE : base + ops.size ≤ stE.nxt

section
variable {call : Callee} {n : Nat} {ops : Array Oper} {base : Nat} {fr0 frE : Fr} {st0 stE : St} {tr : List Ent}

theorem Region1.len (R : Region1 P call n ops base fr0 st0 tr frE stE) : tr.length = ops.size := by
  rw [R.trace.length, Array.length_toList]

theorem Region1.op (R : Region1 P call n ops base fr0 st0 tr frE stE) {j : Nat} {e : Ent} (h : tr[j]? = some e) : ops[j]? = some e.o := by
  have := R.trace.oper j e h
  simpa using this

theorem Region1.ent (R : Region1 P call n ops base fr0 st0 tr frE stE) {j : Nat} (h : j < ops.size) : ∃ e, tr[j]? = some e :=
  ⟨tr[j]'(by rw [R.len]; exact h), List.getElem?_eq_getElem _⟩

theorem Region1.lt (R : Region1 P call n ops base fr0 st0 tr frE stE) {j : Nat} {e : Ent} (h : tr[j]? = some e) : j < ops.size := by
  have := (List.getElem?_eq_some_iff.1 h).1
  rwa [R.len] at this

theorem Region1.dist (R : Region1 P call n ops base fr0 st0 tr frE stE) (a b : Nat) (x y : Ent) (hab : a < b) (hx : tr[a]? = some x) (hy : tr[b]? = some y) : ∀ t, x.o.dst = some t → y.o.dst ≠ some t := by
  intro t h1 h2
  have := (R.stat.pair a b x.o y.o hab (R.op hx) (R.op hy)).2
  unfold dstB at this
  rw [h1, h2] at this
  simp at this

/-- Of two operations of which one must be ahead, the one ahead in the text is. -/
theorem Region1.order (R : Region1 P call n ops base fr0 st0 tr frE stE) {a b : Nat} {x y : Ent} (hab : a < b) (hx : tr[a]? = some x) (hy : tr[b]? = some y)
    (hm : mustOrder (kindOf P x.o.op) (kindOf P y.o.op) = true) : ahead (masks ops.toList []) a b = true := by
  have := (R.stat.pair a b x.o y.o hab (R.op hx) (R.op hy)).1
  unfold pairB at this
  rw [hm] at this
  simpa using this

theorem Region1.stAt_next (R : Region1 P call n ops base fr0 st0 tr frE stE) {j : Nat} {e : Ent} (h : tr[j]? = some e) : stAt tr stE j = e.pre ∧ stAt tr stE (j + 1) = e.post := by
  refine ⟨by simp [stAt, h], ?_⟩
  obtain ⟨_, c2, c3, _⟩ := R.trace.chain
  unfold stAt
  cases h2 : tr[j + 1]? with
  | some e' => exact (c2 j e e' h h2).symm
  | none =>
    have hl := R.lt h
    have : ¬ j + 1 < tr.length := fun hlt => by rw [List.getElem?_eq_getElem hlt] at h2; cases h2
    rw [R.len] at this
    exact (c3 j e (by rw [R.len]; omega) h).symm

/-- An operation that turns nothing that was there. -/
theorem Region1.quiet (R : Region1 P call n ops base fr0 st0 tr frE stE) {j : Nat} {e : Ent} (h : tr[j]? = some e) (hw : effW P e = false) :
    (allocW P e = false ∧ e.post = e.pre) ∨ (allocW P e = true ∧ ∃ b, allocA P (base + j) e.o.op e.vs = some (e.v, b) ∧ e.post = ⟨e.pre.heap.set (base + j) b, e.pre.nxt⟩) := by
  obtain ⟨h1, _, h2, h3⟩ := R.trace.entry j e h
  rw [Nat.zero_add] at h2
  cases hwt : e.wanted with
  | false => exact .inl ⟨by simp [allocW, hwt], (h3 hwt).2⟩
  | true =>
    obtain ⟨_, hs⟩ := h2 hwt
    unfold stepA at hs
    simp only [effW, hwt, Bool.true_and] at hw
    simp only [allocW, hwt, Bool.true_and]
    split at hs
    · rename_i hk
      split at hs
      · injection hs with hs; simp only [Prod.mk.injEq] at hs
        exact .inl ⟨by rw [hk]; rfl, hs.2.symm⟩
      · cases hs
    · rename_i hk
      split at hs
      · injection hs with hs; simp only [Prod.mk.injEq] at hs
        exact .inl ⟨by rw [hk]; rfl, hs.2.symm⟩
      · cases hs
    · rename_i hk
      split at hs
      · rename_i v b hb
        injection hs with hs; simp only [Prod.mk.injEq] at hs
        exact .inr ⟨by rw [hk]; rfl, b, by rw [hb, hs.1], hs.2.symm⟩
      · cases hs
    · rename_i hk; rw [hk] at hw; cases hw
    · rename_i hk; rw [hk] at hw; cases hw

theorem Region1.stAt_dom (R : Region1 P call n ops base fr0 st0 tr frE stE) {j : Nat} (k : Nat) (hk : j ≤ k) (hN : k < ops.size) : (stAt tr stE j).heap.get (base + k) = none := by
  obtain ⟨e, he⟩ := R.ent (j := j) (by omega)
  rw [(R.stAt_next he).1]
  exact R.dom j e he k hk hN

theorem Region1.stAt_nxt (R : Region1 P call n ops base fr0 st0 tr frE stE) (j : Nat) : base + ops.size ≤ (stAt tr stE j).nxt := by
  unfold stAt
  split
  · rename_i e he; exact R.nxt j e he
  · exact R.nxtE

/-- Between two places with nothing that turns memory between them. -/
theorem Region1.span (R : Region1 P call n ops base fr0 st0 tr frE stE) (j : Nat) : ∀ (d : Nat), j + d ≤ ops.size → (∀ k e, j ≤ k → k < j + d → tr[k]? = some e → effW P e = false) →
    (∀ β b, (stAt tr stE j).heap.get β = some b → (stAt tr stE (j + d)).heap.get β = some b) ∧
    (∀ β, (∀ k e, j ≤ k → k < j + d → tr[k]? = some e → allocW P e = true → β ≠ base + k) → (stAt tr stE (j + d)).heap.get β = (stAt tr stE j).heap.get β) ∧
    (stAt tr stE (j + d)).nxt = (stAt tr stE j).nxt
  | 0, _, _ => ⟨fun _ _ h => h, fun _ _ => rfl, rfl⟩
  | d + 1, hle, hq => by
    obtain ⟨i1, i2, i3⟩ := Region1.span R j d (by omega) (fun k e h1 h2 => hq k e h1 (by omega))
    obtain ⟨e, he⟩ := R.ent (j := j + d) (by omega)
    obtain ⟨s1, s2⟩ := R.stAt_next he
    have hd := R.stAt_dom (j := j + d) (j + d) (Nat.le_refl _) (by omega)
    rcases R.quiet he (hq _ e (by omega) (by omega) he) with ⟨ha, hp⟩ | ⟨ha, b, _, hp⟩
    · have e1 : stAt tr stE (j + (d + 1)) = stAt tr stE (j + d) := by rw [← Nat.add_assoc, s2, hp, s1]
      rw [e1]
      exact ⟨i1, fun β hβ => i2 β (fun k e h1 h2 => hβ k e h1 (by omega)), i3⟩
    · have e1 : stAt tr stE (j + (d + 1)) = ⟨(stAt tr stE (j + d)).heap.set (base + (j + d)) b, (stAt tr stE (j + d)).nxt⟩ := by rw [← Nat.add_assoc, s2, hp, s1]
      rw [e1]
      refine ⟨fun β c hc => ?_, fun β hβ => ?_, i3⟩
      · have := i1 β c hc
        show ((stAt tr stE (j + d)).heap.set (base + (j + d)) b).get β = some c
        rw [T.get_set, if_neg (fun q => by subst q; rw [hd] at this; cases this)]
        exact this
      · show ((stAt tr stE (j + d)).heap.set (base + (j + d)) b).get β = _
        rw [T.get_set, if_neg (hβ (j + d) e (by omega) (by omega) he ha)]
        exact i2 β (fun k e h1 h2 => hβ k e h1 (by omega))

theorem Region1.span' (R : Region1 P call n ops base fr0 st0 tr frE stE) {j q : Nat} (hjq : j ≤ q) (hle : q ≤ ops.size) (hq : ∀ k e, j ≤ k → k < q → tr[k]? = some e → effW P e = false) :
    (∀ β b, (stAt tr stE j).heap.get β = some b → (stAt tr stE q).heap.get β = some b) ∧
    (∀ β, (∀ k e, j ≤ k → k < q → tr[k]? = some e → allocW P e = true → β ≠ base + k) → (stAt tr stE q).heap.get β = (stAt tr stE j).heap.get β) ∧
    (stAt tr stE q).nxt = (stAt tr stE j).nxt := by
  have := R.span j (q - j) (by omega) (fun k e h1 h2 => hq k e h1 (by omega))
  have e1 : j + (q - j) = q := by omega
  rw [e1] at this
  exact this

open Classical in
/-- The heap behind the operations in S: that of the text's run ahead of the first operation that is missing and turns memory, without the blocks that are not made yet. -/
noncomputable def heapS (P : Program) (base : Nat) (tr : List Ent) (stE : St) (S : Nat → Bool) (β : Nat) : Option ABlk :=
  if ∃ k e, tr[k]? = some e ∧ allocW P e = true ∧ S k = false ∧ β = base + k then none else (stAt tr stE (cutS P S 0 tr)).heap.get β
end
end Go.Xec
