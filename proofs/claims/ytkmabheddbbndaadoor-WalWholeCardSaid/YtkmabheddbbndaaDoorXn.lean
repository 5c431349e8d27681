/- Regions that draw their order: the step from one set of operations to the next, and the whole. -/
import Derived.Test.YtkmabheddbbndaaDoorXm
namespace Go.Xec
variable {P : Program} {F : Nat → Prop} {w0 : World}
variable {call : Callee} {n : Nat} {ops : Array Oper} {base : Nat} {fr0 frE : Fr} {st0 stE : St} {tr : List Ent}

/-- What holds when the operations in S have been carried out. -/
structure InvS (P : Program) (F : Nat → Prop) (w0 : World) (n : Nat) (ops : Array Oper) (ds : List Deferred) (base : Nat) (fr0 : Fr) (tr : List Ent) (stE : St) (μ0 : Mu) (S : Nat → Bool) (μ : Mu) (a : Act) (w : World) : Prop where
  tmps : ∀ t x, look fr0 S 0 tr t = some x → ∃ v, a.tmps[t]? = some v ∧ VR μ x v
  size : a.tmps.size = n
  defers : a.defers = ds
  heap : HInv F w0 μ (heapS P base tr stE S) w
  fresh : Fresh μ (stAt tr stE (cutS P S 0 tr)).nxt
  names : ∀ k, k < ops.size → S k = false → μ (base + k) = none
  le : μ0.le μ
  old : ∀ β, β < base → μ β = μ0 β
  closed : ∀ j, S j = true → ∀ i, ahead (masks ops.toList []) i j = true → S i = true

def addS (S : Nat → Bool) (i : Nat) : Nat → Bool := fun k => S k || Nat.beq k i

theorem addS_self (S : Nat → Bool) (i : Nat) : addS S i i = true := by simp [addS]
theorem addS_ne (S : Nat → Bool) {i k : Nat} (h : k ≠ i) : addS S i k = S k := by simp [addS, h]

theorem look_looks (R : Region1 P call n ops base fr0 st0 tr frE stE) {S : Nat → Bool} {i : Nat} {e : Ent} (he : tr[i]? = some e) (hS : S i = false)
    (hb : ∀ j, ahead (masks ops.toList []) j i = true → S j = true) (hc : ∀ j, S j = true → ∀ i, ahead (masks ops.toList []) i j = true → S i = true) {t : Nat} (ht : t ∈ e.o.looksAt ops) :
    look fr0 S 0 tr t = e.fr.get t := by
  rw [(R.trace.frames R.dist t).1 i e he]
  refine look_congr rfl tr 0 fun j e' he' hd => ?_
  simp only [Nat.zero_add]
  by_cases hji : j = i
  · subst hji; rw [hS]; simp
  by_cases hlt : j < i
  · have hp := (R.stat.pair j i e'.o e.o hlt (R.op he') (R.op he)).1
    unfold pairB at hp
    rw [hd] at hp
    have hcn : (e.o.looksAt ops).contains t = true := by simpa using ht
    simp only [hcn, Bool.not_true, Bool.and_false, Bool.false_and, Bool.or_false] at hp
    rw [hb j hp]; simp [hlt]
  · have hgt : i < j := by omega
    have hp := (R.stat.pair i j e.o e'.o hgt (R.op he) (R.op he')).1
    unfold pairB at hp
    rw [hd] at hp
    have hcn : (e.o.looksAt ops).contains t = true := by simpa using ht
    simp only [hcn, Bool.not_true, Bool.and_false, Bool.or_false] at hp
    have hSj : S j = false := by
      cases h : S j with
      | false => rfl
      | true => rw [hc j h i hp] at hS; cases hS
    rw [hSj]; simp [hlt]

theorem look_add (R : Region1 P call n ops base fr0 st0 tr frE stE) {S : Nat → Bool} {i : Nat} {e : Ent} (he : tr[i]? = some e) (t : Nat) :
    look fr0 (addS S i) 0 tr t = if e.o.dst = some t then some e.v else look fr0 S 0 tr t := by
  by_cases hd : e.o.dst = some t
  · rw [if_pos hd]
    exact look_at tr 0 i e he hd (by rw [Nat.zero_add]; exact addS_self S i) (fun k e' hk he' hd' => R.dist k i e' e hk he' he t hd' hd)
  · rw [if_neg hd]
    refine look_congr rfl tr 0 fun j e' he' hd' => ?_
    rw [Nat.zero_add, addS_ne]
    intro hji; subst hji
    rw [he] at he'; injection he' with he'; subst he'
    exact hd hd'

theorem InvS.putTmps {ds : List Deferred} {μ0 μ μ' : Mu} {S : Nat → Bool} {a : Act} {w : World} (R : Region1 P call n ops base fr0 st0 tr frE stE) (k : InvS P F w0 n ops ds base fr0 tr stE μ0 S μ a w) {i : Nat} {e : Ent}
    (he : tr[i]? = some e) (hle : μ.le μ') {v' : Value} (hr : VR μ' e.v v') : ∀ t x, look fr0 (addS S i) 0 tr t = some x → ∃ v, (a.put e.o.dst v').tmps[t]? = some v ∧ VR μ' x v := by
  intro t x hx
  rw [look_add R he] at hx
  split at hx
  · rename_i hd
    injection hx with hx; subst hx
    have hlt : t < n := (R.trace.entry i e he).2.1 t hd
    refine ⟨v', ?_, hr⟩
    rw [hd]
    simp [Act.put, k.size, hlt]
  · rename_i hd
    obtain ⟨v, hv, hvr⟩ := k.tmps t x hx
    refine ⟨v, ?_, VR_mono hle _ _ hvr⟩
    cases hdd : e.o.dst with
    | none => exact hv
    | some d =>
      have hne : d ≠ t := fun q => hd (by rw [hdd, q])
      simp only [Act.put]
      rw [Array.getElem?_setIfInBounds_ne hne]; exact hv

theorem closed_add {ms : List Nat} {S : Nat → Bool} {i : Nat} (hb : ∀ j, ahead ms j i = true → S j = true) (hc : ∀ j, S j = true → ∀ i, ahead ms i j = true → S i = true) :
    ∀ j, addS S i j = true → ∀ k, ahead ms k j = true → addS S i k = true := by
  intro j hj k hk
  by_cases hji : j = i
  · subst hji
    have := hb k hk
    simp [addS, this]
  · rw [addS_ne S hji] at hj
    have := hc j hj k hk
    simp [addS, this]

theorem stepA_next {ds : List Deferred} {μ0 μ : Mu} {S : Nat → Bool} {a : Act} {w : World} {Q : Exit → Act → World → Prop} (hcall : CalleeOk P F w0 call) (R : Region1 P call n ops base fr0 st0 tr frE stE)
    (k : InvS P F w0 n ops ds base fr0 tr stE μ0 S μ a w) {i : Nat} (hi : i < ops.size) (hS : S i = false) (hb : ∀ j, ahead (masks ops.toList []) j i = true → S j = true) :
    wpOp P ops Q i (fun a' w' => ∃ μ', InvS P F w0 n ops ds base fr0 tr stE μ0 (addS S i) μ' a' w') a w := by
  obtain ⟨e, he⟩ := R.ent hi
  have hop := R.op he
  have hclosed := closed_add hb k.closed
  have notAfter : ∀ j, ahead (masks ops.toList []) i j = true → S j = false := fun j hj => by
    cases h : S j with
    | false => rfl
    | true => rw [k.closed j h i hj] at hS; cases hS
  obtain ⟨w1, _, w3, w4⟩ := R.trace.entry i e he
  rw [Nat.zero_add] at w3
  have hlooks : ∀ t, t ∈ e.o.looksAt ops → look fr0 S 0 tr t = e.fr.get t := fun t ht => look_looks R he hS hb k.closed ht
  unfold wpOp
  rw [hop]
  simp only
  -- is it wanted?
  have hwanted : Region.wanted e.o (yielded ops a.tmps) = e.wanted := by
    have h1 := w1
    unfold wantedA at h1
    unfold Region.wanted
    split at h1
    · rename_i hg
      injection h1 with h1
      simp only [hg, ← h1]
    · rename_i g want hg
      simp only [hg]
      split at h1
      · rename_i hd
        injection h1 with h1
        simp only [yielded, hd, Option.bind_none, ← h1]
        rfl
      · rename_i d hd
        have hin : d ∈ e.o.looksAt ops := by
          unfold Oper.looksAt
          rw [hg]
          refine List.mem_append_right _ ?_
          simp [hd]
        have hl := hlooks d hin
        split at h1
        · rename_i x hx
          injection h1 with h1
          rw [hx] at hl
          obtain ⟨v, hv, hr⟩ := k.tmps d _ hl
          have hr' : v = .bool x := hr
          subst hr'
          simp only [yielded, hd, Option.bind_some, hv, ← h1]
          cases x <;> cases want <;> rfl
        · rename_i l hx
          injection h1 with h1
          rw [hx] at hl
          obtain ⟨v, hv, cs', rfl, _⟩ := k.tmps d _ hl
          simp only [yielded, hd, Option.bind_some, hv, ← h1]
          rfl
        · cases h1
  have namesAdd : ∀ {μ' : Mu}, (∀ β, β < base + ops.size → β ≠ base + i → μ' β = μ β) → ∀ j, j < ops.size → addS S i j = false → μ' (base + j) = none := by
    intro μ' h j hj hs
    have hne : j ≠ i := fun q => by subst q; rw [addS_self] at hs; cases hs
    rw [addS_ne S hne] at hs
    rw [h _ (by omega) (by omega)]
    exact k.names j hj hs
  -- the heap does not turn where the operation is not one that turns it, nor makes a block
  have heapSame : effW P e = false → allocW P e = false → heapS P base tr stE (addS S i) = heapS P base tr stE S ∧ cutS P (addS S i) 0 tr = cutS P S 0 tr := by
    intro h1 h2
    have hcut : cutS P (addS S i) 0 tr = cutS P S 0 tr := by
      refine cutS_congr _ _ tr 0 fun j e' he' hw' => ?_
      rw [Nat.zero_add, addS_ne]
      intro q; subst q
      rw [he] at he'; injection he' with he'; subst he'
      rw [h1] at hw'; cases hw'
    refine ⟨?_, hcut⟩
    funext β
    unfold heapS
    rw [hcut]
    have : (∃ k e, tr[k]? = some e ∧ allocW P e = true ∧ addS S i k = false ∧ β = base + k) ↔ (∃ k e, tr[k]? = some e ∧ allocW P e = true ∧ S k = false ∧ β = base + k) := by
      constructor
      · rintro ⟨j, e', q1, q2, q3, q4⟩
        have hne : j ≠ i := fun q => by subst q; rw [addS_self] at q3; cases q3
        rw [addS_ne S hne] at q3
        exact ⟨j, e', q1, q2, q3, q4⟩
      · rintro ⟨j, e', q1, q2, q3, q4⟩
        have hne : j ≠ i := fun q => by
          subst q
          rw [he] at q1; injection q1 with q1; subst q1
          rw [h2] at q2; cases q2
        exact ⟨j, e', q1, q2, by rw [addS_ne S hne]; exact q3, q4⟩
    by_cases hp : (∃ k e, tr[k]? = some e ∧ allocW P e = true ∧ S k = false ∧ β = base + k)
    · rw [if_pos hp, if_pos (this.2 hp)]
    · rw [if_neg hp, if_neg (fun q => hp (this.1 q))]
  have quietDone : ∀ v', effW P e = false → allocW P e = false → VR μ e.v v' → ∃ μ', InvS P F w0 n ops ds base fr0 tr stE μ0 (addS S i) μ' (a.put e.o.dst v') w := by
    intro v' h1 h2 hr
    obtain ⟨q1, q2⟩ := heapSame h1 h2
    exact ⟨μ, k.putTmps R he (Mu.le_refl _) hr, by rw [Act.size_put]; exact k.size, by rw [Act.defers_put]; exact k.defers, by rw [q1]; exact k.heap, by rw [q2]; exact k.fresh,
      namesAdd (fun _ _ _ => rfl), k.le, k.old, hclosed⟩
  rw [hwanted]
  cases hwt : e.wanted with
  | false =>
    rw [if_neg (by simp)]
    obtain ⟨hv, _⟩ := w4 hwt
    exact quietDone undef (by simp [effW, hwt]) (by simp [allocW, hwt]) (by rw [hv]; exact VR_undef)
  | true =>
    rw [if_pos rfl]
    left
    obtain ⟨hvs, hst⟩ := w3 hwt
    -- the operands
    have hargs : VRs μ e.vs (e.o.op.operands.toList.map a.eval) := by
      refine evalAll_sim (μ := μ) (ρ' := a.eval) _ _ ?_ hvs
      intro x hx b hb'
      cases x with
      | tmp t =>
        have hin : t ∈ e.o.looksAt ops := by
          unfold Oper.looksAt
          refine List.mem_append_left _ ?_
          rw [List.mem_filterMap]
          exact ⟨.tmp t, hx, rfl⟩
        have hb'' : e.fr.get t = some b := hb'
        rw [← hlooks t hin] at hb''
        obtain ⟨v, hv, hr⟩ := k.tmps t b hb''
        have : a.eval (.tmp t) = v := by simp [Act.eval, hv]
        rw [this]; exact hr
      | const v => exact absV_sound _ _ _ hb'
      | global g => cases hb'
      | func f =>
        have h' : some (AV.fn (.func f) [] []) = some b := hb'
        injection h' with h'; subst h'
        exact ⟨#[], #[], rfl, VRs_nil.2 rfl, VRs_nil.2 rfl⟩
    have cutLe := cutS_le (P := P) S tr 0
    rw [R.len] at cutLe
    -- allocations ahead in the text of what must come behind them are made
    have allocMade : ∀ {j : Nat} {e' : Ent}, tr[j]? = some e' → allocW P e' = true → j < i → mustOrder (kindOf P e'.o.op) (kindOf P e.o.op) = true → S j = true :=
      fun h1 _ h3 h4 => hb _ (R.order h3 h1 he h4)
    have effStep : isEff (kindOf P e.o.op) = true → e.o.wp P a w (fun a' w' => ∃ μ', InvS P F w0 n ops ds base fr0 tr stE μ0 (addS S i) μ' a' w') Q := by
      intro hk
      have hew : effW P e = true := by simp [effW, hwt, hk]
      obtain ⟨sp, sq⟩ := R.stAt_next he
      have hcut : cutS P S 0 tr = i := by
        apply Nat.le_antisymm
        · apply Nat.le_of_not_lt
          intro hlt
          have := cutS_before (P := P) S tr 0 i e hlt he hew
          rw [Nat.zero_add, hS] at this; cases this
        · apply Nat.le_of_not_lt
          intro hlt
          obtain ⟨ec, q1, q2, q3⟩ := cutS_at (P := P) S tr 0 (by rw [R.len]; omega)
          rw [Nat.zero_add] at q3
          have := hb _ (R.order hlt q1 he (by
            unfold effW at q2; rw [Bool.and_eq_true] at q2
            simp [mustOrder, q2.2, hk]))
          rw [this] at q3; cases q3
      have hh : heapS P base tr stE S = e.pre.heap.get := by
        funext β
        unfold heapS
        rw [hcut, sp]
        split
        · rename_i hpend
          obtain ⟨p, e', q1, q2, q3, rfl⟩ := hpend
          by_cases hpi : p < i
          · rw [allocMade q1 q2 hpi (by
              unfold allocW at q2; rw [Bool.and_eq_true] at q2
              simp [mustOrder, q2.2, hk])] at q3
            cases q3
          · exact (R.dom i e he p (by omega) (R.lt q1)).symm
        · rfl
      have hinv : HInv F w0 μ e.pre.heap.get w := by rw [← hh]; exact k.heap
      have hfr : Fresh μ e.pre.nxt := by
        have := k.fresh
        rwa [hcut, sp] at this
      have hnx := R.nxt i e he
      refine step_wp hcall hst hargs hinv hfr (k.names i hi hS) (by omega) ?_
      intro v' μ' w' g1 g2 g3 g4 g5 g6
      have cutLe2 := cutS_le (P := P) (addS S i) tr 0
      rw [R.len] at cutLe2
      have hgt : i + 1 ≤ cutS P (addS S i) 0 tr := by
        apply Nat.lt_of_not_le
        intro hle
        obtain ⟨ec, q1, q2, q3⟩ := cutS_at (P := P) (addS S i) tr 0 (by rw [R.len]; omega)
        rw [Nat.zero_add] at q3
        by_cases heq : cutS P (addS S i) 0 tr = i
        · rw [heq, addS_self] at q3; cases q3
        · rw [addS_ne S heq] at q3
          have := hb _ (R.order (by omega) q1 he (by
            unfold effW at q2; rw [Bool.and_eq_true] at q2
            simp [mustOrder, q2.2, hk]))
          rw [this] at q3; cases q3
      have hspan := R.span' hgt cutLe2 (fun p e' h1 h2 h3 => by
        cases h : effW P e' with
        | false => rfl
        | true =>
          have q2 := cutS_before (P := P) (addS S i) tr 0 p e' h2 h3 h
          rw [Nat.zero_add, addS_ne S (by omega)] at q2
          have := notAfter p (R.order (by omega) he h3 (by
            unfold effW at h; rw [Bool.and_eq_true] at h
            simp [mustOrder, h.2, hk]))
          rw [this] at q2; cases q2)
      have hh2 : heapS P base tr stE (addS S i) = e.post.heap.get := by
        funext β
        unfold heapS
        split
        · rename_i hpend
          obtain ⟨p, e', q1, q2, q3, rfl⟩ := hpend
          have hpi : p ≠ i := fun q => by subst q; rw [addS_self] at q3; cases q3
          rw [addS_ne S hpi] at q3
          by_cases hlt : p < i
          · rw [allocMade q1 q2 hlt (by
              unfold allocW at q2; rw [Bool.and_eq_true] at q2
              simp [mustOrder, q2.2, hk])] at q3
            cases q3
          · rw [← sq]
            have hpl := R.lt q1
            exact (R.stAt_dom p (by omega) hpl).symm
        · rename_i hpend
          rw [hspan.2.1 β, sq]
          intro p e' h1 h2 h3 h4 hβ
          refine hpend ⟨p, e', h3, h4, ?_, hβ⟩
          rw [addS_ne S (by omega)]
          exact notAfter p (R.order (by omega) he h3 (by
            unfold allocW at h4; rw [Bool.and_eq_true] at h4
            simp [mustOrder, h4.2, hk]))
      refine ⟨μ', k.putTmps R he g2 g1, by rw [Act.size_put]; exact k.size, by rw [Act.defers_put]; exact k.defers, by rw [hh2]; exact g5, ?_, ?_, Mu.le_trans k.le g2, ?_, hclosed⟩
      · rw [hspan.2.2, sq]; exact g6
      · exact namesAdd (fun β hβ hne => g4 β (by omega) hne)
      · intro β hβ
        rw [g4 β (by omega) (by omega)]
        exact k.old β hβ
    cases hkd : kindOf P e.o.op with
    | pure =>
      have hs := hst
      unfold stepA at hs
      rw [hkd] at hs
      simp only at hs
      split at hs
      case h_2 => cases hs
      rename_i r hp
      injection hs with hs; simp only [Prod.mk.injEq] at hs
      obtain ⟨z, hz, hr⟩ := pure_sim (w := w) hp hargs
      unfold Oper.wp
      rw [hz]
      exact quietDone z (by simp [effW, hkd, isEff]) (by simp [allocW, hkd, isAlloc]) (by rw [← hs.1]; exact hr)
    | read =>
      have hs := hst
      unfold stepA at hs
      rw [hkd] at hs
      simp only at hs
      split at hs
      case h_2 => cases hs
      rename_i r hp
      injection hs with hs; simp only [Prod.mk.injEq] at hs
      obtain ⟨hs1, hs2⟩ := hs
      subst hs1
      -- a state that is part of what is there, and at which the look gives the same
      have key : ∃ stR : St, readA P stR e.o.op e.vs = some e.v ∧ ∀ β b, stR.heap.get β = some b → heapS P base tr stE S β = some b := by
        -- in what lies ahead of place j nothing is that is not made, if all allocations ahead of it are made
        have into : ∀ (j : Nat), j ≤ ops.size → (∀ p e', p < j → tr[p]? = some e' → allocW P e' = true → S p = true) → ∀ β b, (stAt tr stE j).heap.get β = some b →
            ¬ ∃ p e', tr[p]? = some e' ∧ allocW P e' = true ∧ S p = false ∧ β = base + p := by
          rintro j hj hall β b hβ ⟨p, e', q1, q2, q3, rfl⟩
          by_cases hpj : p < j
          · rw [hall p e' hpj q1 q2] at q3; cases q3
          · have hp := R.lt q1
            by_cases hj2 : j < ops.size
            · rw [R.stAt_dom p (by omega) hp] at hβ; cases hβ
            · omega
        by_cases hB : cutS P S 0 tr < i
        · -- something ahead of it in the text, that turns memory, is not done yet
          obtain ⟨eb, b1, b2, b3⟩ := cutS_at (P := P) S tr 0 (by rw [R.len]; omega)
          rw [Nat.zero_add] at b3
          have hd := R.dyn _ i eb e hB b1 he
          have hna : ahead (masks ops.toList []) (cutS P S 0 tr) i = false := by
            cases h : ahead (masks ops.toList []) (cutS P S 0 tr) i with
            | false => rfl
            | true => rw [hb _ h] at b3; cases b3
          have hwb : eb.wanted = true := by
            unfold effW at b2; rw [Bool.and_eq_true] at b2; exact b2.1
          have hkb : isEff (kindOf P eb.o.op) = true := by
            unfold effW at b2; rw [Bool.and_eq_true] at b2; exact b2.2
          have hrs : readSame P eb.pre e = true := by
            unfold dynPair at hd
            rw [hwb, hwt, hna, hkd] at hd
            simp only [Bool.and_self, isRead] at hd
            cases hk2 : kindOf P eb.o.op <;> rw [hk2] at hkb hd <;> simp [isEff] at hkb <;> exact hd
          unfold readSame at hrs
          split at hrs
          case h_2 => cases hrs
          rename_i v hv
          have hveq := AV.eq_of_beq _ _ hrs
          refine ⟨eb.pre, by rw [hv, hveq], fun β b hβ => ?_⟩
          have hpre := (R.stAt_next b1).1
          unfold heapS
          rw [if_neg, hpre]
          · exact hβ
          · refine into (cutS P S 0 tr) cutLe (fun p e' hp h1 h2 => allocMade h1 h2 (by omega) ?_) β b (by rw [hpre]; exact hβ)
            rw [hkd]
            unfold allocW at h2; rw [Bool.and_eq_true] at h2
            simp [mustOrder, h2.2, isRead]
        · by_cases hC : ∃ j e', i < j ∧ tr[j]? = some e' ∧ effW P e' = true ∧ S j = true
          · -- something behind it in the text, that turns memory, is done: the last such
            have hlast : ∃ j e', i < j ∧ tr[j]? = some e' ∧ effW P e' = true ∧ S j = true ∧ ∀ j' e'', j < j' → tr[j']? = some e'' → effW P e'' = true → S j' = false := by
              obtain ⟨j0, e0, c1, c2, c3, c4⟩ := hC
              have : ∀ d j e', ops.size - j ≤ d → i < j → tr[j]? = some e' → effW P e' = true → S j = true →
                  ∃ j e', i < j ∧ tr[j]? = some e' ∧ effW P e' = true ∧ S j = true ∧ ∀ j' e'', j < j' → tr[j']? = some e'' → effW P e'' = true → S j' = false := by
                intro d
                induction d with
                | zero => intro j e' hd _ h2; have := R.lt h2; omega
                | succ d ih =>
                  intro j e' hd h1 h2 h3 h4
                  by_cases hmore : ∃ j' e'', j < j' ∧ tr[j']? = some e'' ∧ effW P e'' = true ∧ S j' = true
                  · obtain ⟨j', e'', m1, m2, m3, m4⟩ := hmore
                    exact ih j' e'' (by have := R.lt h2; omega) (by omega) m2 m3 m4
                  · refine ⟨j, e', h1, h2, h3, h4, fun j' e'' m1 m2 m3 => ?_⟩
                    cases hm : S j' with
                    | false => rfl
                    | true => exact absurd ⟨j', e'', m1, m2, m3, hm⟩ hmore
              exact this _ j0 e0 (Nat.le_refl _) c1 c2 c3 c4
            obtain ⟨j, ej, c1, c2, c3, c4, c5⟩ := hlast
            have hna : ahead (masks ops.toList []) i j = false := by
              cases h : ahead (masks ops.toList []) i j with
              | false => rfl
              | true => rw [notAfter j h] at c4; cases c4
            have hwj : ej.wanted = true ∧ isEff (kindOf P ej.o.op) = true := by
              unfold effW at c3; rw [Bool.and_eq_true] at c3; exact c3
            have hd := R.dyn i j e ej c1 he c2
            have hrs : readSame P ej.post e = true := by
              unfold dynPair at hd
              rw [hwt, hwj.1, hna, hkd] at hd
              simp only [Bool.and_self] at hd
              rw [hwj.2] at hd
              exact hd
            unfold readSame at hrs
            split at hrs
            case h_2 => cases hrs
            rename_i v hv
            have hveq := AV.eq_of_beq _ _ hrs
            obtain ⟨sp, sq⟩ := R.stAt_next c2
            have hjl := R.lt c2
            have effOrder : ∀ p e', p < j → tr[p]? = some e' → effW P e' = true → S p = true := by
              intro p e' hp h1 h2
              refine k.closed j c4 p (R.order hp h1 c2 ?_)
              unfold effW at h2; rw [Bool.and_eq_true] at h2
              simp [mustOrder, h2.2, hwj.2]
            have hcut : j + 1 ≤ cutS P S 0 tr := by
              apply Nat.lt_of_not_le
              intro hle
              obtain ⟨ec, q1, q2, q3⟩ := cutS_at (P := P) S tr 0 (by rw [R.len]; omega)
              rw [Nat.zero_add] at q3
              by_cases hlt : cutS P S 0 tr < j
              · rw [effOrder _ ec hlt q1 q2] at q3; cases q3
              · have : cutS P S 0 tr = j := by omega
                rw [this, c4] at q3; cases q3
            have hspan := R.span' hcut cutLe (fun p e' h1 h2 h3 => by
              cases h : effW P e' with
              | false => rfl
              | true =>
                have g1 := c5 p e' (by omega) h3 h
                have g2 := cutS_before (P := P) S tr 0 p e' h2 h3 h
                rw [Nat.zero_add, g1] at g2; cases g2)
            refine ⟨ej.post, by rw [hv, hveq], fun β b hβ => ?_⟩
            rw [← sq] at hβ
            unfold heapS
            rw [if_neg]
            · exact hspan.1 β b hβ
            · refine into (j + 1) (by omega) (fun p e' hp h1 h2 => ?_) β b hβ
              have hpj : p ≠ j := fun q => by
                subst q
                rw [c2] at h1; injection h1 with h1; subst h1
                unfold allocW at h2; rw [Bool.and_eq_true] at h2
                have h3 := hwj.2
                have h4 := h2.2
                cases hk2 : kindOf P ej.o.op <;> rw [hk2] at h3 h4 <;> simp [isEff, isAlloc] at h3 h4
              refine k.closed j c4 p (R.order (by omega) h1 c2 ?_)
              unfold allocW at h2; rw [Bool.and_eq_true] at h2
              simp [mustOrder, h2.2, hwj.2]
          · -- all that turns memory ahead of it is done, nothing of that behind it
            obtain ⟨sp, sq⟩ := R.stAt_next he
            have hspan := R.span' (j := i) (q := cutS P S 0 tr) (by omega) cutLe (fun p e' h1 h2 h3 => by
              cases h : effW P e' with
              | false => rfl
              | true =>
                have g2 := cutS_before (P := P) S tr 0 p e' h2 h3 h
                rw [Nat.zero_add] at g2
                by_cases hpi : p = i
                · subst hpi; rw [hS] at g2; cases g2
                · exact absurd ⟨p, e', by omega, h3, h, g2⟩ hC)
            refine ⟨e.pre, hp, fun β b hβ => ?_⟩
            rw [← sp] at hβ
            unfold heapS
            rw [if_neg]
            · exact hspan.1 β b hβ
            · refine into i (by omega) (fun p e' hp' h1 h2 => allocMade h1 h2 hp' ?_) β b hβ
              rw [hkd]
              unfold allocW at h2; rw [Bool.and_eq_true] at h2
              simp [mustOrder, h2.2, isRead]
      obtain ⟨stR, hR1, hR2⟩ := key
      obtain ⟨z, hz, hr⟩ := readA_sim hR2 k.heap hR1 hargs
      unfold Oper.wp
      rw [hz]
      exact quietDone z (by simp [effW, hkd, isEff]) (by simp [allocW, hkd, isAlloc]) hr
    | alloc =>
      have haw : allocW P e = true := by simp [allocW, hwt, hkd, isAlloc]
      have hew : effW P e = false := by simp [effW, hkd, isEff]
      rcases R.quiet he hew with ⟨q, _⟩ | ⟨_, b, hal, hpost⟩
      · rw [haw] at q; cases q
      have hnm := k.names i hi hS
      obtain ⟨z, o', ex, hz, hr, hbr⟩ := allocA_sim (w := w) hal hargs hnm
      unfold Oper.wp
      rw [hz]
      have hcut : cutS P (addS S i) 0 tr = cutS P S 0 tr := by
        refine cutS_congr _ _ tr 0 fun j e' he' hw' => ?_
        rw [Nat.zero_add, addS_ne]
        intro q; subst q
        rw [he] at he'; injection he' with he'; subst he'
        rw [hew] at hw'; cases hw'
      -- the place in the text where memory is turned next lies behind it
      have hlt : i < cutS P S 0 tr := by
        apply Nat.lt_of_not_le
        intro hle
        obtain ⟨ec, q1, q2, q3⟩ := cutS_at (P := P) S tr 0 (by rw [R.len]; omega)
        rw [Nat.zero_add] at q3
        have hne : cutS P S 0 tr ≠ i := fun q => by
          rw [q, he] at q1; injection q1 with q1; subst q1
          rw [hew] at q2; cases q2
        have := hb _ (R.order (by omega) q1 he (by
          unfold effW at q2; rw [Bool.and_eq_true] at q2
          simp [mustOrder, q2.2, hkd, isAlloc]))
        rw [this] at q3; cases q3
      have hspan := R.span' (j := i + 1) (q := cutS P S 0 tr) (by omega) cutLe (fun p e' h1 h2 h3 => by
        cases h : effW P e' with
        | false => rfl
        | true =>
          have g2 := cutS_before (P := P) S tr 0 p e' h2 h3 h
          rw [Nat.zero_add] at g2
          have := notAfter p (R.order (by omega) he h3 (by
            unfold effW at h; rw [Bool.and_eq_true] at h
            simp [mustOrder, h.2, hkd, isAlloc]))
          rw [this] at g2; cases g2)
      have hblk : (stAt tr stE (cutS P S 0 tr)).heap.get (base + i) = some b := by
        refine hspan.1 _ _ ?_
        rw [(R.stAt_next he).2, hpost]
        show (e.pre.heap.set (base + i) b).get (base + i) = some b
        rw [T.get_set, if_pos rfl]
      have hheap : heapS P base tr stE (addS S i) = fun β => if β = base + i then some b else heapS P base tr stE S β := by
        funext β
        unfold heapS
        rw [hcut]
        by_cases hβ : β = base + i
        · subst hβ
          rw [if_pos rfl, if_neg, hblk]
          rintro ⟨j, e', q1, q2, q3, q4⟩
          have : j = i := by omega
          subst this
          rw [addS_self] at q3; cases q3
        · rw [if_neg hβ]
          have : (∃ k e, tr[k]? = some e ∧ allocW P e = true ∧ addS S i k = false ∧ β = base + k) ↔ (∃ k e, tr[k]? = some e ∧ allocW P e = true ∧ S k = false ∧ β = base + k) := by
            constructor
            · rintro ⟨j, e', q1, q2, q3, q4⟩
              have hne : j ≠ i := fun q => by subst q; exact hβ q4
              rw [addS_ne S hne] at q3
              exact ⟨j, e', q1, q2, q3, q4⟩
            · rintro ⟨j, e', q1, q2, q3, q4⟩
              have hne : j ≠ i := fun q => by subst q; exact hβ q4
              exact ⟨j, e', q1, q2, by rw [addS_ne S hne]; exact q3, q4⟩
          by_cases hp : (∃ k e, tr[k]? = some e ∧ allocW P e = true ∧ S k = false ∧ β = base + k)
          · rw [if_pos hp, if_pos (this.2 hp)]
          · rw [if_neg hp, if_neg (fun q => hp (this.1 q))]
      have hle : μ.le (μ.put (base + i) (w.heap.size, 0) ex) := Mu.le_put hnm
      refine ⟨μ.put (base + i) (w.heap.size, 0) ex, k.putTmps R he hle hr, by rw [Act.size_put]; exact k.size, by rw [Act.defers_put]; exact k.defers, ?_, ?_, ?_, Mu.le_trans k.le hle, ?_, hclosed⟩
      · rw [hheap]
        exact k.heap.alloc hnm hbr (d := w.drawn)
      · rw [hcut]
        intro β hβ
        have := R.stAt_nxt (cutS P S 0 tr)
        rw [Mu.put_other _ _ _ (by omega)]
        exact k.fresh β hβ
      · exact namesAdd (fun β _ hne => Mu.put_other _ _ _ hne)
      · intro β hβ
        rw [Mu.put_other _ _ _ (by omega)]
        exact k.old β hβ
    | eff => exact effStep (by rw [hkd]; rfl)
    | call => exact effStep (by rw [hkd]; rfl)

theorem countP_lt {α : Type} (p q : α → Bool) : ∀ (l : List α), (∀ x ∈ l, q x = true → p x = true) → (∃ x ∈ l, p x = true ∧ q x = false) → l.countP q < l.countP p
  | [], _, ⟨x, hx, _⟩ => by simp at hx
  | y :: l, h, ⟨x, hx, h1, h2⟩ => by
    have hle : ∀ (l : List α), (∀ x ∈ l, q x = true → p x = true) → l.countP q ≤ l.countP p := by
      intro l
      induction l with
      | nil => intro _; exact Nat.le_refl _
      | cons z l ih =>
        intro hz
        have := ih (fun x hx => hz x (List.mem_cons_of_mem _ hx))
        rw [List.countP_cons, List.countP_cons]
        by_cases hq : q z = true
        · rw [if_pos hq, if_pos (hz z List.mem_cons_self hq)]; omega
        · rw [if_neg hq]; omega
    rw [List.countP_cons, List.countP_cons]
    rcases List.mem_cons.1 hx with rfl | hx
    · rw [if_neg (by rw [h2]; simp), if_pos h1]
      have := hle l (fun x hx => h x (List.mem_cons_of_mem _ hx)); omega
    · have := countP_lt p q l (fun x hx => h x (List.mem_cons_of_mem _ hx)) ⟨x, hx, h1, h2⟩
      by_cases hq : q y = true
      · rw [if_pos hq, if_pos (h y List.mem_cons_self hq)]; omega
      · rw [if_neg hq]; omega

theorem any_sound {ds : List Deferred} {μ0 : Mu} {Q : Exit → Act → World → Prop} (hcall : CalleeOk P F w0 call) (R : Region1 P call n ops base fr0 st0 tr frE stE)
    (hQ : ∀ μ a w, InvS P F w0 n ops ds base fr0 tr stE μ0 (fun _ => true) μ a w → Q .normal a w) :
    ∀ (fuel : Nat) (listed : Array Bool) (μ : Mu) (a : Act) (w : World), listed.size = ops.size → (List.range ops.size).countP (fun i => !listed.getD i true) ≤ fuel →
      InvS P F w0 n ops ds base fr0 tr stE μ0 (fun j => listed.getD j false) μ a w → wpAny P .any ops Q fuel listed a w := by
  have readySpec : ∀ (listed : Array Bool) (i : Nat), i ∈ Region.ready .any ops listed → i < ops.size ∧ listed.getD i true = false ∧ ∀ o, ops[i]? = some o → ∀ e ∈ o.after.toList, Region.binds .any e = true → listed.getD e.on false = true := by
    intro listed i hi
    unfold Region.ready at hi
    rw [List.mem_filter] at hi
    obtain ⟨h1, h2⟩ := hi
    rw [List.mem_range] at h1
    rw [Bool.and_eq_true] at h2
    refine ⟨h1, by simpa using h2.1, fun o ho e he hb => ?_⟩
    have h3 := h2.2
    rw [ho] at h3
    simp only [Option.map_some, Option.getD_some, Array.all_eq_true'] at h3
    have := h3 e (Array.mem_toList_iff.1 he)
    rw [hb] at this
    simpa using this
  have noneReady : ∀ (listed : Array Bool), listed.size = ops.size → Region.ready .any ops listed = [] → ∀ i, i < ops.size → listed.getD i false = true := by
    intro listed hsz hr i
    induction i using Nat.strongRecOn with
    | _ i ih =>
      intro hi
      cases h : listed.getD i false with
      | true => rfl
      | false =>
        exfalso
        have hmem : i ∈ Region.ready .any ops listed := by
          unfold Region.ready
          rw [List.mem_filter]
          refine ⟨List.mem_range.2 hi, ?_⟩
          rw [Bool.and_eq_true]
          refine ⟨?_, ?_⟩
          · have : listed.getD i true = false := by
              rw [Array.getD_eq_getD_getElem?] at h ⊢
              rw [Array.getElem?_eq_getElem (by omega)] at h ⊢
              exact h
            rw [this]; rfl
          · obtain ⟨o, ho⟩ : ∃ o, ops[i]? = some o := ⟨ops[i], Array.getElem?_eq_getElem hi⟩
            rw [ho]
            simp only [Option.map_some, Option.getD_some, Array.all_eq_true']
            intro e he
            cases hb : Region.binds .any e with
            | false => rfl
            | true =>
              have hone := R.stat.one i o ho
              unfold oneB at hone
              simp only [Bool.and_eq_true, List.all_eq_true] at hone
              have hlt := hone.1.1 e (Array.mem_toList_iff.2 he)
              rw [hb] at hlt
              have hlt' : e.on < i := by simpa using hlt
              have := ih e.on hlt' (by omega)
              simpa using this
        rw [hr] at hmem
        simp at hmem
  have finish : ∀ (listed : Array Bool) (μ : Mu) (a : Act) (w : World), listed.size = ops.size → Region.ready .any ops listed = [] →
      InvS P F w0 n ops ds base fr0 tr stE μ0 (fun j => listed.getD j false) μ a w → Q .normal a w := by
    intro listed μ a w hsz hr k
    have hall := noneReady listed hsz hr
    have hcut : cutS P (fun _ => true) 0 tr = cutS P (fun j => listed.getD j false) 0 tr := by
      refine cutS_congr _ _ tr 0 fun j e he _ => ?_
      have := R.lt he
      rw [Nat.zero_add, hall j this]
    have hheap : heapS P base tr stE (fun _ => true) = heapS P base tr stE (fun j => listed.getD j false) := by
      funext β
      unfold heapS
      rw [hcut]
      have h1 : ¬ ∃ k e, tr[k]? = some e ∧ allocW P e = true ∧ (fun _ : Nat => true) k = false ∧ β = base + k := by
        rintro ⟨_, _, _, _, q, _⟩; cases q
      have h2 : ¬ ∃ k e, tr[k]? = some e ∧ allocW P e = true ∧ (fun j => listed.getD j false) k = false ∧ β = base + k := by
        rintro ⟨j, e, q1, _, q, _⟩
        have := hall j (R.lt q1)
        simp only at q
        rw [this] at q; cases q
      rw [if_neg h1, if_neg h2]
    refine hQ μ a w ⟨fun t x hx => ?_, k.size, k.defers, by rw [hheap]; exact k.heap, by rw [hcut]; exact k.fresh, (fun _ _ q => by cases q), k.le, k.old, fun _ _ _ _ => rfl⟩
    refine k.tmps t x ?_
    rw [← hx]
    refine look_congr rfl tr 0 fun j e he _ => ?_
    have := R.lt he
    rw [Nat.zero_add, hall j this]
  intro fuel
  induction fuel with
  | zero =>
    intro listed μ a w hsz hcnt k
    have hr : Region.ready .any ops listed = [] := by
      cases h : Region.ready .any ops listed with
      | nil => rfl
      | cons i r =>
        exfalso
        obtain ⟨h1, h2, _⟩ := readySpec listed i (by rw [h]; exact List.mem_cons_self)
        have : 0 < (List.range ops.size).countP (fun i => !listed.getD i true) := by
          rw [List.countP_pos_iff]
          exact ⟨i, List.mem_range.2 h1, by rw [h2]; rfl⟩
        omega
    exact ⟨hr, finish listed μ a w hsz hr k⟩
  | succ fuel ih =>
    intro listed μ a w hsz hcnt k
    refine ⟨fun hr => finish listed μ a w hsz hr k, fun i hi => ?_⟩
    obtain ⟨h1, h2, h3⟩ := readySpec listed i hi
    obtain ⟨e, he⟩ := R.ent h1
    have hS : (fun j => listed.getD j false) i = false := by
      simp only
      rw [Array.getD_eq_getD_getElem?] at h2 ⊢
      rw [Array.getElem?_eq_getElem (by omega)] at h2 ⊢
      exact h2
    have hb : ∀ j, ahead (masks ops.toList []) j i = true → (fun j => listed.getD j false) j = true := by
      intro j hj
      obtain ⟨ed, q1, q2, q3⟩ := ahead_spec (R.op he) hj
      have hon := h3 _ (R.op he) ed q1 q2
      rcases q3 with rfl | q3
      · exact hon
      · exact k.closed _ hon j q3
    refine wpOp_mono ?_ (stepA_next hcall R k h1 hS hb)
    rintro a' w' ⟨μ', k'⟩
    have hadd : addS (fun j => listed.getD j false) i = fun j => (listed.setIfInBounds i true).getD j false := by
      funext j
      simp only [addS]
      rw [Array.getD_eq_getD_getElem?, Array.getD_eq_getD_getElem?]
      by_cases hji : j = i
      · subst hji
        rw [Array.getElem?_setIfInBounds_self_of_lt (by omega)]
        simp
      · rw [Array.getElem?_setIfInBounds_ne (fun q => hji q.symm)]
        simp [hji]
    rw [hadd] at k'
    refine ih (listed.setIfInBounds i true) μ' a' w' (by simpa using hsz) ?_ k'
    have hlt : (List.range ops.size).countP (fun j => !(listed.setIfInBounds i true).getD j true) < (List.range ops.size).countP (fun j => !listed.getD j true) := by
      refine countP_lt _ _ _ (fun j hj hq => ?_) ⟨i, List.mem_range.2 h1, by rw [h2]; rfl, ?_⟩
      · by_cases hji : j = i
        · subst hji; rw [h2]; rfl
        · rw [Array.getD_eq_getD_getElem?, Array.getElem?_setIfInBounds_ne (fun q => hji q.symm)] at hq
          rw [Array.getD_eq_getD_getElem?]; exact hq
      · rw [Array.getD_eq_getD_getElem?, Array.getElem?_setIfInBounds_self_of_lt (by omega)]
        rfl
    omega

/-- A region that draws its order. -/
theorem drawA_sound {ds : List Deferred} (hcall : CalleeOk P F w0 call) {fr fr' : Fr} {st st' : St} {μ : Mu} {a : Act} {w : World} {Q : Exit → Act → World → Prop} {id : Nat}
    (hm : P.follows .mixedOrders = true) (h : drawA P call n ops fr st = some (fr', st')) (k : Sit F w0 n ds μ fr st a w)
    (hQ : ∀ μ' a' w', Sit F w0 n ds μ' fr' st' a' w' → Grew μ st.nxt μ' st'.nxt → Q .normal a' w') : (Code.region id ops true).wp P Q a w := by
  unfold drawA at h
  split at h
  case h_2 => cases h
  rename_i hstat
  split at h
  case h_2 => cases h
  rename_i tr fr1 st1 htr
  split at h
  case h_2 => cases h
  rename_i hdyn
  injection h with h; simp only [Prod.mk.injEq] at h; obtain ⟨e1, e2⟩ := h; subst e1; subst e2
  have T := traceA_trace _ _ _ _ _ _ _ htr
  have hfresh : Fresh μ (st.nxt + ops.size) := fun β hβ => k.fresh β (by omega)
  obtain ⟨r1, r2⟩ := T.real hcall (N := ops.size) μ a w k.tmps k.size k.inv hfresh (Nat.le_refl _) (fun j _ _ => k.fresh _ (by omega)) (by simp)
  have R : Region1 P call n ops st.nxt fr ⟨st.heap, st.nxt + ops.size⟩ tr fr1 st1 :=
    ⟨statB_spec hstat, T, fun i j x y hij hx hy => by
      have := dynGo_spec _ 0 hdyn j y hy i x (by omega) hx
      rwa [Nat.zero_add] at this,
     fun j e he => by have := (r1 j e he).1; rwa [Nat.zero_add] at this, fun j e he => (r1 j e he).2, r2⟩
  have hstart : stAt tr st1 0 = ⟨st.heap, st.nxt + ops.size⟩ := by
    obtain ⟨c1, _, _, c4⟩ := T.chain
    unfold stAt
    cases htr0 : tr[0]? with
    | some e => exact c1 e htr0
    | none => exact c4 (by cases tr with
      | nil => rfl
      | cons x l => simp at htr0)
  have cutLe := cutS_le (P := P) (fun _ => false) tr 0
  rw [R.len] at cutLe
  have hspan := R.span' (j := 0) (q := cutS P (fun _ => false) 0 tr) (Nat.zero_le _) cutLe (fun p e _ h2 h3 => by
    cases hh : effW P e with
    | false => rfl
    | true => have := cutS_before (P := P) (fun _ => false) tr 0 p e h2 h3 hh; cases this)
  have hheap0 : heapS P st.nxt tr st1 (fun _ => false) = st.heap.get := by
    funext β
    unfold heapS
    split
    · rename_i hpend
      obtain ⟨p, e, q1, q2, q3, rfl⟩ := hpend
      cases hg : st.heap.get (st.nxt + p) with
      | none => rfl
      | some b =>
        obtain ⟨r, bb, o', z1, _⟩ := k.inv.blk _ b hg
        rw [k.fresh _ (by omega)] at z1; cases z1
    · rename_i hpend
      rw [hspan.2.1 β (fun p e _ _ h3 h4 hβ => hpend ⟨p, e, h3, h4, rfl, hβ⟩), hstart]
  refine wp_region_any hm (any_sound hcall R (ds := ds) (μ0 := μ) ?_ _ _ μ a _ (by simp) ?_ ?_)
  · intro μ' a' w' k'
    have cutAll : cutS P (fun _ => true) 0 tr = ops.size := by
      apply Nat.le_antisymm
      · have := cutS_le (P := P) (fun _ => true) tr 0; rwa [R.len] at this
      · apply Nat.le_of_not_lt
        intro hlt
        obtain ⟨_, _, _, q⟩ := cutS_at (P := P) (fun _ => true) tr 0 (by rw [R.len]; exact hlt)
        cases q
    have hend : stAt tr st1 ops.size = st1 := by
      unfold stAt
      rw [List.getElem?_eq_none (by rw [R.len]; omega)]
    have hheap : heapS P st.nxt tr st1 (fun _ => true) = st1.heap.get := by
      funext β
      unfold heapS
      rw [cutAll, hend, if_neg]
      rintro ⟨_, _, _, _, q, _⟩; cases q
    refine hQ μ' a' w' ⟨fun t x hx => k'.tmps t x ?_, k'.size, k'.defers, by rw [← hheap]; exact k'.heap, by have := k'.fresh; rwa [cutAll, hend] at this⟩ ⟨k'.le, by omega, k'.old⟩
    rw [← (R.trace.frames R.dist t).2]; exact hx
  · exact Nat.le_trans (List.countP_le_length) (by simp)
  · have hfalse : (fun j => (Array.replicate ops.size false).getD j false) = fun _ => false := by
      funext j
      rw [Array.getD_eq_getD_getElem?]
      by_cases hj : j < ops.size
      · rw [Array.getElem?_eq_getElem (by simpa using hj)]; simp
      · rw [Array.getElem?_eq_none (by simpa using hj)]; rfl
    rw [hfalse]
    refine ⟨fun t x hx => ?_, k.size, k.defers, by rw [hheap0]; exact k.inv.drawn _, ?_, fun j _ _ => k.fresh _ (by omega), Mu.le_refl _, fun _ _ => rfl, fun _ q => by cases q⟩
    · rw [look_none tr 0 (fun _ _ _ _ => rfl)] at hx
      exact k.tmps t x hx
    · rw [hspan.2.2, hstart]; exact hfresh
end Go.Xec
