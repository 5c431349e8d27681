/- One operation, and operations one behind the other: what the abstract executor says holds in the model. -/
import Derived.Test.YtkmabheddbbndaaDoorXj
namespace Go.Xec
variable {P : Program} {μ : Mu} {w : World} {F : Nat → Prop} {w0 : World}

def Enters (P : Program) (f : FuncId) : Prop := ∃ fn, P.funcs[f]? = some fn ∧ fn.body.isNone = false ∧ (fn.name == "runtime.NumGoroutine") = false

theorem run_callFunc {f : FuncId} (h : Enters P f) (args : Array Value) (w : World) : (callFunc f args).run P w = .ok (.enter f args) w := by
  obtain ⟨fn, h1, h2, h3⟩ := h
  simp only [callFunc, Sem.run_bind, run_program, Result.andThen_ok, h1, h3, Bool.false_eq_true, if_false, h2, Sem.run_pure]

theorem VRs_concat {a b c : List AV} {x y z : Array Value} (h1 : VRs μ a x.toList) (h2 : VRs μ b y.toList) (h3 : VRs μ c z.toList) : VRs μ (a ++ b ++ c) (x ++ y ++ z).toList := by
  rw [Array.toList_append, Array.toList_append]
  exact VRs_append (VRs_append h1 h2) h3

theorem targetA_sim {o : Oper} {vs args : List AV} {f : FuncId} {ρ : Operand → Value} (h : targetA P o.op vs = some (f, args)) (hv : VRs μ vs (o.op.operands.toList.map ρ))
    : ∃ args', (execOp ρ o).run P w = (callFunc f args').run P w ∧ VRs μ args args'.toList := by
  obtain ⟨dst, op, ty, pos, after, guard⟩ := o
  cases op <;> simp only [targetA] at h <;> first
    | (cases h; done)
    | skip
  case call c =>
    obtain ⟨callee, as, ts⟩ := c
    cases callee with
    | builtin b => simp only at h; cases h
    | value g =>
      simp only at h
      split at h
      case h_2 => cases h
      rename_i gf first captured rest
      injection h with h; simp only [Prod.mk.injEq] at h; obtain ⟨e1, e2⟩ := h; subst e1; subst e2
      have hargs : (Op.call { callee := Callee.value g, args := as, argTypes := ts }).operands.toList.map ρ = ρ g :: (as.map ρ).toList := by simp [Op.operands, Call.operands]
      simp only at hv
      rw [hargs] at hv
      obtain ⟨⟨a', c', e, h1, h2⟩, h3⟩ := VRs_cons_cons.1 hv
      refine ⟨a' ++ as.map ρ ++ c', ?_, VRs_concat h1 h3 h2⟩
      simp only [execOp, resolve, e, Deferred.ofValue, Sem.run_bind, Sem.run_pure, Result.andThen_ok, invoke]
    | invoke g name =>
      simp only at h
      split at h
      case h_2 => cases h
      rename_i t va rest
      split at h
      case h_2 => cases h
      rename_i i hi
      split at h
      case h_2 => cases h
      rename_i m hm
      have hargs : (Op.call { callee := Callee.invoke g name, args := as, argTypes := ts }).operands.toList.map ρ = ρ g :: (as.map ρ).toList := by simp [Op.operands, Call.operands]
      simp only at hv
      rw [hargs] at hv
      obtain ⟨⟨x', e, h1⟩, h3⟩ := VRs_cons_cons.1 hv
      have key : ∀ (pr : Bool) (d : TypeDesc), m.path.isEmpty = true → m.func = some (f, pr) → P.underlying t = some d →
          ((d matches .pointer _) = pr) → VRs μ args (x' :: (as.map ρ).toList) →
          ∃ args', (execOp ρ { dst := dst, op := .call { callee := .invoke g name, args := as, argTypes := ts }, type := ty, pos := pos, after := after, guard := guard }).run P w = (callFunc f args').run P w ∧ VRs μ args args'.toList := by
        intro pr d hp hfn hu hd hva
        refine ⟨#[x'] ++ as.map ρ, ?_, by rw [Array.toList_append]; exact hva⟩
        have hpath : m.path.toList = [] := by simpa using hp
        have hmeth : (method (P.types.size + Made.depth) t x' name).run P w = .ok (f, x') w := by
          obtain ⟨n, hn⟩ : ∃ n, P.types.size + Made.depth = n + 1 := ⟨P.types.size + 99, rfl⟩
          rw [hn]
          simp only [method, Sem.run_bind, run_typeInfo hi, Result.andThen_ok, hm, hpath, follow, Sem.run_pure, hfn, receiverAt, run_underlying hu]
          cases pr
          · cases d <;> first
              | (simp at hd; done)
              | (simp only [Place.get, Sem.run_pure, Result.andThen_ok])
          · cases d <;> first
              | (simp at hd; done)
              | (simp only [Place.get, Sem.run_pure, Result.andThen_ok])
        have h0 : (#[ρ g] ++ as.map ρ)[0]? = some (.iface t x') := by rw [Array.getElem?_append_left (by simp), ← e]; rfl
        have h1' : (#[ρ g] ++ as.map ρ).extract 1 (#[ρ g] ++ as.map ρ).size = as.map ρ := by
          apply Array.ext'
          simp [Array.toList_extract, List.extract_eq_take_drop]
          exact List.take_of_length_le (by simp)
        simp only [execOp, resolve, Sem.run_bind, Sem.run_pure, Result.andThen_ok, invoke, h0, h1', callMethod, run_program, hmeth]
      split at h
      · rename_i gf e' hp hfn hu
        injection h with h; simp only [Prod.mk.injEq] at h; obtain ⟨e1, e2⟩ := h; subst e1; subst e2
        exact key true _ hp hfn hu rfl (VRs_cons_cons.2 ⟨h1, h3⟩)
      · rename_i gf e' hp hfn hu
        injection h with h; simp only [Prod.mk.injEq] at h; obtain ⟨e1, e2⟩ := h; subst e1; subst e2
        exact key false _ hp hfn hu rfl (VRs_cons_cons.2 ⟨h1, h3⟩)
      · rename_i gf e' hp hfn hu
        injection h with h; simp only [Prod.mk.injEq] at h; obtain ⟨e1, e2⟩ := h; subst e1; subst e2
        exact key false _ hp hfn hu rfl (VRs_cons_cons.2 ⟨h1, h3⟩)
      · cases h

/-- A callee with a body does in the model what the executor says. -/
def BodyOk (P : Program) (F : Nat → Prop) (w0 : World) (f : FuncId) (args : List AV) (st : St) (r : AV) (st' : St) : Prop :=
  Enters P f ∧ ∀ μ w args', HInv F w0 μ st.heap.get w → Fresh μ st.nxt → VRs μ args args'.toList →
    Calls P f args' w fun e w' => ∃ v μ', e = .returned v ∧ VR μ' r v ∧ Went F w0 μ st.nxt μ' st' w'

/-- A callee without a body gives a value, and leaves the world. -/
def ValOk (P : Program) (f : FuncId) (args : List AV) (st : St) (r : AV) (st' : St) : Prop :=
  st' = st ∧ ∀ (μ : Mu) (args' : Array Value), VRs μ args args'.toList → ∃ v, VR μ r v ∧ ∀ w, (callFunc f args').run P w = .ok (.value v) w

/-- A callee does in the model what the executor says. -/
def CalleeOk (P : Program) (F : Nat → Prop) (w0 : World) (call : Callee) : Prop :=
  ∀ f args st r st', call f args st = some (r, st') → BodyOk P F w0 f args st r st' ∨ ValOk P f args st r st'

/-- One operation. -/
theorem step_wp {call : Callee} (hcall : CalleeOk P F w0 call) {nm : Nat} {st st' : St} {o : Oper} {vs : List AV} {v : AV} {a : Act} {K : Act → World → Prop} {Q : Exit → Act → World → Prop}
    (h : stepA P call nm st o.op vs = some (v, st')) (hv : VRs μ vs (o.op.operands.toList.map a.eval)) (k : HInv F w0 μ st.heap.get w) (hf : Fresh μ st.nxt) (hn : μ nm = none) (hlt : nm < st.nxt)
    (hK : ∀ v' μ' w', VR μ' v v' → μ.le μ' → st.nxt ≤ st'.nxt → (∀ β, β < st.nxt → β ≠ nm → μ' β = μ β) → HInv F w0 μ' st'.heap.get w' → Fresh μ' st'.nxt → K (a.put o.dst v') w') :
    o.wp P a w K Q := by
  unfold stepA at h
  split at h
  · split at h
    · rename_i hkd r hp
      injection h with h; simp only [Prod.mk.injEq] at h; obtain ⟨e1, e2⟩ := h; subst e1; subst e2
      obtain ⟨z, hz, hr⟩ := pure_sim (w := w) hp hv
      unfold Oper.wp
      rw [hz]
      exact hK z μ w hr (Mu.le_refl _) (Nat.le_refl _) (fun _ _ _ => rfl) k hf
    · cases h
  · split at h
    · rename_i hkd r hp
      injection h with h; simp only [Prod.mk.injEq] at h; obtain ⟨e1, e2⟩ := h; subst e1; subst e2
      obtain ⟨z, hz, hr⟩ := readA_sim (fun _ _ q => q) k hp hv
      unfold Oper.wp
      rw [hz]
      exact hK z μ w hr (Mu.le_refl _) (Nat.le_refl _) (fun _ _ _ => rfl) k hf
    · cases h
  · split at h
    · rename_i hkd r b hp
      injection h with h; simp only [Prod.mk.injEq] at h; obtain ⟨e1, e2⟩ := h; subst e1; subst e2
      obtain ⟨z, o', ex, hz, hr, hb⟩ := allocA_sim (w := w) hp hv hn
      unfold Oper.wp
      rw [hz]
      refine hK z (μ.put nm (w.heap.size, 0) ex) _ hr (Mu.le_put hn) (Nat.le_refl _) (fun β _ hne => Mu.put_other _ _ _ hne) ?_ ?_
      · have := k.alloc hn hb (d := w.drawn)
        show HInv F w0 _ (st.heap.set nm b).get _
        rw [get_set_fun]; exact this
      · intro β hβ
        rw [Mu.put_other _ _ _ (by have : st.nxt ≤ β := hβ; omega)]
        exact hf β hβ
    · cases h
  · obtain ⟨n, z, w', μ', h1, h2, h3, h4⟩ := effA_sim k hf h hv
    unfold Oper.wp
    rw [h1]
    have := hK z μ' w' h3 h4.le h4.up (fun β hβ _ => h4.old β hβ) h4.inv h4.fresh
    rcases h2 with rfl | ⟨rfl, rfl⟩
    · exact this
    · exact this
  · split at h
    · rename_i hkd f args ht
      obtain ⟨args', h1, h2⟩ := targetA_sim (w := w) ht hv
      unfold Oper.wp
      rw [h1]
      rcases hcall f args st v st' h with ⟨hent, hc⟩ | ⟨rfl, hc⟩
      · rw [run_callFunc hent]
        refine Calls.mono (hc μ w args' k hf h2) ?_
        rintro e w' ⟨v', μ', rfl, hr, hw⟩
        exact hK v' μ' w' hr hw.le hw.up (fun β hβ _ => hw.old β hβ) hw.inv hw.fresh
      · obtain ⟨z, hr, hz⟩ := hc μ args' h2
        rw [hz w]
        exact hK z μ w hr (Mu.le_refl _) (Nat.le_refl _) (fun _ _ _ => rfl) k hf
    · cases h

/-- Temporaries: what the executor knows of them holds. -/
def TR (μ : Mu) (fr : Fr) (tmps : Array Value) : Prop := ∀ t a, fr.get t = some a → ∃ v, tmps[t]? = some v ∧ VR μ a v

theorem TR.mono {μ μ' : Mu} (h : μ.le μ') {fr : Fr} {tmps : Array Value} (k : TR μ fr tmps) : TR μ' fr tmps :=
  fun t a ha => let ⟨v, hv, hr⟩ := k t a ha; ⟨v, hv, VR_mono h _ _ hr⟩

theorem aeval_sim {fr : Fr} {act : Act} (k : TR μ fr act.tmps) {x : Operand} {a : AV} (h : aeval fr x = some a) : VR μ a (act.eval x) := by
  cases x with
  | tmp t =>
    obtain ⟨v, hv, hr⟩ := k t a h
    have : act.eval (.tmp t) = v := by simp [Act.eval, hv]
    rw [this]; exact hr
  | const v => exact absV_sound _ _ _ h
  | global g => cases h
  | func f =>
    have h' : some (AV.fn (.func f) [] []) = some a := h
    injection h' with h'; subst h'
    exact ⟨#[], #[], rfl, VRs_nil.2 rfl, VRs_nil.2 rfl⟩

theorem evalAll_sim {ρ : Operand → Option AV} {ρ' : Operand → Value} : ∀ (l : List Operand) (vs : List AV), (∀ x ∈ l, ∀ a, ρ x = some a → VR μ a (ρ' x)) → evalAll ρ l = some vs → VRs μ vs (l.map ρ')
  | [], vs, _, h => by simp only [evalAll] at h; injection h with h; subst h; exact VRs_nil.2 rfl
  | x :: l, vs, hρ, h => by
    simp only [evalAll] at h
    split at h
    · rename_i a vs' ha hvs
      injection h with h; subst h
      exact VRs_cons_cons.2 ⟨hρ x List.mem_cons_self a ha, evalAll_sim l vs' (fun y hy => hρ y (List.mem_cons_of_mem _ hy)) hvs⟩
    · cases h

theorem putA_spec {n : Nat} {fr fr' : Fr} {dst : Option Tmp} {v : AV} (h : putA n fr dst v = some fr') :
    (dst = none ∧ fr' = fr) ∨ ∃ d, dst = some d ∧ d < n ∧ fr' = fr.set d v := by
  unfold putA at h
  split at h
  · injection h with h; exact .inl ⟨rfl, h.symm⟩
  · rename_i d
    split at h
    · rename_i hd
      injection h with h
      exact .inr ⟨d, rfl, by simpa using hd, h.symm⟩
    · cases h

theorem Act.size_put (a : Act) (dst : Option Tmp) (v : Value) : (a.put dst v).tmps.size = a.tmps.size := by
  cases dst <;> simp [Act.put]

theorem Act.defers_put (a : Act) (dst : Option Tmp) (v : Value) : (a.put dst v).defers = a.defers := by
  cases dst <;> rfl

theorem TR.put {fr fr' : Fr} {act : Act} {n : Nat} (k : TR μ fr act.tmps) (hn : act.tmps.size = n) {dst : Option Tmp} {v : AV} {v' : Value} (h : putA n fr dst v = some fr') (hr : VR μ v v') :
    TR μ fr' (act.put dst v').tmps := by
  rcases putA_spec h with ⟨rfl, rfl⟩ | ⟨d, rfl, hd, rfl⟩
  · exact k
  · intro t a ha
    rw [T.get_set] at ha
    simp only [Act.put]
    by_cases ht : t = d
    · subst ht
      rw [if_pos rfl] at ha
      injection ha with ha; subst ha
      exact ⟨v', by simp [hn, hd], hr⟩
    · rw [if_neg ht] at ha
      obtain ⟨u, hu, hur⟩ := k t a ha
      exact ⟨u, by rw [Array.getElem?_setIfInBounds_ne (fun e => ht e.symm)]; exact hu, hur⟩

theorem wantedA_sim {ops : Array Oper} {fr : Fr} {act : Act} (k : TR μ fr act.tmps) {o : Oper} {b : Bool} (h : wantedA ops fr o = some b) : Region.wanted o (yielded ops act.tmps) = b := by
  unfold wantedA at h
  unfold Region.wanted
  split at h
  · rename_i hg
    injection h with h; subst h
    simp only [hg]
  · rename_i j want hg
    simp only [hg]
    split at h
    · rename_i hd
      injection h with h; subst h
      simp only [yielded, hd, Option.bind_none]
      rfl
    · rename_i d hd
      split at h
      · rename_i x hx
        injection h with h; subst h
        obtain ⟨v, hv, hr⟩ := k d _ hx
        have hr' : v = .bool x := hr
        subst hr'
        simp only [yielded, hd, Option.bind_some, hv]
        cases x <;> cases want <;> rfl
      · rename_i l hx
        injection h with h; subst h
        obtain ⟨v, hv, cs', rfl, _⟩ := k d _ hx
        simp only [yielded, hd, Option.bind_some, hv]
        rfl
      · cases h

section
variable {call : Callee} {n : Nat} {ops : Array Oper}
theorem seqA_nil (fr : Fr) (st : St) : seqA P call n ops [] fr st = some (fr, st) := rfl
theorem seqA_cons (o : Oper) (l : List Oper) (fr : Fr) (st : St) : seqA P call n ops (o :: l) fr st = (match wantedA ops fr o with
    | some true => match evalAll (aeval fr) o.op.operands.toList with
      | some vs => match stepA P call st.nxt ⟨st.heap, st.nxt + 1⟩ o.op vs with
        | some (v, st') => match putA n fr o.dst v with
          | some fr' => seqA P call n ops l fr' st'
          | none => none
        | none => none
      | none => none
    | some false => match putA n fr o.dst .undef with
      | some fr' => seqA P call n ops l fr' st
      | none => none
    | none => none) := rfl
end

/-- What holds of an activation's temporaries and of the world. -/
structure Sit (F : Nat → Prop) (w0 : World) (n : Nat) (ds : List Deferred) (μ : Mu) (fr : Fr) (st : St) (a : Act) (w : World) : Prop where
  tmps : TR μ fr a.tmps
  size : a.tmps.size = n
  defers : a.defers = ds
  inv : HInv F w0 μ st.heap.get w
  fresh : Fresh μ st.nxt

/-- From one situation on: the names only grow, and old ones stay where they are. -/
structure Grew (μ : Mu) (n : Nat) (μ' : Mu) (n' : Nat) : Prop where
  le : μ.le μ'
  up : n ≤ n'
  old : ∀ β, β < n → μ' β = μ β

theorem Grew.refl (μ : Mu) (n : Nat) : Grew μ n μ n := ⟨Mu.le_refl μ, Nat.le_refl n, fun _ _ => rfl⟩
theorem Grew.trans {a b c : Mu} {x y z : Nat} (h : Grew a x b y) (k : Grew b y c z) : Grew a x c z :=
  ⟨Mu.le_trans h.le k.le, Nat.le_trans h.up k.up, fun β hβ => (k.old β (Nat.lt_of_lt_of_le hβ h.up)).trans (h.old β hβ)⟩

theorem seqA_sound {call : Callee} (hcall : CalleeOk P F w0 call) {n : Nat} {ds : List Deferred} {ops : Array Oper} {Q : Exit → Act → World → Prop} :
    ∀ (l : List Oper) (fr : Fr) (st : St) (fr' : Fr) (st' : St) (μ : Mu) (a : Act) (w : World), seqA P call n ops l fr st = some (fr', st') → Sit F w0 n ds μ fr st a w →
      (∀ μ' a' w', Sit F w0 n ds μ' fr' st' a' w' → Grew μ st.nxt μ' st'.nxt → Q .normal a' w') → wpList P ops Q l a w
  | [], fr, st, fr', st', μ, a, w, h, k, hQ => by
    rw [seqA_nil] at h
    injection h with h; simp only [Prod.mk.injEq] at h; obtain ⟨e1, e2⟩ := h; subst e1; subst e2
    exact hQ μ a w k (Grew.refl _ _)
  | o :: l, fr, st, fr', st', μ, a, w, h, k, hQ => by
    rw [seqA_cons] at h
    simp only [wpList]
    split at h
    · rename_i hw
      rw [if_pos (wantedA_sim k.tmps hw)]
      left
      split at h
      case h_2 => cases h
      rename_i vs hvs
      split at h
      case h_2 => cases h
      rename_i v st1 hst
      split at h
      case h_2 => cases h
      rename_i fr1 hfr
      have hv := evalAll_sim (μ := μ) (ρ' := a.eval) _ _ (fun x _ b hb => aeval_sim k.tmps hb) hvs
      refine step_wp hcall hst hv k.inv (fun β hβ => k.fresh β (by have : st.nxt + 1 ≤ β := hβ; omega)) (k.fresh _ (Nat.le_refl _)) (Nat.lt_succ_self _) ?_
      intro v' μ' w' h1 h2 h3 h4 h5 h6
      have hgrew : Grew μ st.nxt μ' st1.nxt := ⟨h2, by have : st.nxt + 1 ≤ st1.nxt := h3; omega, fun β hβ => h4 β (by show β < st.nxt + 1; omega) (by omega)⟩
      refine seqA_sound (ds := ds) hcall l fr1 st1 fr' st' μ' (a.put o.dst v') w' h ⟨(k.tmps.mono h2).put k.size hfr h1, by rw [Act.size_put]; exact k.size, by rw [Act.defers_put]; exact k.defers, h5, h6⟩ ?_
      intro μ2 a2 w2 q1 q2
      exact hQ μ2 a2 w2 q1 (hgrew.trans q2)
    · rename_i hw
      have hw' := wantedA_sim k.tmps hw
      rw [if_neg (by rw [hw']; simp)]
      split at h
      case h_2 => cases h
      rename_i fr1 hfr
      exact seqA_sound (ds := ds) hcall l fr1 st fr' st' μ (a.put o.dst undef) w h ⟨k.tmps.put k.size hfr VR_undef, by rw [Act.size_put]; exact k.size, by rw [Act.defers_put]; exact k.defers, k.inv, k.fresh⟩ hQ
    · cases h
end Go.Xec
