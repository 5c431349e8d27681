/- Code and calls: what the abstract executor says of a call holds in the model, on every tape. -/
import Derived.Test.YtkmabheddbbndaaDoorXn
import Derived.LoopN
import Derived.Scope
namespace Go.Xec
variable {P : Program} {F : Nat → Prop} {w0 : World}

def exitOf : AEx → Exit
  | .normal => .normal
  | .exit id => .exit id
  | .ret => .ret

section
variable (P) in
theorem execA_zero (call : Callee) (n : Nat) (c : Code) (fr : Fr) (st : St) : execA P call n 0 c fr st = none := rfl
variable (P) in
theorem execA_succ (call : Callee) (n fuel : Nat) (c : Code) (fr : Fr) (st : St) : execA P call n (fuel + 1) c fr st = (match c with
    | .skip => some (.normal, fr, st)
    | .label _ => some (.normal, fr, st)
    | .ret => some (.ret, fr, st)
    | .exit id => some (.exit id, fr, st)
    | .region _ ops draw => match (match draw with
        | false => seqA P call n ops ops.toList fr st
        | true => drawA P call n ops fr st) with
      | some (fr', st') => some (.normal, fr', st')
      | none => none
    | .seq a b => match execA P call n fuel a fr st with
      | some (.normal, fr', st') => execA P call n fuel b fr' st'
      | r => r
    | .cond c a b => match aeval fr c with
      | some (.bool true) => execA P call n fuel a fr st
      | some (.bool false) => execA P call n fuel b fr st
      | _ => none
    | .block id b => match execA P call n fuel b fr st with
      | some (.exit i, fr', st') => match Nat.beq i id with
        | true => some (.normal, fr', st')
        | false => some (.exit i, fr', st')
      | r => r
    | .loop b => match execA P call n fuel b fr st with
      | some (.normal, fr', st') => execA P call n fuel (.loop b) fr' st'
      | r => r
    | .scope b => execA P call n fuel b fr st
    | _ => none) := rfl
end

theorem exec_sound {call : Callee} {n : Nat} {ds : List Deferred} (hcall : CalleeOk P F w0 call) (hm : P.follows .mixedOrders = true) : ∀ (fuel : Nat),
    (∀ (c : Code) (fr : Fr) (st : St) (ex : AEx) (fr' : Fr) (st' : St) (μ : Mu) (a : Act) (w : World) (Q : Exit → Act → World → Prop), execA P call n fuel c fr st = some (ex, fr', st') → Sit F w0 n ds μ fr st a w →
      (∀ μ' a' w', Sit F w0 n ds μ' fr' st' a' w' → Grew μ st.nxt μ' st'.nxt → Q (exitOf ex) a' w') → c.wp P Q a w) ∧
    (∀ (b : Code) (fr : Fr) (st : St) (ex : AEx) (fr' : Fr) (st' : St) (μ : Mu) (a : Act) (w : World) (Q : Exit → Act → World → Prop), execA P call n fuel (.loop b) fr st = some (ex, fr', st') → Sit F w0 n ds μ fr st a w →
      (∀ μ' a' w', Sit F w0 n ds μ' fr' st' a' w' → Grew μ st.nxt μ' st'.nxt → Q (exitOf ex) a' w') → Code.rounds P b Q fuel a w)
  | 0 => by
    refine ⟨?_, ?_⟩
    · intro c fr st ex fr' st' μ a w Q h
      rw [execA_zero] at h; cases h
    · intro c fr st ex fr' st' μ a w Q h
      rw [execA_zero] at h; cases h
  | fuel + 1 => by
    obtain ⟨ihE, ihL⟩ := exec_sound (n := n) (ds := ds) hcall hm fuel
    have hL : ∀ (b : Code) (fr : Fr) (st : St) (ex : AEx) (fr' : Fr) (st' : St) (μ : Mu) (a : Act) (w : World) (Q : Exit → Act → World → Prop), execA P call n (fuel + 1) (.loop b) fr st = some (ex, fr', st') → Sit F w0 n ds μ fr st a w →
        (∀ μ' a' w', Sit F w0 n ds μ' fr' st' a' w' → Grew μ st.nxt μ' st'.nxt → Q (exitOf ex) a' w') → Code.rounds P b Q (fuel + 1) a w := by
      intro b fr st ex fr' st' μ a w Q h k hQ
      rw [execA_succ] at h
      simp only at h
      rw [rounds_succ]
      cases hb : execA P call n fuel b fr st with
      | none => rw [hb] at h; cases h
      | some r =>
        obtain ⟨ex1, fr1, st1⟩ := r
        rw [hb] at h
        cases ex1 with
        | normal =>
          simp only at h
          refine ihE b fr st .normal fr1 st1 μ a w _ hb k ?_
          intro μ1 a1 w1 k1 g1
          exact ihL b fr1 st1 ex fr' st' μ1 a1 w1 Q h k1 (fun μ2 a2 w2 k2 g2 => hQ μ2 a2 w2 k2 (g1.trans g2))
        | exit id =>
          simp only at h
          injection h with h; simp only [Prod.mk.injEq] at h; obtain ⟨e1, e2, e3⟩ := h; subst e1; subst e2; subst e3
          exact ihE b fr st _ _ _ μ a w _ hb k hQ
        | ret =>
          simp only at h
          injection h with h; simp only [Prod.mk.injEq] at h; obtain ⟨e1, e2, e3⟩ := h; subst e1; subst e2; subst e3
          exact ihE b fr st _ _ _ μ a w _ hb k hQ
    refine ⟨?_, hL⟩
    intro c fr st ex fr' st' μ a w Q h k hQ
    have h0 := h
    rw [execA_succ] at h
    cases c with
    | skip =>
      simp only at h
      injection h with h; simp only [Prod.mk.injEq] at h; obtain ⟨e1, e2, e3⟩ := h; subst e1; subst e2; subst e3
      exact wp_skip (hQ μ a w k (Grew.refl _ _))
    | label l =>
      simp only at h
      injection h with h; simp only [Prod.mk.injEq] at h; obtain ⟨e1, e2, e3⟩ := h; subst e1; subst e2; subst e3
      exact wp_label (hQ μ a w k (Grew.refl _ _))
    | ret =>
      simp only at h
      injection h with h; simp only [Prod.mk.injEq] at h; obtain ⟨e1, e2, e3⟩ := h; subst e1; subst e2; subst e3
      exact wp_ret (hQ μ a w k (Grew.refl _ _))
    | exit id =>
      simp only at h
      injection h with h; simp only [Prod.mk.injEq] at h; obtain ⟨e1, e2, e3⟩ := h; subst e1; subst e2; subst e3
      exact wp_exit (hQ μ a w k (Grew.refl _ _))
    | region id ops draw =>
      simp only at h
      cases draw with
      | false =>
        simp only at h
        split at h
        case h_2 => cases h
        rename_i fr1 st1 hs
        injection h with h; simp only [Prod.mk.injEq] at h; obtain ⟨e1, e2, e3⟩ := h; subst e1; subst e2; subst e3
        exact wp_region_list (seqA_sound hcall _ _ _ _ _ μ a w hs k hQ)
      | true =>
        simp only at h
        split at h
        case h_2 => cases h
        rename_i fr1 st1 hs
        injection h with h; simp only [Prod.mk.injEq] at h; obtain ⟨e1, e2, e3⟩ := h; subst e1; subst e2; subst e3
        exact drawA_sound hcall hm hs k hQ
    | seq x y =>
      simp only at h
      refine wp_seq ?_
      cases hx : execA P call n fuel x fr st with
      | none => rw [hx] at h; cases h
      | some r =>
        obtain ⟨ex1, fr1, st1⟩ := r
        rw [hx] at h
        cases ex1 with
        | normal =>
          simp only at h
          refine ihE x fr st .normal fr1 st1 μ a w _ hx k ?_
          intro μ1 a1 w1 k1 g1
          exact ihE y fr1 st1 ex fr' st' μ1 a1 w1 Q h k1 (fun μ2 a2 w2 k2 g2 => hQ μ2 a2 w2 k2 (g1.trans g2))
        | exit id =>
          simp only at h
          injection h with h; simp only [Prod.mk.injEq] at h; obtain ⟨e1, e2, e3⟩ := h; subst e1; subst e2; subst e3
          exact ihE x fr st _ _ _ μ a w _ hx k hQ
        | ret =>
          simp only at h
          injection h with h; simp only [Prod.mk.injEq] at h; obtain ⟨e1, e2, e3⟩ := h; subst e1; subst e2; subst e3
          exact ihE x fr st _ _ _ μ a w _ hx k hQ
    | cond c x y =>
      simp only at h
      split at h
      · rename_i hc
        have hv : a.eval c = .bool true := aeval_sim k.tmps hc
        exact wp_cond_true hv (ihE x fr st ex fr' st' μ a w Q h k hQ)
      · rename_i hc
        have hv : a.eval c = .bool false := aeval_sim k.tmps hc
        exact wp_cond_false hv (ihE y fr st ex fr' st' μ a w Q h k hQ)
      · cases h
    | block id b =>
      simp only at h
      refine wp_block ?_
      cases hb : execA P call n fuel b fr st with
      | none => rw [hb] at h; cases h
      | some r =>
        obtain ⟨ex1, fr1, st1⟩ := r
        rw [hb] at h
        cases ex1 with
        | normal =>
          simp only at h
          injection h with h; simp only [Prod.mk.injEq] at h; obtain ⟨e1, e2, e3⟩ := h; subst e1; subst e2; subst e3
          exact ihE b fr st _ _ _ μ a w _ hb k hQ
        | exit i =>
          simp only at h
          split at h
          · rename_i hi
            have hi' := Nat.eq_of_beq_eq_true hi
            injection h with h; simp only [Prod.mk.injEq] at h; obtain ⟨e1, e2, e3⟩ := h; subst e1; subst e2; subst e3
            refine ihE b fr st _ _ _ μ a w _ hb k ?_
            intro μ1 a1 w1 k1 g1
            simp only [exitOf, Exit.inBlock, hi', if_true]
            exact hQ μ1 a1 w1 k1 g1
          · rename_i hi
            have hi' := Nat.ne_of_beq_eq_false hi
            injection h with h; simp only [Prod.mk.injEq] at h; obtain ⟨e1, e2, e3⟩ := h; subst e1; subst e2; subst e3
            refine ihE b fr st _ _ _ μ a w _ hb k ?_
            intro μ1 a1 w1 k1 g1
            simp only [exitOf, Exit.inBlock, hi', if_false]
            exact hQ μ1 a1 w1 k1 g1
        | ret =>
          simp only at h
          injection h with h; simp only [Prod.mk.injEq] at h; obtain ⟨e1, e2, e3⟩ := h; subst e1; subst e2; subst e3
          exact ihE b fr st _ _ _ μ a w _ hb k hQ
    | loop b => exact wp_loop_rounds (fuel + 1) (hL b fr st ex fr' st' μ a w Q h0 k hQ)
    | scope b =>
      simp only at h
      refine wp_scope_straight (ihE b fr st ex fr' st' μ a w _ h k ?_)
      intro μ1 a1 w1 k1 g1
      cases ex <;> exact hQ μ1 a1 w1 k1 g1
    | rangeFunc f ps as b => simp only at h; cases h
    | goto l => simp only at h; cases h
    | refuse why => simp only at h; cases h

theorem argsFr_get : ∀ (l : List AV) (i : Nat) (fr : Fr) (t : Nat), (argsFr i l fr).get t = if i ≤ t ∧ t < i + l.length then l[t - i]? else fr.get t
  | [], i, fr, t => by simp only [argsFr, List.length_nil, Nat.add_zero]; rw [if_neg (by omega)]
  | a :: l, i, fr, t => by
    simp only [argsFr, argsFr_get l, T.get_set, List.length_cons]
    by_cases h : t = i
    · subst h
      rw [if_neg (by omega), if_pos rfl, if_pos (by omega), Nat.sub_self]; rfl
    · by_cases h2 : i + 1 ≤ t ∧ t < i + 1 + l.length
      · rw [if_pos h2, if_pos (by omega)]
        have e : t - i = (t - (i + 1)) + 1 := by omega
        rw [e, List.getElem?_cons_succ]
      · rw [if_neg h2, if_neg h, if_neg (by omega)]

theorem resultsA_sim {μ : Mu} {w : World} {fr : Fr} {st : St} {tmps : Array Value} (k : TR μ fr tmps) (hi : HInv F w0 μ st.heap.get w) : ∀ (rs : List ResultVar) (l : List AV), resultsA P fr st rs = some l →
    ∃ vs, (rs.mapM (fun (x : ResultVar) => (match x with
      | .tmp t => pure (tmps.getD t undef)
      | .cell a t => do loadVar t (← asAddr (tmps.getD a undef)) : Sem Value))).run P w = .ok vs w ∧ VRs μ l vs
  | [], l, h => by
    simp only [resultsA] at h
    injection h with h; subst h
    exact ⟨[], by simp, VRs_nil.2 rfl⟩
  | .tmp t :: rs, l, h => by
    simp only [resultsA] at h
    split at h
    · rename_i a l' ha hl
      injection h with h; subst h
      obtain ⟨vs, h1, h2⟩ := resultsA_sim k hi rs l' hl
      obtain ⟨v, hv, hr⟩ := k t a ha
      refine ⟨v :: vs, ?_, VRs_cons_cons.2 ⟨hr, h2⟩⟩
      have hg : tmps.getD t undef = v := by simp [hv]
      simp only [List.mapM_cons, Sem.run_bind, Sem.run_pure, Result.andThen_ok, hg, h1]
    · cases h
  | .cell a t :: rs, l, h => by
    simp only [resultsA] at h
    split at h
    · rename_i β o ha
      split at h
      · rename_i x l' hx hl
        injection h with h; subst h
        obtain ⟨vs, h1, h2⟩ := resultsA_sim k hi rs l' hl
        obtain ⟨v, hv, b, base, hm, rfl⟩ := k a _ ha
        obtain ⟨r, base', y, q1, q2, q3⟩ := loadA_sim (P := P) (fun _ _ q => q) hi hx
        rw [hm] at q1; injection q1 with q1; simp only [Prod.mk.injEq] at q1
        rw [← q1.1, ← q1.2] at q2
        refine ⟨y :: vs, ?_, VRs_cons_cons.2 ⟨q3, h2⟩⟩
        have hg : tmps.getD a undef = .pointer (some ⟨b, base + o, none⟩) := by simp [hv]
        have hasA : (asAddr (tmps.getD a undef)).run P w = .ok ⟨b, base + o, none⟩ w := by rw [hg]; rfl
        simp only [List.mapM_cons, Sem.run_bind, Sem.run_pure, Result.andThen_ok, hasA, q2, h1]
      · cases h
    · cases h

theorem resultA_sim {μ : Mu} {w : World} {fr : Fr} {st : St} {tmps : Array Value} {fn : Func} {v : AV} (k : TR μ fr tmps) (hi : HInv F w0 μ st.heap.get w) (h : resultA P fr st fn.results.toList = some v) :
    ∃ v', (results fn tmps).run P w = .ok v' w ∧ VR μ v v' := by
  have key : ∀ l, resultsA P fr st fn.results.toList = some l → ∃ vs : List Value, (fn.results.mapM (fun (x : ResultVar) => (match x with
      | .tmp t => pure (tmps.getD t undef)
      | .cell a t => do loadVar t (← asAddr (tmps.getD a undef)) : Sem Value))).run P w = .ok vs.toArray w ∧ VRs μ l vs := by
    intro l hl
    obtain ⟨vs, h1, h2⟩ := resultsA_sim k hi _ l hl
    refine ⟨vs, ?_, h2⟩
    rw [Array.mapM_eq_mapM_toList, Sem.run_map, h1]
    rfl
  unfold resultA at h
  split at h
  · rename_i x hl
    injection h with h; subst h
    obtain ⟨vs, h1, h2⟩ := key _ hl
    obtain ⟨u, rfl, hu⟩ := VRs_one h2
    refine ⟨u, ?_, hu⟩
    unfold results
    simp only [Sem.run_bind]
    erw [h1]
    simp only [Result.andThen_ok, Sem.run_pure]
    simp
  · rename_i l hne hl
    injection h with h; subst h
    obtain ⟨vs, h1, h2⟩ := key _ hl
    refine ⟨.tuple vs.toArray, ?_, _, rfl, h2⟩
    unfold results
    simp only [Sem.run_bind]
    erw [h1]
    have hlen : vs.toArray.size ≠ 1 := by
      intro h
      have hl2 := VRs_length h2
      rw [List.size_toArray] at h
      rw [h] at hl2
      cases l with
      | nil => simp at hl2
      | cons x r => cases r with
        | nil => exact hne x rfl
        | cons y r => simp at hl2
    simp only [Result.andThen_ok, Sem.run_pure]
    rw [dif_neg hlen]
  · cases h

/-- A call. -/
theorem bodyA_sound {call : Callee} (hcall : CalleeOk P F w0 call) (hm : P.follows .mixedOrders = true) {loops : Nat} {f : FuncId} {fn : Func} {args : List AV} {st st' : St} {r : AV} (hf : P.funcs[f]? = some fn)
    (h : bodyA P call loops fn args st = some (r, st')) : Enters P f ∧ ∀ μ w args', HInv F w0 μ st.heap.get w → Fresh μ st.nxt → VRs μ args args'.toList →
      Calls P f args' w fun e w' => ∃ v μ', e = .returned v ∧ VR μ' r v ∧ Went F w0 μ st.nxt μ' st' w' := by
  unfold bodyA at h
  split at h
  · cases h
  rename_i c hc
  split at h
  · cases h
  rename_i hname
  split at h
  · cases h
  rename_i hsz
  have hsz' := Nat.le_of_ble_eq_true hsz
  refine ⟨⟨fn, hf, by rw [hc]; rfl, hname⟩, ?_⟩
  intro μ w args' k hfr hargs
  have hlen := VRs_length hargs
  rw [Array.length_toList] at hlen
  have hlen' : args.length = args'.size := by rw [← Array.length_toList]; exact VRs_length hargs
  have sit : Sit F w0 fn.ntmps [] μ (argsFr 0 args .nil) st { tmps := args' ++ Array.replicate (fn.ntmps - args'.size) undef, defers := [] } w := by
    refine ⟨fun t a ha => ?_, by simp; omega, rfl, k, hfr⟩
    rw [argsFr_get] at ha
    split at ha
    · rename_i ht
      rw [Nat.sub_zero] at ha
      obtain ⟨v, hv, hr⟩ := VRs_get hargs t a ha
      rw [Array.getElem?_toList] at hv
      exact ⟨v, by rw [Array.getElem?_append_left (by omega)]; exact hv, hr⟩
    · cases ha
  have finish : ∀ ex fr1 st1 v, execA P call fn.ntmps loops c (argsFr 0 args .nil) st = some (ex, fr1, st1) → (ex = .normal ∨ ex = .ret) → resultA P fr1 st1 fn.results.toList = some v → r = v → st' = st1 →
      Calls P f args' w fun e w' => ∃ v μ', e = .returned v ∧ VR μ' r v ∧ Went F w0 μ st.nxt μ' st' w' := by
    intro ex fr1 st1 v hx hex hres e1 e2
    subst e1; subst e2
    refine calls_of_wp hf hc ((exec_sound hcall hm loops).1 c _ st ex fr1 st' μ _ w _ hx sit ?_)
    intro μ' a' w' k' g'
    obtain ⟨v', h1, h2⟩ := resultA_sim (fn := fn) k'.tmps k'.inv hres
    rcases hex with rfl | rfl
    · exact ⟨k'.defers, v', h1, v', μ', rfl, h2, g'.le, g'.up, g'.old, k'.inv, k'.fresh⟩
    · exact ⟨k'.defers, v', h1, v', μ', rfl, h2, g'.le, g'.up, g'.old, k'.inv, k'.fresh⟩
  split at h
  · cases h
  · rename_i ex fr1 st1 hnex hx
    split at h
    · rename_i v hv
      injection h with h; simp only [Prod.mk.injEq] at h
      refine finish ex fr1 st1 v hx ?_ hv h.1.symm h.2.symm
      cases ex with
      | normal => exact .inl rfl
      | ret => exact .inr rfl
      | exit id => exact absurd rfl (hnex id)
    · cases h
  · cases h

theorem runE_succ (ext : Callee) (loops d : Nat) (f : FuncId) (args : List AV) (st : St) : runE P ext loops (d + 1) f args st = (match ext f args st with
    | some r => some r
    | none => match P.funcs[f]? with
      | none => none
      | some fn => bodyA P (runE P ext loops d) loops fn args st) := rfl

theorem runE_sound (hm : P.follows .mixedOrders = true) {ext : Callee} (hext : CalleeOk P F w0 ext) (loops : Nat) : ∀ d, CalleeOk P F w0 (runE P ext loops d)
  | 0 => hext
  | d + 1 => fun f args st r st' h => by
    rw [runE_succ] at h
    split at h
    · rename_i q hq
      injection h with h; subst h
      exact hext f args st r st' hq
    · split at h
      · cases h
      · rename_i fn hf
        exact .inl (bodyA_sound (runE_sound hm hext loops d) hm hf h)

/-- A function that is run, not told. -/
theorem runE_body (hm : P.follows .mixedOrders = true) {ext : Callee} (hext : CalleeOk P F w0 ext) {loops d : Nat} {f : FuncId} {args : List AV} {st st' : St} {r : AV} (hno : ext f args st = none) (h : runE P ext loops d f args st = some (r, st')) :
    BodyOk P F w0 f args st r st' := by
  cases d with
  | zero =>
    have h' : ext f args st = some (r, st') := h
    rw [hno] at h'; cases h'
  | succ d =>
    rw [runE_succ, hno] at h
    simp only at h
    split at h
    · cases h
    · rename_i fn hf
      exact bodyA_sound (runE_sound hm hext loops d) hm hf h

theorem noneA_ok : CalleeOk P F w0 (fun _ _ _ => none) := fun _ _ _ _ _ h => by cases h

theorem runA_sound (hm : P.follows .mixedOrders = true) (loops : Nat) (d : Nat) : CalleeOk P F w0 (runA P loops d) := runE_sound hm noneA_ok loops d

/-- A CLOSED CALL: what the abstract executor says of a call without arguments that lead to memory, from nothing, holds of every call, in every world. -/
theorem closed_callE (hm : P.follows .mixedOrders = true) {ext : Callee} (hext : ∀ F w0, CalleeOk P F w0 ext) {loops d : Nat} {f : FuncId} {args : List AV} {r : AV} {st' : St} (hno : ext f args ⟨.nil, 0⟩ = none) (h : runE P ext loops d f args ⟨.nil, 0⟩ = some (r, st'))
    (w : World) (args' : Array Value) (hargs : ∀ μ, VRs μ args args'.toList) : Calls P f args' w fun e w' => ∃ v μ', e = .returned v ∧ VR μ' r v ∧ RowKit.Below w.heap.size w w' := by
  let μ : Mu := ⟨fun _ => none, fun _ => 0⟩
  have k : HInv (fun j => j < w.heap.size) w μ (T.nil : T ABlk).get w :=
    ⟨(fun β b hb => by cases hb), (fun β γ r b b' h1 => by cases h1), fun _ _ => rfl, fun _ h => h, Nat.le_refl _, rfl, rfl, rfl⟩
  refine ((runE_body (F := fun j => j < w.heap.size) (w0 := w) hm (hext _ _) hno h).2 μ w args' k (fun _ _ => rfl) (hargs μ)).mono ?_
  rintro e w' ⟨v, μ', rfl, h1, h2⟩
  exact ⟨v, μ', rfl, h1, h2.inv.os, h2.inv.tape, h2.inv.output, h2.inv.size, h2.inv.frame⟩

theorem closed_call (hm : P.follows .mixedOrders = true) {loops d : Nat} {f : FuncId} {args : List AV} {r : AV} {st' : St} (h : runA P loops d f args ⟨.nil, 0⟩ = some (r, st')) (w : World) (args' : Array Value)
    (hargs : ∀ μ, VRs μ args args'.toList) : Calls P f args' w fun e w' => ∃ v μ', e = .returned v ∧ VR μ' r v ∧ RowKit.Below w.heap.size w w' :=
  closed_callE hm (fun _ _ => noneA_ok) rfl h w args' hargs

theorem runA_enters (hm : P.follows .mixedOrders = true) {loops d : Nat} {f : FuncId} {args : List AV} {st st' : St} {r : AV} (h : runA P loops d f args st = some (r, st')) : Enters P f :=
  (runE_body (F := fun _ => False) (w0 := default) hm noneA_ok rfl h).1
end Go.Xec
