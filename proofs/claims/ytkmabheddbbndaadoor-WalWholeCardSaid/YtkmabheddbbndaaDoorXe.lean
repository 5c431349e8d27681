/- Struct and array values, type assertions, lengths; and all operations that look at no memory in one. -/
import Derived.Test.YtkmabheddbbndaaDoorXd
import Derived.Great.FillDense
namespace Go.Xec
variable {P : Program} {μ : Mu} {w : World}

/-- Parts of a literal: the same places, the values alike. -/
def PRs (μ : Mu) : List (Nat × AV) → List (Nat × Value) → Prop
  | [], l => l = []
  | p :: ps, l => ∃ v ls, l = (p.1, v) :: ls ∧ VR μ p.2 v ∧ PRs μ ps ls

theorem PRs_of_zip {ρ : Operand → Value} : ∀ (ps : List (Nat × Operand)) (vs : List AV), VRs μ vs (ps.map fun p => ρ p.2) →
    PRs μ ((ps.map (·.1)).zip vs) (ps.map fun p => (p.1, ρ p.2))
  | [], vs, h => by simp [PRs]
  | p :: ps, vs, h => by
    cases vs with
    | nil => exact absurd h VRs_nil_cons
    | cons a vs =>
      obtain ⟨h1, h2⟩ := VRs_cons_cons.1 h
      exact ⟨ρ p.2, _, rfl, h1, PRs_of_zip ps vs h2⟩

theorem fillA_sim (place : Nat → Option (Nat × Nat)) : ∀ (ps : List (Nat × AV)) (ls : List (Nat × Value)) (cells : List AV) (cells' : Array Value) (cs : List AV),
    PRs μ ps ls → VRs μ cells cells'.toList → fillA place cells ps = some cs → ∃ cs', Instr.fill place cells' ls = some cs' ∧ VRs μ cs cs'.toList ∧ cs'.size = cells'.size
  | [], ls, cells, cells', cs, hp, hc, h => by
    simp only [PRs] at hp
    subst hp
    simp only [fillA] at h
    injection h with h; subst h
    exact ⟨cells', rfl, hc, rfl⟩
  | (i, a) :: ps, ls, cells, cells', cs, hp, hc, h => by
    obtain ⟨v, ls', rfl, hv, hp'⟩ := hp
    simp only [fillA] at h
    split at h
    · cases h
    · rename_i off size hpl
      split at h
      · rename_i hb
        rw [Bool.and_eq_true] at hb
        have h1 : a.cells.length = size := Nat.eq_of_beq_eq_true hb.1
        have h2 : off + size ≤ cells.length := Nat.le_of_ble_eq_true hb.2
        have hcell := VR_cells hv
        have l1 := VRs_length hcell
        have l2 := VRs_length hc
        have l1' : v.cells.size = size := by rw [← Array.length_toList, ← l1, h1]
        have l2' : off + size ≤ cells'.size := by rw [← Array.length_toList, ← l2]; exact h2
        obtain ⟨g1, g2⟩ := Great.foldl_set off v.cells.toList 0 cells'
        have step : VRs μ (cells.take off ++ a.cells ++ cells.drop (off + size)) ((v.cells.toList.zipIdx 0).foldl (fun cs (x : Value × Nat) => cs.setIfInBounds (off + x.2) x.1) cells').toList := by
          refine VRs_of_get (Eq.trans (b := cells'.size) ?_ (by rw [Array.length_toList]; exact g1.symm)) fun k x u hx hu => ?_
          · simp only [List.length_append, List.length_take, List.length_drop]
            rw [← Array.length_toList] at l2'
            rw [← Array.length_toList (xs := cells')]
            omega
          · rw [Array.getElem?_toList, g2 k] at hu
            rw [List.append_assoc] at hx
            have hlt : (cells.take off).length = off := by rw [List.length_take]; omega
            by_cases hk : k < off
            · rw [if_neg (by omega)] at hu
              rw [List.getElem?_append_left (by omega), List.getElem?_take, if_pos hk] at hx
              obtain ⟨u', hu', hr⟩ := VRs_get hc k x hx
              rw [Array.getElem?_toList, hu] at hu'
              injection hu' with e; subst e; exact hr
            · rw [List.getElem?_append_right (by omega), hlt] at hx
              by_cases hk2 : k - off < a.cells.length
              · rw [List.getElem?_append_left hk2] at hx
                rw [if_pos ⟨by omega, by rw [Array.length_toList]; omega, by omega⟩, Nat.add_zero] at hu
                obtain ⟨u', hu', hr⟩ := VRs_get hcell (k - off) x hx
                rw [hu] at hu'
                injection hu' with e; subst e; exact hr
              · rw [List.getElem?_append_right (by omega), List.getElem?_drop] at hx
                rw [if_neg (by rw [Array.length_toList]; omega)] at hu
                have e : off + size + (k - off - a.cells.length) = k := by omega
                rw [e] at hx
                obtain ⟨u', hu', hr⟩ := VRs_get hc k x hx
                rw [Array.getElem?_toList, hu] at hu'
                injection hu' with e; subst e; exact hr
        obtain ⟨cs', r1, r2, r3⟩ := fillA_sim place ps ls' _ _ cs hp' step h
        refine ⟨cs', ?_, r2, by rw [r3, g1]⟩
        rw [← r1]
        conv => lhs; unfold Instr.fill
        simp only [hpl]
        rw [if_neg (by simp [l1']; omega)]
        congr 1
        rw [← Array.foldl_toList, Array.toList_zipIdx]
      · cases h

theorem placesA_sim : ∀ (fs : List Field) (pl : List (Nat × Nat)), placesA P fs = some pl →
    fs.mapM (fun f => (P.info? f.type).map fun i => (f.offset, i.size)) = some pl
  | [], pl, h => by simp only [placesA] at h; injection h with h; subst h; rfl
  | f :: fs, pl, h => by
    simp only [placesA] at h
    split at h
    · rename_i z l hz hl
      injection h with h; subst h
      have ih := placesA_sim fs l hl
      unfold sizeOfT at hz
      split at hz
      · rename_i i hi
        injection hz with hz; subst hz
        simp [List.mapM_cons, hi, ih]
      · cases hz
    · cases h

theorem zeroT_spec {t : TypeId} {a : AV} (h : zeroT P t = some a) : ∃ i v, P.info? t = some i ∧ i.zero = some v ∧ VR μ a v := by
  unfold zeroT at h
  split at h
  · rename_i i hi
    split at h
    · rename_i v hv
      exact ⟨i, v, hi, hv, absV_sound _ _ _ h⟩
    · cases h
  · cases h

theorem buildA_sim {t : TypeId} {ps : List (Nat × AV)} {ls : Array (Nat × Value)} {r : AV} (h : buildA P t ps = some r) (hp : PRs μ ps ls.toList) :
    ∃ z, (Instr.build t ls).run P w = .ok z w ∧ VR μ r z := by
  unfold buildA at h
  split at h
  · rename_i za hz
    obtain ⟨i, v, hi, hv, hr⟩ := zeroT_spec (μ := μ) hz
    split at h
    · rename_i fields hu
      split at h
      · rename_i pl hpl
        split at h
        · rename_i cs hcs
          injection h with h; subst h
          obtain ⟨cs', r1, r2, _⟩ := fillA_sim (μ := μ) _ ps ls.toList za.cells v.cells cs hp (VR_cells hr) hcs
          refine ⟨.agg cs', run_build w t ls cs' ?_, cs', rfl, r2⟩
          unfold Program.built
          simp only [hi, hu, hv, placesA_sim _ _ hpl]
          simpa using r1
        · cases h
      · cases h
    · rename_i n e hu
      split at h
      · rename_i size hsz
        split at h
        · rename_i cs hcs
          injection h with h; subst h
          obtain ⟨cs', r1, r2, _⟩ := fillA_sim (μ := μ) _ ps ls.toList za.cells v.cells cs hp (VR_cells hr) hcs
          refine ⟨.agg cs', run_build w t ls cs' ?_, cs', rfl, r2⟩
          unfold sizeOfT at hsz
          split at hsz
          · rename_i ie hie
            injection hsz with hsz; subst hsz
            unfold Program.built
            simp only [hi, hu, hv, hie]
            exact r1
          · cases hsz
        · cases h
      · cases h
    · cases h
  · cases h

theorem typeAssertA_sim {x r : AV} {u : Value} {xt t : TypeId} {ok : Bool} (h : typeAssertA P x t ok = some r) (hx : VR μ x u) :
    ∃ z, (Instr.typeAssert u xt t ok).run P w = .ok z w ∧ VR μ r z := by
  unfold typeAssertA at h
  split at h
  · rename_i want hu
    split at h
    · rename_i tv v
      obtain ⟨x', rfl, hx'⟩ := hx
      split at h
      case h_2 => cases h
      rename_i i hi
      split at h
      · rename_i hl
        have hl' : lacking want i.methods = [] := List.isEmpty_iff.1 hl
        injection h with h; subst h
        refine ⟨if ok then .tuple #[.iface tv x', .bool true] else .iface tv x', ?_, ?_⟩
        · unfold Instr.typeAssert
          simp only [Sem.run_bind, run_underlying hu, Result.andThen_ok, run_typeInfo hi, missingMethod_none hl', Sem.run_pure]
        · cases ok
          · exact ⟨x', rfl, hx'⟩
          · exact ⟨_, rfl, VRs_cons_cons.2 ⟨⟨x', rfl, hx'⟩, VRs_cons_cons.2 ⟨rfl, VRs_nil.2 rfl⟩⟩⟩
      · rename_i hl
        have hl' : lacking want i.methods ≠ [] := fun e => by rw [e] at hl; cases hl
        obtain ⟨m, hm⟩ := missingMethod_some hl'
        split at h
        · split at h
          · rename_i z hz
            injection h with h; subst h
            obtain ⟨zv, hzv, hzr⟩ := run_zeroT (μ := μ) hz w
            refine ⟨.tuple #[zv, .bool false], ?_, _, rfl, VRs_cons_cons.2 ⟨hzr, VRs_cons_cons.2 ⟨rfl, VRs_nil.2 rfl⟩⟩⟩
            unfold Instr.typeAssert
            simp only [Sem.run_bind, run_underlying hu, Result.andThen_ok, run_typeInfo hi, hm, if_true, hzv, Sem.run_pure]
          · cases h
        · cases h
    · cases hx
      split at h
      · split at h
        · rename_i z hz
          injection h with h; subst h
          obtain ⟨zv, hzv, hzr⟩ := run_zeroT (μ := μ) hz w
          refine ⟨.tuple #[zv, .bool false], ?_, _, rfl, VRs_cons_cons.2 ⟨hzr, VRs_cons_cons.2 ⟨rfl, VRs_nil.2 rfl⟩⟩⟩
          unfold Instr.typeAssert
          simp only [Sem.run_bind, run_underlying hu, Result.andThen_ok, if_true, hzv, Sem.run_pure]
        · cases h
      · cases h
    · cases h
  · rename_i d hd hu
    split at h
    · rename_i tv v
      obtain ⟨x', rfl, hx'⟩ := hx
      have hni : ∀ ms, d ≠ .interface ms := fun ms e => hd ms e
      split at h
      · rename_i he
        have he' : tv = t := Nat.eq_of_beq_eq_true he
        injection h with h; subst h
        refine ⟨if ok then .tuple #[x', .bool true] else x', ?_, ?_⟩
        · unfold Instr.typeAssert
          simp only [Sem.run_bind, run_underlying hu, Result.andThen_ok]
          cases d <;> first
            | exact absurd rfl (hni _)
            | (simp only [he', if_true]; rfl)
        · cases ok
          · exact hx'
          · exact ⟨_, rfl, VRs_cons_cons.2 ⟨hx', VRs_cons_cons.2 ⟨rfl, VRs_nil.2 rfl⟩⟩⟩
      · rename_i he
        have he' : tv ≠ t := Nat.ne_of_beq_eq_false he
        split at h
        · split at h
          · rename_i z hz
            injection h with h; subst h
            obtain ⟨zv, hzv, hzr⟩ := run_zeroT (μ := μ) hz w
            refine ⟨.tuple #[zv, .bool false], ?_, _, rfl, VRs_cons_cons.2 ⟨hzr, VRs_cons_cons.2 ⟨rfl, VRs_nil.2 rfl⟩⟩⟩
            unfold Instr.typeAssert
            simp only [Sem.run_bind, run_underlying hu, Result.andThen_ok]
            cases d <;> first
              | exact absurd rfl (hni _)
              | (simp only [he', if_false, if_true, Sem.run_bind, hzv, Result.andThen_ok, Sem.run_pure])
          · cases h
        · cases h
    · cases h
  · cases h

theorem lenPA_sim {t : TypeId} {a r : AV} {u : Value} {ts : Array TypeId} {ty : TypeId} (ht : ts[0]? = some t) (h : lenPA P t a = some r) (ha : VR μ a u) :
    ∃ z, (Builtin.len_ ts ty #[u]).run P w = .ok z w ∧ VR μ r z := by
  unfold lenPA at h
  have hu0 : (#[u] : Array Value)[0]? = some u := rfl
  split at h
  · rename_i hu
    split at h
    · rename_i s
      cases ha; injection h with h; subst h
      exact ⟨goInt s.length, by simp only [Builtin.len_, ht, hu0, Sem.run_bind, run_underlying hu, Result.andThen_ok]; rfl, rfl⟩
    · cases h
  · rename_i e hu
    split at h
    · cases ha; injection h with h; subst h
      exact ⟨goInt 0, by simp only [Builtin.len_, ht, hu0, Sem.run_bind, run_underlying hu, Result.andThen_ok]; rfl, rfl⟩
    · rename_i β o n c z
      obtain ⟨b, base, c', hm, hc, hn, hex, rfl⟩ := ha
      injection h with h; subst h
      exact ⟨goInt n, by simp only [Builtin.len_, ht, hu0, Sem.run_bind, run_underlying hu, Result.andThen_ok]; rfl, rfl⟩
    · obtain ⟨b, c', rfl⟩ := ha
      injection h with h; subst h
      exact ⟨goInt 0, by simp only [Builtin.len_, ht, hu0, Sem.run_bind, run_underlying hu, Result.andThen_ok]; rfl, rfl⟩
    · cases h
  · rename_i n e hu
    injection h with h; subst h
    exact ⟨goInt n, by simp only [Builtin.len_, ht, hu0, Sem.run_bind, run_underlying hu, Result.andThen_ok]; rfl, rfl⟩
  · cases h

theorem VRs_one {a : AV} {l : List Value} (h : VRs μ [a] l) : ∃ v, l = [v] ∧ VR μ a v := by
  obtain ⟨v, vs, rfl, h1, h2⟩ := VRs_cons.1 h
  rw [VRs_nil] at h2; subst h2
  exact ⟨v, rfl, h1⟩
theorem VRs_two {a b : AV} {l : List Value} (h : VRs μ [a, b] l) : ∃ u v, l = [u, v] ∧ VR μ a u ∧ VR μ b v := by
  obtain ⟨v, vs, rfl, h1, h2⟩ := VRs_cons.1 h
  obtain ⟨u, rfl, h3⟩ := VRs_one h2
  exact ⟨v, u, rfl, h1, h3⟩
theorem VRs_three {a b c : AV} {l : List Value} (h : VRs μ [a, b, c] l) : ∃ u v x, l = [u, v, x] ∧ VR μ a u ∧ VR μ b v ∧ VR μ c x := by
  obtain ⟨v, vs, rfl, h1, h2⟩ := VRs_cons.1 h
  obtain ⟨u, x, rfl, h3, h4⟩ := VRs_two h2
  exact ⟨v, u, x, rfl, h1, h3, h4⟩

theorem un1_eq {vs : List AV} {a : AV} (h : un1 vs = some a) : vs = [a] := by
  unfold un1 at h
  split at h
  · injection h with h; subst h; rfl
  · cases h

theorem cutOps_sim {t : TypeId} {x : Operand} {lo hi : Option Operand} {vs : List AV} {a : AV} {l h : Option AV} {ρ : Operand → Value} (hc : cutOps lo hi vs = some (a, l, h))
    (hv : VRs μ vs ((Op.slice t x lo hi none).operands.toList.map ρ)) :
    ∃ u lo' hi', ρ x = u ∧ lo.map ρ = lo' ∧ hi.map ρ = hi' ∧ VR μ a u ∧ VRo μ l lo' ∧ VRo μ h hi' := by
  refine ⟨_, _, _, rfl, rfl, rfl, ?_⟩
  cases lo <;> cases hi <;> simp only [cutOps] at hc <;> split at hc <;> first
    | (cases hc; done)
    | skip
  · injection hc with hc; simp only [Prod.mk.injEq] at hc; obtain ⟨c1, c2, c3⟩ := hc; subst c1; subst c2; subst c3
    obtain ⟨u, e, h1⟩ := VRs_one hv
    simp [Op.operands] at e
    exact ⟨by rw [e]; exact h1, trivial, trivial⟩
  · injection hc with hc; simp only [Prod.mk.injEq] at hc; obtain ⟨c1, c2, c3⟩ := hc; subst c1; subst c2; subst c3
    obtain ⟨u, v, e, h1, h2⟩ := VRs_two hv
    simp [Op.operands] at e
    exact ⟨by rw [e.1]; exact h1, trivial, by simp only [Option.map_some, e.2]; exact h2⟩
  · injection hc with hc; simp only [Prod.mk.injEq] at hc; obtain ⟨c1, c2, c3⟩ := hc; subst c1; subst c2; subst c3
    obtain ⟨u, v, e, h1, h2⟩ := VRs_two hv
    simp [Op.operands] at e
    exact ⟨by rw [e.1]; exact h1, by simp only [Option.map_some, e.2]; exact h2, trivial⟩
  · injection hc with hc; simp only [Prod.mk.injEq] at hc; obtain ⟨c1, c2, c3⟩ := hc; subst c1; subst c2; subst c3
    obtain ⟨u, v, x', e, h1, h2, h3⟩ := VRs_three hv
    simp [Op.operands] at e
    exact ⟨by rw [e.1]; exact h1, by simp only [Option.map_some, e.2.1]; exact h2, by simp only [Option.map_some, e.2.2]; exact h3⟩

/-- What 'execOp' makes of a value's computation. -/
theorem run_v {s : Sem Value} {z : Value} {w w' : World} (h : s.run P w = .ok z w') : ((do pure (.value (← s)) : Sem Next)).run P w = .ok (.value z) w' := by
  simp only [Sem.run_bind, h, Result.andThen_ok, Sem.run_pure]

theorem pure_sim {o : Oper} {vs : List AV} {r : AV} {ρ : Operand → Value} (h : pureA P o.op vs = some r) (hv : VRs μ vs (o.op.operands.toList.map ρ)) :
    ∃ z, (execOp ρ o).run P w = .ok (.value z) w ∧ VR μ r z := by
  obtain ⟨dst, op, ty, pos, after, guard⟩ := o
  cases op <;> simp only [pureA] at h <;> first
    | (cases h; done)
    | skip
  case move x =>
    have := un1_eq h; subst this
    obtain ⟨v, e, hr⟩ := VRs_one hv
    simp [Op.operands] at e
    exact ⟨ρ x, rfl, by rw [e]; exact hr⟩
  case assign x =>
    have := un1_eq h; subst this
    obtain ⟨v, e, hr⟩ := VRs_one hv
    simp [Op.operands] at e
    exact ⟨ρ x, rfl, by rw [e]; exact hr⟩
  case pick c x y =>
    split at h
    · injection h with h; subst h
      obtain ⟨u, v, t, e, h1, h2, h3⟩ := VRs_three hv
      simp [Op.operands] at e
      obtain ⟨e1, e2, e3⟩ := e
      have h1' : u = .bool true := h1
      exact ⟨ρ x, by simp [execOp, e1, h1', asBool], by rw [e2]; exact h2⟩
    · injection h with h; subst h
      obtain ⟨u, v, t, e, h1, h2, h3⟩ := VRs_three hv
      simp [Op.operands] at e
      obtain ⟨e1, e2, e3⟩ := e
      have h1' : u = .bool false := h1
      exact ⟨ρ y, by simp [execOp, e1, h1', asBool], by rw [e3]; exact h3⟩
    · cases h
  case nilCheck x =>
    split at h
    · injection h with h; subst h
      obtain ⟨v, e, b, base, hm, rfl⟩ := VRs_one hv
      simp [Op.operands] at e
      exact ⟨_, by simp only [execOp, e]; rfl, b, base, hm, rfl⟩
    · injection h with h; subst h
      obtain ⟨v, e, x', rfl, hr⟩ := VRs_one hv
      simp [Op.operands] at e
      exact ⟨_, by simp only [execOp, e]; rfl, x', rfl, hr⟩
    · injection h with h; subst h
      obtain ⟨v, e, a', c', rfl, h1, h2⟩ := VRs_one hv
      simp [Op.operands] at e
      exact ⟨_, by simp only [execOp, e]; rfl, a', c', rfl, h1, h2⟩
    · cases h
  case binOp op t x y yt =>
    split at h
    · obtain ⟨u, v, e, h1, h2⟩ := VRs_two hv
      simp [Op.operands] at e
      obtain ⟨z, hz, hr⟩ := binA_sim (w := w) h h1 h2
      exact ⟨z, by simp only [execOp, e.1, e.2]; exact run_v hz, hr⟩
    · cases h
  case unOp op t x =>
    split at h
    · obtain ⟨u, e, h1⟩ := VRs_one hv
      simp [Op.operands] at e
      obtain ⟨z, hz, hr⟩ := unA_sim (P := P) (w := w) h h1
      exact ⟨z, by simp only [execOp, e]; exact run_v hz, hr⟩
    · cases h
  case convert src dst x =>
    split at h
    · rename_i ks hs
      split at h
      · rename_i k hd
        split at h
        · rename_i kn n
          injection h with h; subst h
          obtain ⟨u, e, h1⟩ := VRs_one hv
          simp [Op.operands] at e
          have h1' : u = .int kn n := h1
          subst h1'
          refine ⟨.int k (k.wrap n), ?_, rfl⟩
          simp only [execOp, e]
          exact run_v (by simp only [convert, Sem.run_bind, run_underlying hs, run_underlying hd, Result.andThen_ok]; rfl)
        · cases h
      · cases h
    · rename_i hs
      split at h
      · rename_i hd
        split at h
        · rename_i s
          injection h with h; subst h
          obtain ⟨u, e, h1⟩ := VRs_one hv
          simp [Op.operands] at e
          have h1' : u = .string ⟨⟨s⟩⟩ := h1
          subst h1'
          refine ⟨_, ?_, rfl⟩
          simp only [execOp, e]
          exact run_v (by simp only [convert, Sem.run_bind, run_underlying hs, run_underlying hd, Result.andThen_ok]; rfl)
        · cases h
      · cases h
    · cases h
  case makeInterface t x =>
    split at h
    · cases h
    · rename_i d hd hu
      split at h
      · rename_i a
        injection h with h; subst h
        obtain ⟨u, e, h1⟩ := VRs_one hv
        simp [Op.operands] at e
        refine ⟨.iface t u, ?_, u, rfl, h1⟩
        simp only [execOp, e]
        refine run_v ?_
        simp only [Instr.makeInterface, Sem.run_bind, run_underlying hu, Result.andThen_ok]
        cases d <;> first
          | exact absurd rfl (hd _)
          | rfl
      · cases h
    · cases h
  case makeFunc f first captured =>
    split at h
    · rename_i hl
      have hl' := Nat.eq_of_beq_eq_true hl
      injection h with h; subst h
      have e : (Op.makeFunc f first captured).operands.toList.map ρ = (first.map ρ).toList ++ (captured.map ρ).toList := by simp [Op.operands]
      simp only at hv
      rw [e] at hv
      refine ⟨.func f (first.map ρ) (captured.map ρ), rfl, _, _, rfl, ?_, ?_⟩
      · have := VRs_take hv first.size
        rwa [List.take_left' (by simp)] at this
      · have := VRs_drop hv first.size
        rwa [List.drop_left' (by simp)] at this
    · cases h
  case build t parts =>
    split at h
    · rename_i hl
      have hp := PRs_of_zip (μ := μ) (ρ := ρ) parts.toList vs (by simpa [Op.operands, Function.comp_def] using hv)
      obtain ⟨z, hz, hr⟩ := buildA_sim (w := w) (ls := parts.map fun (i, x) => (i, ρ x)) h (by simpa using hp)
      exact ⟨z, by simp only [execOp]; exact run_v hz, hr⟩
    · cases h
  case fieldAddr s x f =>
    split at h
    · rename_i off t z hf
      split at h
      · rename_i β o
        split at h
        · cases h
        · rename_i hz
          injection h with h; subst h
          have hz' : z ≠ 0 := Nat.ne_of_beq_eq_false hz
          obtain ⟨u, e, b, base, hm, rfl⟩ := VRs_one hv
          simp [Op.operands] at e
          obtain ⟨fields, fl, hu, hfl, rfl, rfl, hsz⟩ := fieldT_spec hf
          refine ⟨.pointer (some ⟨b, base + (o + fl.offset), none⟩), ?_, b, base, hm, rfl⟩
          simp only [execOp, e]
          refine run_v ?_
          simp [Instr.fieldAt, run_underlying hu, hfl, Instr.sureAddr, fieldPlace, run_sizeOfT hsz, hz', Addr.add_off, Nat.add_assoc]
      · cases h
    · cases h
  case field s x f =>
    split at h
    · rename_i off t z hf
      split at h
      · rename_i cs
        obtain ⟨u, e, cs', rfl, hr⟩ := VRs_one hv
        simp [Op.operands] at e
        obtain ⟨fields, fl, hu, hfl, rfl, rfl, hsz⟩ := fieldT_spec hf
        obtain ⟨y, hy, hyr⟩ := run_partA (w := w) h hr
        refine ⟨y, ?_, hyr⟩
        simp only [execOp, e]
        refine run_v ?_
        simp [Instr.field, run_underlying hu, hfl, asAgg, hy]
      · cases h
    · cases h
  case indexAddr t x ix =>
    split at h
    · obtain ⟨u, v, e, h1, h2⟩ := VRs_two hv
      simp [Op.operands] at e
      obtain ⟨z, hz, hr⟩ := indexAddrA_sim (w := w) h h1 h2
      exact ⟨z, by simp only [execOp, e.1, e.2]; exact run_v hz, hr⟩
    · cases h
  case index t x ix =>
    split at h
    · obtain ⟨u, v, e, h1, h2⟩ := VRs_two hv
      simp [Op.operands] at e
      obtain ⟨z, hz, hr⟩ := indexA_sim (w := w) h h1 h2
      exact ⟨z, by simp only [execOp, e.1, e.2]; exact run_v hz, hr⟩
    · cases h
  case slice t x lo hi mx =>
    cases mx with
    | some _ => cases h
    | none =>
      simp only at h
      split at h
      · rename_i a l hh hc
        obtain ⟨u, lo', hi', e1, e2, e3, g1, g2, g3⟩ := cutOps_sim hc hv
        obtain ⟨z, hz, hr⟩ := sliceA_sim (w := w) h g1 g2 g3
        exact ⟨z, by simp only [execOp, e1, e2, e3, Option.map_none]; exact run_v hz, hr⟩
      · cases h
  case extract x i =>
    split at h
    · rename_i l
      obtain ⟨u, e, cs', rfl, hr⟩ := VRs_one hv
      simp [Op.operands] at e
      obtain ⟨y, hy, hyr⟩ := VRs_get hr i r h
      have hy' : cs'[i]? = some y := by simpa using hy
      exact ⟨y, by simp only [execOp, e]; exact run_v (by simp [Instr.extract, hy']), hyr⟩
    · cases h
  case typeAssert x xt t ok =>
    split at h
    · obtain ⟨u, e, h1⟩ := VRs_one hv
      simp [Op.operands] at e
      obtain ⟨z, hz, hr⟩ := typeAssertA_sim (xt := xt) (w := w) h h1
      exact ⟨z, by simp only [execOp, e]; exact run_v hz, hr⟩
    · cases h
  case call c =>
    obtain ⟨callee, args, ts⟩ := c
    cases callee with
    | value f => simp only at h; cases h
    | invoke f m => simp only at h; cases h
    | builtin b =>
      have hargs : (Op.call { callee := Callee.builtin b, args := args, argTypes := ts }).operands.toList.map ρ = (args.map ρ).toList := by simp [Op.operands, Call.operands]
      simp only at hv
      rw [hargs] at hv
      have one : ∀ v, (args.map ρ).toList = [v] → args.map ρ = #[v] := fun v e => by rw [← Array.toList_inj, e]
      have two : ∀ u v, (args.map ρ).toList = [u, v] → args.map ρ = #[u, v] := fun u v e => by rw [← Array.toList_inj, e]
      cases b <;> simp only at h <;> first
        | (cases h; done)
        | skip
      case len =>
        split at h
        · rename_i t ht
          split at h
          · obtain ⟨u, e, h1⟩ := VRs_one hv
            obtain ⟨z, hz, hr⟩ := lenPA_sim (w := w) (ty := ty) ht h h1
            refine ⟨z, ?_, hr⟩
            simp only [execOp, resolve, one u e, Sem.run_bind, Sem.run_pure, Result.andThen_ok, invoke, builtin, hz]
          · cases h
        · cases h
      case max =>
        split at h
        · rename_i k a k' b
          injection h with h; subst h
          obtain ⟨u, v, e, h1, h2⟩ := VRs_two hv
          have h1' : u = .int k a := h1
          have h2' : v = .int k' b := h2
          refine ⟨.int k (if a < b then b else a), ?_, rfl⟩
          simp only [execOp, resolve, two u v e, Sem.run_bind, Sem.run_pure, Result.andThen_ok, invoke, builtin, Builtin.max_, List.foldlM_cons, List.foldlM_nil, h1', h2', Builtin.max2]
        · cases h
      case min =>
        split at h
        · rename_i k a k' b
          injection h with h; subst h
          obtain ⟨u, v, e, h1, h2⟩ := VRs_two hv
          have h1' : u = .int k a := h1
          have h2' : v = .int k' b := h2
          refine ⟨.int k (if b < a then b else a), ?_, rfl⟩
          simp only [execOp, resolve, two u v e, Sem.run_bind, Sem.run_pure, Result.andThen_ok, invoke, builtin, Builtin.min_, List.foldlM_cons, List.foldlM_nil, h1', h2', Builtin.min2]
        · cases h
end Go.Xec
