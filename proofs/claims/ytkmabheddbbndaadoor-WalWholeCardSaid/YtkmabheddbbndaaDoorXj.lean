/- All operations that turn memory, and calls' targets. -/
import Derived.Test.YtkmabheddbbndaaDoorXi
namespace Go.Xec
variable {P : Program} {μ : Mu} {w : World} {F : Nat → Prop} {w0 : World}

theorem mapUpdate_sim {st st' : St} (k : HInv F w0 μ st.heap.get w) (hf : Fresh μ st.nxt) {t : TypeId} {vs : List AV} {a : AV} {x y q : Value}
    (h : (match mapT P t with
      | some (kt, _) => match vs with
        | [.mp β, key, v] => match keyOk P kt key with
          | true => match st.heap.get β with
            | some (.map es clock) => match findA key es 0 with
              | some (some (i, _)) => some (AV.undef, { st with heap := st.heap.set β (.map (es.modify i fun e => (key, v, e.2.2)) clock) })
              | some none => some (AV.undef, { st with heap := st.heap.set β (.map (es ++ [(key, v, clock)]) (clock + 1)) })
              | none => none
            | _ => none
          | false => none
        | _ => none
      | none => none) = some (a, st')) (hv : VRs μ vs [x, y, q]) :
    a = .undef ∧ ∃ w', (Instr.mapUpdate t x y q).run P w = .ok () w' ∧ Went F w0 μ st.nxt μ st' w' := by
  split at h
  case h_2 => cases h
  rename_i kt e hmt
  have hu := mapT_spec hmt
  split at h
  case h_2 => cases h
  rename_i β key v
  split at h
  case h_2 => cases h
  rename_i hk
  obtain ⟨⟨r, hm, rfl⟩, hv2⟩ := VRs_cons_cons.1 hv
  obtain ⟨hkey, hv3⟩ := VRs_cons_cons.1 hv2
  obtain ⟨hval, _⟩ := VRs_cons_cons.1 hv3
  split at h
  case h_2 => cases h
  rename_i es clock hb
  obtain ⟨r', es', g1, g2, g3⟩ := k.map hb
  rw [hm] at g1; injection g1 with g1; simp only [Prod.mk.injEq] at g1
  rw [← g1.1] at g2
  have hck : ∀ em w, (Instr.checkKey em 10000 kt y).run P w = .ok () w := fun em w => run_checkKey hk hkey 9999 w
  split at h
  · rename_i i v0 hfa
    injection h with h; simp only [Prod.mk.injEq] at h; obtain ⟨e1, e2⟩ := h; subst e1; subst e2
    refine ⟨rfl, ?_⟩
    obtain ⟨f', hf1, vv, rfl, hvv⟩ := run_findKey hk hkey g3 hfa w
    obtain ⟨_, en, hen, hkq, _⟩ := findA_key es key 0 i v0 hfa
    rw [Nat.sub_zero] at hen
    obtain ⟨en', hen', hr1, hr2, hr3⟩ := ERs_get g3 i en hen
    obtain ⟨hsame, hbits⟩ := keyEq_same hkq hkey hr1 10000
    have hen2 : es'[i]? = some en' := by simpa using hen'
    refine ⟨_, ?_, Mu.le_refl _, Nat.le_refl _, fun _ _ => rfl, k.turnMap (clock' := clock) (es' := es'.modify i fun e => { e with key := y, val := q }) hb hm ?_, hf⟩
    · simp only [Instr.mapUpdate, Sem.run_bind, run_underlying hu, Result.andThen_ok, getObj_map g2, hck, hf1, hen2, Option.map_some, Option.getD_some, run_keyThatStays hbits, run_setObj_map g2]
    · rw [Array.toList_modify]
      exact ERs_modify g3 i _ _ fun e e' h1 h2 h3 => ⟨hkey, hval, h3.2.2⟩
  · rename_i hfa
    injection h with h; simp only [Prod.mk.injEq] at h; obtain ⟨e1, e2⟩ := h; subst e1; subst e2
    refine ⟨rfl, ?_⟩
    obtain ⟨f', hf1, hf2⟩ := run_findKey hk hkey g3 hfa w
    have hf2' : f' = none := hf2
    subst hf2'
    refine ⟨_, ?_, Mu.le_refl _, Nat.le_refl _, fun _ _ => rfl, k.turnMap (clock' := clock + 1) (es' := es'.push { key := y, val := q, born := clock }) hb hm ?_, hf⟩
    · simp only [Instr.mapUpdate, Sem.run_bind, run_underlying hu, Result.andThen_ok, getObj_map g2, hck, hf1, run_setObj_map g2]
    · rw [Array.toList_push]
      exact ERs_push g3 ⟨hkey, hval, rfl⟩
  · cases h

theorem effA_sim {st st' : St} (k : HInv F w0 μ st.heap.get w) (hf : Fresh μ st.nxt) {o : Oper} {vs : List AV} {a : AV} {ρ : Operand → Value}
    (h : effA P st o.op vs = some (a, st')) (hv : VRs μ vs (o.op.operands.toList.map ρ)) :
    ∃ n z w' μ', (execOp ρ o).run P w = .ok n w' ∧ OkRes n z ∧ VR μ' a z ∧ Went F w0 μ st.nxt μ' st' w' := by
  obtain ⟨dst, op, ty, pos, after, guard⟩ := o
  cases op <;> simp only [effA] at h <;> first
    | (cases h; done)
    | skip
  case store t ad x =>
    split at h
    case h_2 => cases h
    rename_i β o v
    split at h
    case h_2 => cases h
    rename_i z hz
    split at h
    case h_2 => cases h
    rename_i hl
    have hl' := Nat.eq_of_beq_eq_true hl
    split at h
    case h_2 => cases h
    rename_i st2 hw
    injection h with h; simp only [Prod.mk.injEq] at h; obtain ⟨e1, e2⟩ := h; subst e1; subst e2
    obtain ⟨u, xv, e, ⟨b, base, hm, rfl⟩, h2⟩ := VRs_two hv
    simp [Op.operands] at e
    have hc := VR_cells h2
    obtain ⟨r, base', w', q1, q2, q3, q4⟩ := write_sim (P := P) k hw hc
    rw [hm] at q1; injection q1 with q1; simp only [Prod.mk.injEq] at q1
    refine ⟨.skip, Go.undef, w', μ, ?_, .inr ⟨rfl, rfl⟩, VR_undef, Mu.le_refl _, by omega, fun _ _ => rfl, q3, by rw [q4]; exact hf⟩
    simp only [execOp, e.1, e.2]
    refine run_u ?_
    have hsz : xv.cells.size = z := by rw [← hl', ← Array.length_toList, VRs_length hc]
    simp only [Instr.storeAt, Instr.sureAddr, storeVar, Sem.run_bind, Sem.run_pure, Result.andThen_ok, run_sizeOfT hz, hsz, ne_eq, not_true_eq_false, if_false]
    rw [q1.1, q1.2]; exact q2
  case mapUpdate t m key x =>
    have hargs : (Op.mapUpdate t m key x).operands.toList.map ρ = [ρ m, ρ key, ρ x] := rfl
    simp only at hv
    rw [hargs] at hv
    obtain ⟨rfl, w', h1, h2⟩ := mapUpdate_sim (P := P) k hf h hv
    exact ⟨.skip, Go.undef, w', μ, by simp only [execOp]; exact run_u h1, .inr ⟨rfl, rfl⟩, VR_undef, h2⟩
  case insert t m key x =>
    have hargs : (Op.insert t m key x).operands.toList.map ρ = [ρ m, ρ key, ρ x] := rfl
    simp only at hv
    rw [hargs] at hv
    obtain ⟨rfl, w', h1, h2⟩ := mapUpdate_sim (P := P) k hf h hv
    exact ⟨.skip, Go.undef, w', μ, by simp only [execOp]; exact run_u h1, .inr ⟨rfl, rfl⟩, VR_undef, h2⟩
  case mapEntry t m key =>
    split at h
    case h_2 => cases h
    rename_i kt e hmt
    have hu := mapT_spec hmt
    split at h
    case h_2 => cases h
    rename_i β ka
    split at h
    case h_2 => cases h
    rename_i hk
    obtain ⟨u, y, ee, ⟨r, hm, rfl⟩, hkey⟩ := VRs_two hv
    simp [Op.operands] at ee
    split at h
    case h_2 => cases h
    rename_i es clock hb
    obtain ⟨r', es', g1, g2, g3⟩ := k.map hb
    rw [hm] at g1; injection g1 with g1; simp only [Prod.mk.injEq] at g1
    rw [← g1.1] at g2
    have hck : ∀ em w, (Instr.checkKey em 10000 kt y).run P w = .ok () w := fun em w => run_checkKey hk hkey 9999 w
    split at h
    · rename_i i v0 hfa
      split at h
      case h_2 => cases h
      rename_i en hen
      injection h with h; simp only [Prod.mk.injEq] at h; obtain ⟨e1, e2⟩ := h; subst e1; subst e2
      obtain ⟨f', hf1, vv, rfl, hvv⟩ := run_findKey hk hkey g3 hfa w
      obtain ⟨_, en2, hen2, hkq, _⟩ := findA_key es ka 0 i v0 hfa
      rw [Nat.sub_zero, hen] at hen2
      injection hen2 with hen2; subst hen2
      obtain ⟨en', hen', hr1, hr2, hr3⟩ := ERs_get g3 i en hen
      obtain ⟨hsame, hbits⟩ := keyEq_same hkq hkey hr1 10000
      have hen3 : es'[i]? = some en' := by simpa using hen'
      refine ⟨.value (.tuple #[vv, goInt en'.born]), _, { w with heap := w.heap.setIfInBounds r (.map (es'.modify i fun e => { e with key := y }) clock) }, μ, ?_, .inl rfl,
        ⟨_, rfl, VRs_cons_cons.2 ⟨hvv, VRs_cons_cons.2 ⟨by rw [hr3]; rfl, VRs_nil.2 rfl⟩⟩⟩, Mu.le_refl _, Nat.le_refl _, fun _ _ => rfl,
        k.turnMap (clock' := clock) (es' := es'.modify i fun e => { e with key := y }) hb hm ?_, hf⟩
      · simp only [execOp, ee.1, ee.2]
        refine run_v ?_
        simp only [Instr.mapEntry, Sem.run_bind, run_underlying hu, Result.andThen_ok, getObj_map g2, hck, hf1, hen3, Option.map_some, Option.getD_some, run_keyThatStays hbits, run_setObj_map g2, Sem.run_pure]
      · rw [Array.toList_modify]
        exact ERs_modify g3 i _ _ fun e e' h1 h2 h3 => ⟨hkey, h3.2.1, h3.2.2⟩
    · rename_i hfa
      split at h
      case h_2 => cases h
      rename_i zz hzz
      injection h with h; simp only [Prod.mk.injEq] at h; obtain ⟨e1, e2⟩ := h; subst e1; subst e2
      obtain ⟨f', hf1, hf2⟩ := run_findKey hk hkey g3 hfa w
      have hf2' : f' = none := hf2
      subst hf2'
      obtain ⟨zv, hzv, hzr⟩ := run_zeroT (μ := μ) hzz w
      refine ⟨.value (.tuple #[zv, goInt clock]), _, { w with heap := w.heap.setIfInBounds r (.map (es'.push { key := y, val := zv, born := clock }) (clock + 1)) }, μ, ?_, .inl rfl,
        ⟨_, rfl, VRs_cons_cons.2 ⟨hzr, VRs_cons_cons.2 ⟨rfl, VRs_nil.2 rfl⟩⟩⟩, Mu.le_refl _, Nat.le_refl _, fun _ _ => rfl,
        k.turnMap (clock' := clock + 1) (es' := es'.push { key := y, val := zv, born := clock }) hb hm ?_, hf⟩
      · simp only [execOp, ee.1, ee.2]
        refine run_v ?_
        simp only [Instr.mapEntry, Sem.run_bind, run_underlying hu, Result.andThen_ok, getObj_map g2, hck, hf1, hzv, run_setObj_map g2, Sem.run_pure]
      · rw [Array.toList_push]
        exact ERs_push g3 ⟨hkey, hzr, rfl⟩
    · cases h
  case entryStore t m s x =>
    split at h
    case h_2 => cases h
    rename_i β kb born v
    obtain ⟨u, y, q, ee, ⟨r, hm, rfl⟩, hborn, hval⟩ := VRs_three hv
    simp [Op.operands] at ee
    have hborn' : y = .int kb born := hborn
    split at h
    case h_2 => cases h
    rename_i es clock hb
    obtain ⟨r', es', g1, g2, g3⟩ := k.map hb
    rw [hm] at g1; injection g1 with g1; simp only [Prod.mk.injEq] at g1
    rw [← g1.1] at g2
    split at h
    case h_2 => cases h
    rename_i i hi
    injection h with h; simp only [Prod.mk.injEq] at h; obtain ⟨e1, e2⟩ := h; subst e1; subst e2
    have hidx : ∀ (es : List (AV × AV × Nat)) (es' : List MapEntry) (i : Nat), ERs μ es es' → es.findIdx? (fun e => (e.2.2 : Int) == born) = some i →
        es'.findIdx? (fun e => (e.born : Int) == born) = some i := by
      intro es
      induction es with
      | nil => intro es' i he hh; simp at hh
      | cons e es ih =>
        intro es' i he hh
        obtain ⟨e', es'', rfl, h1, h2, h3, h4⟩ := he
        rw [List.findIdx?_cons] at hh ⊢
        rw [← h3]
        split at hh
        · rename_i hb'
          rw [if_pos hb']; exact hh
        · rename_i hb'
          rw [if_neg hb']
          simp only [Option.map_eq_some_iff] at hh ⊢
          obtain ⟨j, hj, rfl⟩ := hh
          exact ⟨j, ih _ _ h4 hj, rfl⟩
    have hi' : es'.findIdx? (fun e => (e.born : Int) == born) = some i := by
      have e1 : es'.findIdx? (fun e => (e.born : Int) == born) = es'.toList.findIdx? (fun e => (e.born : Int) == born) := by
        obtain ⟨l⟩ := es'
        simp
      rw [e1]; exact hidx _ _ _ g3 hi
    refine ⟨.skip, Go.undef, { w with heap := w.heap.setIfInBounds r (.map (es'.modify i fun e => { e with val := q }) clock) }, μ, ?_, .inr ⟨rfl, rfl⟩, VR_undef, Mu.le_refl _, Nat.le_refl _, fun _ _ => rfl,
      k.turnMap (clock' := clock) (es' := es'.modify i fun e => { e with val := q }) hb hm ?_, hf⟩
    · simp only [execOp, ee.1, ee.2.1, ee.2.2, hborn']
      refine run_u ?_
      simp only [Instr.entryStore, asInt, asIntOf, Sem.run_bind, Sem.run_pure, Result.andThen_ok, getObj_map g2, hi', run_setObj_map g2]
    · rw [Array.toList_modify]
      exact ERs_modify g3 i _ _ fun e e' h1 h2 h3 => ⟨h3.1, hval, h3.2.2⟩
  case call c =>
    obtain ⟨callee, args, ts⟩ := c
    cases callee with
    | value f => simp only at h; cases h
    | invoke f m => simp only at h; cases h
    | builtin b =>
      have hargs : (Op.call { callee := Callee.builtin b, args := args, argTypes := ts }).operands.toList.map ρ = (args.map ρ).toList := by simp [Op.operands, Call.operands]
      simp only at hv
      rw [hargs] at hv
      have two : ∀ u v, (args.map ρ).toList = [u, v] → args.map ρ = #[u, v] := fun u v e => by rw [← Array.toList_inj, e]
      cases b <;> simp only at h <;> first
        | (cases h; done)
        | skip
      case append =>
        split at h
        case h_2 => cases h
        rename_i t t1 ht ht1
        have go : ∀ (d1 : TypeDesc) (sa xa : AV), P.underlying t1 = some d1 → (∀ k, d1 ≠ .int k) → vs = [sa, xa] → appendA P st t sa xa = some (a, st') →
            ∃ n z w' μ', (execOp ρ { dst := dst, op := .call { callee := .builtin .append, args := args, argTypes := ts }, type := ty, pos := pos, after := after, guard := guard }).run P w = .ok n w' ∧
              OkRes n z ∧ VR μ' a z ∧ Went F w0 μ st.nxt μ' st' w' := by
          intro d1 sa xa hd1 hd2 hvs hap
          subst hvs
          obtain ⟨u, v, e, h1, h2⟩ := VRs_two hv
          obtain ⟨z, w', μ', r1, r2, r3⟩ := appendA_sim (P := P) (ty := ty) k hf ht ht1 hd1 hd2 hap h1 h2
          refine ⟨.value z, z, w', μ', ?_, .inl rfl, r2, r3⟩
          simp only [execOp, resolve, two u v e, Sem.run_bind, Sem.run_pure, Result.andThen_ok, invoke, builtin, r1]
        split at h
        · rename_i e hu
          split at h
          · exact go _ _ _ hu (fun k => by simp) rfl h
          · cases h
        · rename_i hu
          split at h
          · exact go _ _ _ hu (fun k => by simp) rfl h
          · cases h
        · rename_i kk hu
          split at h
          · rename_i sa xa
            obtain ⟨u, v, e, h1, h2⟩ := VRs_two hv
            obtain ⟨z, w', μ', r1, r2, r3⟩ := appendZ_sim (P := P) (ty := ty) k hf ht ht1 hu h h1 h2
            refine ⟨.value z, z, w', μ', ?_, .inl rfl, r2, r3⟩
            simp only [execOp, resolve, two u v e, Sem.run_bind, Sem.run_pure, Result.andThen_ok, invoke, builtin, r1]
          · cases h
        · cases h
      case copy =>
        split at h
        case h_2 => cases h
        rename_i t ht
        split at h
        case h_2 => cases h
        rename_i e he
        have hu := sliceElem_under he
        split at h
        case h_2 => cases h
        rename_i da sa
        obtain ⟨u, v, ee, h1, h2⟩ := VRs_two hv
        split at h
        case h_2 => cases h
        rename_i z n m hz hn hm
        split at h
        case h_2 => cases h
        rename_i l hl
        have hlen := lenA_sim (P := P) hm h2 w
        obtain ⟨xs, g1, g2⟩ := elemsA_sim (P := P) (fun _ _ q => q) k hl hm (Nat.min_le_left _ _) h2
        have hu0 : ∀ a : Value, (#[a, v] : Array Value)[0]? = some a := fun _ => rfl
        have hu1 : ∀ a : Value, (#[a, v] : Array Value)[1]? = some v := fun _ => rfl
        split at h
        · rename_i β o _ _ _
          split at h
          case h_2 => cases h
          rename_i st2 hw
          injection h with h; simp only [Prod.mk.injEq] at h; obtain ⟨e1, e2⟩ := h; subst e1; subst e2
          obtain ⟨b, base, c', hmu, hcc, hnc, hex, rfl⟩ := h1
          obtain ⟨r, base', w', q1, q2, q3, q4⟩ := write_sim (P := P) k hw g1
          rw [hmu] at q1; injection q1 with q1; simp only [Prod.mk.injEq] at q1
          simp only [lenA] at hn
          injection hn with hn; subst hn
          refine ⟨.value (goInt (Nat.min m _ : Nat)), _, w', μ, ?_, .inl rfl, rfl, Mu.le_refl _, by omega, fun _ _ => rfl, q3, by rw [q4]; exact hf⟩
          simp only [execOp, resolve, two _ v ee, Sem.run_bind, Sem.run_pure, Result.andThen_ok, invoke, builtin, Builtin.copy_, ht, hu0, hu1, run_underlying hu, hlen, run_sizeOfT hz, g2]
          rw [q1.1, q1.2, q2]; rfl
        · injection h with h; simp only [Prod.mk.injEq] at h; obtain ⟨e1, e2⟩ := h; subst e1; subst e2
          cases h1
          simp only [lenA] at hn
          injection hn with hn; subst hn
          refine ⟨.value (goInt (Nat.min m 0 : Nat)), _, w, μ, ?_, .inl rfl, ?_, Went.same k hf⟩
          · simp only [execOp, resolve, two _ v ee, Sem.run_bind, Sem.run_pure, Result.andThen_ok, invoke, builtin, Builtin.copy_, ht, hu0, hu1, run_underlying hu, hlen, run_sizeOfT hz, g2]
          · show goInt _ = .int .i64 0
            have : Nat.min m 0 = 0 := Nat.min_zero m
            rw [this]; rfl
        · cases h
end Go.Xec
