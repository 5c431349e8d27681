/- Each operation that looks at no memory gives in the model what the abstract executor says. -/
import Derived.Test.YtkmabheddbbndaaDoorXb
namespace Go.Xec
variable {P : Program} {μ : Mu} {w : World}

theorem run_sizeOfT {t : TypeId} {z : Nat} (h : sizeOfT P t = some z) (w : World) : (sizeOf t).run P w = .ok z w := by
  unfold sizeOfT at h
  split at h
  · rename_i i hi
    injection h with h; subst h
    simp [sizeOf, typeInfo, hi]
  · cases h

theorem run_typeInfo {t : TypeId} {i : TypeInfo} (h : P.info? t = some i) (w : World) : (typeInfo t).run P w = .ok i w := by
  simp [typeInfo, h]

theorem run_bytesOfT {t : TypeId} {z : Nat} (h : bytesOfT P t = some z) (w : World) : ∃ i, (typeInfo t).run P w = .ok i w ∧ i.bytes = z := by
  unfold bytesOfT at h
  split at h
  · rename_i i hi
    injection h with h
    exact ⟨i, run_typeInfo hi w, h⟩
  · cases h

theorem run_aggT {t : TypeId} {b : Bool} (h : aggT P t = some b) (w : World) : (isAgg t).run P w = .ok b w := by
  unfold aggT at h
  split at h <;> first
    | (injection h with h; subst h; rename_i hu; simp [isAgg, run_underlying hu]; done)
    | (cases h; done)
    | skip
  all_goals
    rename_i d _ _ hu
    injection h with h; subst h
    simp only [isAgg, Sem.run_bind, run_underlying hu, Result.andThen_ok]
    cases d <;> simp_all

theorem run_zeroT {t : TypeId} {a : AV} (h : zeroT P t = some a) (w : World) : ∃ v, (zeroValue t).run P w = .ok v w ∧ VR μ a v := by
  unfold zeroT at h
  split at h
  · rename_i i hi
    split at h
    · rename_i v hv
      exact ⟨v, by simp [zeroValue, run_typeInfo hi, hv], absV_sound _ _ _ h⟩
    · cases h
  · cases h

theorem sliceElem_under {t e : TypeId} (h : sliceElem P t = some e) : P.underlying t = some (.slice e) := by
  unfold sliceElem at h
  split at h
  · rename_i e' he; injection h with h; subst h; exact he
  · cases h

theorem run_partA {t : TypeId} {cs : List AV} {cs' : Array Value} {off : Nat} {a : AV} (h : partA P t cs off = some a) (hr : VRs μ cs cs'.toList) (w : World) :
    ∃ v, (part t cs' off).run P w = .ok v w ∧ VR μ a v := by
  unfold partA at h
  split at h
  · rename_i hb
    split at h
    · rename_i z hz
      injection h with h; subst h
      refine ⟨.agg (cs'.extract off (off + z)), by simp [part, run_aggT hb, run_sizeOfT hz], _, rfl, ?_⟩
      have : (cs'.extract off (off + z)).toList = (cs'.toList.drop off).take z := by
        rw [Array.toList_extract, List.extract_eq_take_drop]
        congr 1
        omega
      rw [this]
      exact VRs_take (VRs_drop hr off) z
    · cases h
  · rename_i hb
    obtain ⟨v, hv, hr'⟩ := VRs_get hr off a h
    have hv' : cs'[off]? = some v := by simpa using hv
    exact ⟨v, by simp [part, run_aggT hb, hv'], hr'⟩
  · cases h

theorem fieldT_spec {s : TypeId} {f off z : Nat} {t : TypeId} (h : fieldT P s f = some (off, t, z)) :
    ∃ fields fl, P.underlying s = some (.struct fields) ∧ fields[f]? = some fl ∧ fl.offset = off ∧ fl.type = t ∧ sizeOfT P t = some z := by
  unfold fieldT at h
  split at h
  · rename_i fields hu
    split at h
    · rename_i fl hf
      split at h
      · rename_i z' hz
        injection h with h
        simp only [Prod.mk.injEq] at h
        obtain ⟨h1, h2, h3⟩ := h
        subst h1; subst h2; subst h3
        exact ⟨fields, fl, hu, hf, rfl, rfl, hz⟩
      · cases h
    · cases h
  · cases h

theorem cmpInt_sim {op : BinOp} {a b : Int} {r : AV} (h : cmpInt op a b = some r) : ∃ v, (Op.intCmp op a b).run P w = .ok v w ∧ VR μ r v := by
  cases op <;> simp only [cmpInt] at h <;> first
    | (cases h; done)
    | (injection h with h; subst h; exact ⟨_, by simp only [Op.intCmp]; rfl, rfl⟩)

theorem bitsA_sim {op : BinOp} {k : IntKind} {a b : Int} {r : AV} (h : bitsA op k a b = some r) : ∃ v, (Op.intBits op k a b).run P w = .ok v w ∧ VR μ r v := by
  cases op <;> simp only [bitsA] at h <;> first
    | (cases h; done)
    | (injection h with h; subst h; exact ⟨_, by simp only [Op.intBits]; rfl, rfl⟩)

theorem arithA_sim {op : BinOp} {k : IntKind} {t : TypeId} {a b : Int} {r : AV} (hop : op ≠ .shl ∧ op ≠ .shr) (h : arithA op k a b = some r) :
    ∃ v, (binOp op t (.int k a) (.int k b)).run P w = .ok v w ∧ VR μ r v := by
  cases op
  case add => simp only [arithA] at h; injection h with h; subst h; exact ⟨_, by simp [binOp, Op.intArith], rfl⟩
  case sub => simp only [arithA] at h; injection h with h; subst h; exact ⟨_, by simp [binOp, Op.intArith], rfl⟩
  case mul => simp only [arithA] at h; injection h with h; subst h; exact ⟨_, by simp [binOp, Op.intArith], rfl⟩
  case quo =>
    simp only [arithA] at h
    split at h
    · cases h
    · rename_i hb
      injection h with h; subst h
      have hb' : b ≠ 0 := by simpa using hb
      exact ⟨_, by simp only [binOp, Op.intDiv, ne_eq, not_true_eq_false, if_false, hb']; rfl, rfl⟩
  case rem =>
    simp only [arithA] at h
    split at h
    · cases h
    · rename_i hb
      injection h with h; subst h
      have hb' : b ≠ 0 := by simpa using hb
      exact ⟨_, by simp only [binOp, Op.intDiv, ne_eq, not_true_eq_false, if_false, hb']; rfl, rfl⟩
  case shl => exact absurd rfl hop.1
  case shr => exact absurd rfl hop.2
  case and => simp only [arithA] at h; obtain ⟨v, hv, hr⟩ := bitsA_sim (P := P) (μ := μ) (w := w) h; exact ⟨v, by simpa [binOp] using hv, hr⟩
  case or => simp only [arithA] at h; obtain ⟨v, hv, hr⟩ := bitsA_sim (P := P) (μ := μ) (w := w) h; exact ⟨v, by simpa [binOp] using hv, hr⟩
  case xor => simp only [arithA] at h; obtain ⟨v, hv, hr⟩ := bitsA_sim (P := P) (μ := μ) (w := w) h; exact ⟨v, by simpa [binOp] using hv, hr⟩
  case andNot => simp only [arithA] at h; obtain ⟨v, hv, hr⟩ := bitsA_sim (P := P) (μ := μ) (w := w) h; exact ⟨v, by simpa [binOp] using hv, hr⟩
  all_goals
    simp only [arithA] at h; obtain ⟨v, hv, hr⟩ := cmpInt_sim (P := P) (μ := μ) (w := w) h; exact ⟨v, by simpa [binOp] using hv, hr⟩

theorem shiftA_sim {op : BinOp} {k j : IntKind} {t : TypeId} {a b : Int} {r : AV} (hop : op = .shl ∨ op = .shr) (h : shiftA op k a b = some r) :
    ∃ v, (binOp op t (.int k a) (.int j b)).run P w = .ok v w ∧ VR μ r v := by
  rcases hop with rfl | rfl <;> simp only [shiftA] at h <;> split at h <;> first
    | (cases h; done)
    | (rename_i hb
       injection h with h; subst h
       have hb' : ¬ b < 0 := by simpa using hb
       exact ⟨_, by simp only [binOp, Op.shift, if_neg hb']; rfl, rfl⟩)

theorem strA_sim {op : BinOp} {t : TypeId} {a b : List UInt8} {r : AV} (h : strA op a b = some r) :
    ∃ v, (binOp op t (.string ⟨⟨a⟩⟩) (.string ⟨⟨b⟩⟩)).run P w = .ok v w ∧ VR μ r v := by
  have ea : (ByteArray.mk ⟨a⟩).toList = a := ByteArray.toList_eq _
  have eb : (ByteArray.mk ⟨b⟩).toList = b := ByteArray.toList_eq _
  cases op <;> simp only [strA] at h <;> first
    | (cases h; done)
    | (injection h with h; subst h; exact ⟨_, by simp only [binOp, Op.stringOp, ea, eb]; rfl, rfl⟩)
    | skip
  split at h
  · rename_i hb
    injection h with h; subst h
    have hb' : a.length + b.length < 4611686018427387904 := by simpa using hb
    refine ⟨.string ((ByteArray.mk ⟨a⟩) ++ (ByteArray.mk ⟨b⟩)), ?_, ?_⟩
    · simp only [binOp, Op.stringOp]
      rw [if_neg]
      · rfl
      · have h1 : (ByteArray.mk ⟨a⟩).size = a.length := rfl
        have h2 : (ByteArray.mk ⟨b⟩).size = b.length := rfl
        rw [h1, h2]
        have : IntKind.i64.max = 9223372036854775807 := by decide
        rw [this]; omega
    · show Value.string _ = .string _
      congr 1
  · cases h

theorem eqIfc_sim {x y : Operand} {t t1 t2 : TypeId} {e : Array (String × TypeId)} {a1 b1 : AV} {u v : Value} {r : Bool} {op : BinOp} (hu : P.underlying t = some (.interface e))
    (h : (match Nat.beq t1 t2 with
      | false => some false
      | true => match (P.info? t1).map (·.comparable), P.underlying t1, a1, b1 with
        | some true, some (.int _), .int k p, .int j q => match decide (k = j) with
          | true => some (p == q)
          | false => none
        | _, _, _, _ => none) = some r) (ha : VR μ (.ifc t1 a1) u) (hb : VR μ (.ifc t2 b1) v) :
    (eqGuard op t x y u v).run P w = .ok () w ∧ (Op.equal t u v).run P w = .ok r w ∧
      binOp .eql t u v = (do pure (.bool (← Op.equal t u v))) ∧ binOp .neq t u v = (do pure (.bool (!(← Op.equal t u v)))) := by
  obtain ⟨d, hd⟩ : ∃ d, Op.maxDepth = d + 1 + 1 := ⟨9998, rfl⟩
  obtain ⟨a', rfl, ha'⟩ := ha
  obtain ⟨b', rfl, hb'⟩ := hb
  split at h
  · rename_i hne
    have hne' : t1 ≠ t2 := Nat.ne_of_beq_eq_false hne
    injection h with h; subst h
    exact ⟨by cases op <;> rfl, by rw [Op.equal, hd]; simp [Op.equalIn, run_underlying hu, hne'], rfl, rfl⟩
  · rename_i heq
    have heq' : t1 = t2 := Nat.eq_of_beq_eq_true heq
    subst heq'
    split at h
    case h_2 => cases h
    rename_i q k p j q2 hc hx
    split at h
    case h_2 => cases h
    rename_i hk
    have hk' := of_decide_eq_true hk
    subst hk'
    injection h with h; subst h
    have ha2 : a' = .int k p := ha'
    have hb2 : b' = .int k q2 := hb'
    subst ha2; subst hb2
    obtain ⟨i, hi, hcc⟩ := Option.map_eq_some_iff.1 hc
    refine ⟨by cases op <;> rfl, ?_, rfl, rfl⟩
    rw [Op.equal, hd]
    simp [Op.equalIn, run_underlying hu, run_underlying hx, typeInfo, hi, hcc]

theorem eqA_sim {x y : Operand} {t : TypeId} {a b : AV} {u v : Value} {r : Bool} {op : BinOp} (h : eqA P x y t a b = some r) (ha : VR μ a u) (hb : VR μ b v) :
    (eqGuard op t x y u v).run P w = .ok () w ∧ (Op.equal t u v).run P w = .ok r w ∧
      binOp .eql t u v = (do pure (.bool (← Op.equal t u v))) ∧ binOp .neq t u v = (do pure (.bool (!(← Op.equal t u v)))) := by
  obtain ⟨d, hd⟩ : ∃ d, Op.maxDepth = d + 1 := ⟨9999, rfl⟩
  unfold eqA at h
  split at h <;> first
    | (cases h; done)
    | skip
  all_goals (rename_i hu)
  case h_1 p q => 
    cases ha; cases hb; injection h with h; subst h
    exact ⟨by cases op <;> rfl, by rw [Op.equal, hd]; simp [Op.equalIn, run_underlying hu], rfl, rfl⟩
  case h_2 e => 
    cases ha; cases hb; injection h with h; subst h
    exact ⟨by cases op <;> rfl, by rw [Op.equal, hd]; simp [Op.equalIn, run_underlying hu], rfl, rfl⟩
  case h_3 e β o => 
    cases ha; obtain ⟨b, base, _, rfl⟩ := hb; injection h with h; subst h
    exact ⟨by cases op <;> rfl, by rw [Op.equal, hd]; simp [Op.equalIn, run_underlying hu], rfl, rfl⟩
  case h_4 e β o => 
    cases hb; obtain ⟨b, base, _, rfl⟩ := ha; injection h with h; subst h
    exact ⟨by cases op <;> rfl, by rw [Op.equal, hd]; simp [Op.equalIn, run_underlying hu], rfl, rfl⟩
  case h_5 e => 
    cases ha; cases hb
    split at h
    · rename_i hc
      injection h with h; subst h
      refine ⟨?_, by rw [Op.equal, hd]; simp [Op.equalIn, run_underlying hu], rfl, rfl⟩
      cases op <;> first | rfl | (cases x <;> cases y <;> first | rfl | exact Bool.noConfusion (show false = true from hc))
    · cases h
  case h_6 e _ _ => 
    cases ha; obtain ⟨x', rfl, _⟩ := hb; injection h with h; subst h
    exact ⟨by cases op <;> rfl, by rw [Op.equal, hd]; simp [Op.equalIn, run_underlying hu], rfl, rfl⟩
  case h_7 e _ _ => 
    cases hb; obtain ⟨x', rfl, _⟩ := ha; injection h with h; subst h
    exact ⟨by cases op <;> rfl, by rw [Op.equal, hd]; simp [Op.equalIn, run_underlying hu], rfl, rfl⟩
  case h_8 e => 
    cases ha; cases hb; injection h with h; subst h
    exact ⟨by cases op <;> rfl, by rw [Op.equal, hd]; simp [Op.equalIn, run_underlying hu], rfl, rfl⟩
  case h_9 e _ _ _ _ => 
    cases ha; obtain ⟨_, _, _, _, _, _, _, rfl⟩ := hb; injection h with h; subst h
    exact ⟨by cases op <;> rfl, by rw [Op.equal, hd]; simp [Op.equalIn, run_underlying hu], rfl, rfl⟩
  case h_10 e _ _ _ _ => 
    cases hb; obtain ⟨_, _, _, _, _, _, _, rfl⟩ := ha; injection h with h; subst h
    exact ⟨by cases op <;> rfl, by rw [Op.equal, hd]; simp [Op.equalIn, run_underlying hu], rfl, rfl⟩
  case h_11 => 
    cases ha; cases hb; injection h with h; subst h
    exact ⟨by cases op <;> rfl, by rw [Op.equal, hd]; simp [Op.equalIn, run_underlying hu], rfl, rfl⟩
  case h_12 e t1 a1 t2 b1 => exact eqIfc_sim hu h ha hb
  case h_13 => 
    cases ha; obtain ⟨_, _, rfl⟩ := hb; injection h with h; subst h
    exact ⟨by cases op <;> rfl, by rw [Op.equal, hd]; simp [Op.equalIn, run_underlying hu], rfl, rfl⟩
  case h_14 => 
    cases hb; obtain ⟨_, _, rfl⟩ := ha; injection h with h; subst h
    exact ⟨by cases op <;> rfl, by rw [Op.equal, hd]; simp [Op.equalIn, run_underlying hu], rfl, rfl⟩
  case h_15 => 
    cases ha; cases hb; injection h with h; subst h
    exact ⟨by cases op <;> rfl, by rw [Op.equal, hd]; simp [Op.equalIn, run_underlying hu], rfl, rfl⟩
  case h_16 => 
    cases ha; obtain ⟨_, _, rfl, _, _⟩ := hb; injection h with h; subst h
    exact ⟨by cases op <;> rfl, by rw [Op.equal, hd]; simp [Op.equalIn, run_underlying hu], rfl, rfl⟩
  case h_17 => 
    cases hb; obtain ⟨_, _, rfl, _, _⟩ := ha; injection h with h; subst h
    exact ⟨by cases op <;> rfl, by rw [Op.equal, hd]; simp [Op.equalIn, run_underlying hu], rfl, rfl⟩
end Go.Xec
