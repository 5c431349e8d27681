/- Each operation that looks at no memory gives in the model what the abstract executor says: the rest, and all of them in one. -/
import Derived.Test.YtkmabheddbbndaaDoorXc
namespace Go.Xec
variable {P : Program} {μ : Mu} {w : World}

theorem binA_sim {op : BinOp} {t : TypeId} {x y : Operand} {a b r : AV} {u v : Value} (h : binA P op t x y a b = some r) (ha : VR μ a u) (hb : VR μ b v) :
    ∃ z, (do eqGuard op t x y u v; binOp op t u v : Sem Value).run P w = .ok z w ∧ VR μ r z := by
  unfold binA at h
  split at h
  · rename_i k p j q
    have ha' : u = .int k p := ha
    have hb' : v = .int j q := hb
    subst ha'; subst hb'
    have hg : (eqGuard op t x y (.int k p) (.int j q)).run P w = .ok () w := by cases op <;> rfl
    simp only [Sem.run_bind, hg, Result.andThen_ok]
    split at h
    · exact shiftA_sim (.inl rfl) h
    · exact shiftA_sim (.inr rfl) h
    · rename_i op' h1 h2
      split at h
      · rename_i hk
        have hk' : k = j := by simpa using hk
        subst hk'
        exact arithA_sim ⟨fun e => h1 e, fun e => h2 e⟩ h
      · cases h
  · rename_i p q
    have ha' : u = .string ⟨⟨p⟩⟩ := ha
    have hb' : v = .string ⟨⟨q⟩⟩ := hb
    subst ha'; subst hb'
    have hg : (eqGuard op t x y (.string ⟨⟨p⟩⟩) (.string ⟨⟨q⟩⟩)).run P w = .ok () w := by cases op <;> rfl
    simp only [Sem.run_bind, hg, Result.andThen_ok]
    exact strA_sim h
  · split at h
    · split at h
      · rename_i r' hr
        injection h with h; subst h
        obtain ⟨h1, h2, h3, _⟩ := eqA_sim (op := .eql) (w := w) hr ha hb
        exact ⟨_, by simp only [Sem.run_bind, h1, Result.andThen_ok, h3, h2, Sem.run_pure], rfl⟩
      · cases h
    · split at h
      · rename_i r' hr
        injection h with h; subst h
        obtain ⟨h1, h2, _, h3⟩ := eqA_sim (op := .neq) (w := w) hr ha hb
        exact ⟨_, by simp only [Sem.run_bind, h1, Result.andThen_ok, h3, h2, Sem.run_pure], rfl⟩
      · cases h
    · cases h

theorem unA_sim {op : UnOp} {a r : AV} {u : Value} (h : unA op a = some r) (ha : VR μ a u) : ∃ z, (Op.unary op u).run P w = .ok z w ∧ VR μ r z := by
  unfold unA at h
  split at h
  · cases ha; injection h with h; subst h
    exact ⟨_, by simp only [Op.unary, Op.intArith]; rfl, rfl⟩
  · cases ha; injection h with h; subst h
    exact ⟨_, by simp only [Op.unary]; rfl, rfl⟩
  · cases ha
    obtain ⟨v, hv, hr⟩ := bitsA_sim (P := P) (μ := μ) (w := w) h
    exact ⟨v, by simpa only [Op.unary] using hv, hr⟩
  · cases h

theorem boundA_sim {x : AV} {v : Value} {y l : Nat} {code : BoundsCode} (h : boundA x y = some l) (hv : VR μ x v) :
    (Instr.sliceBound v y code).run P w = .ok l w ∧ l ≤ y := by
  unfold boundA at h
  split at h
  · rename_i k i
    cases hv
    split at h
    · rename_i hb
      injection h with h; subst h
      rw [Bool.and_eq_true] at hb
      have h1 : 0 ≤ i := by simpa using hb.1
      have h2 : i ≤ (y : Int) := by simpa using hb.2
      refine ⟨?_, by omega⟩
      simp [Instr.sliceBound, asIntOf, h1, h2]
    · cases h
  · cases h

def VRo (μ : Mu) : Option AV → Option Value → Prop
  | none, none => True
  | some a, some v => VR μ a v
  | _, _ => False

/-- A slice expression's bounds; 'cap' may be greater in the model than the abstract executor knows. -/
theorem boundsA_sim {len cap cap' : Nat} {lo hi : Option AV} {l h : Nat} {lo' hi' : Option Value} {isSlice : Bool} (hl : len ≤ cap) (hc : cap ≤ cap')
    (hb : boundsA len cap lo hi = some (l, h)) (h1 : VRo μ lo lo') (h2 : VRo μ hi hi') :
    (Instr.sliceBounds isSlice len cap' lo' hi' none).run P w = .ok (l, h, cap') w ∧ l ≤ h ∧ h ≤ cap := by
  unfold boundsA at hb
  have step2 : ∀ h', h' ≤ cap → (match (generalizing := false) lo with
      | none => some (0, h')
      | some x => match boundA x h' with
        | some l => some (l, h')
        | none => none) = some (l, h) →
      h = h' ∧ l ≤ h ∧ (match (generalizing := false) lo' with
        | some v => Instr.sliceBound v h' .sliceB
        | none => pure 0 : Sem Nat).run P w = .ok l w := by
    intro h' _ e
    cases lo with
    | none =>
      cases lo' with
      | none => injection e with e; simp only [Prod.mk.injEq] at e; obtain ⟨e1, e2⟩ := e; subst e1; subst e2; exact ⟨rfl, by omega, rfl⟩
      | some _ => exact h1.elim
    | some a =>
      cases lo' with
      | none => exact h1.elim
      | some v =>
        simp only at e
        split at e
        · rename_i l' hl'
          injection e with e; simp only [Prod.mk.injEq] at e; obtain ⟨e1, e2⟩ := e; subst e1; subst e2
          obtain ⟨r1, r2⟩ := boundA_sim (P := P) (w := w) (code := .sliceB) hl' h1
          exact ⟨rfl, r2, r1⟩
        · cases e
  cases hi with
  | none =>
    cases hi' with
    | some _ => exact h2.elim
    | none =>
      simp only at hb
      obtain ⟨e1, e2, e3⟩ := step2 len hl hb
      subst e1
      refine ⟨?_, e2, hl⟩
      simp only [Instr.sliceBounds, Sem.run_bind, Sem.run_pure, Result.andThen_ok, Option.isSome_none, if_false, Bool.false_eq_true]
      cases lo' with
      | none => simp only [Sem.run_pure] at e3 ⊢; injection e3 with e3; subst e3; rfl
      | some v => simp only at e3 ⊢; simp only [Sem.run_bind, e3, Result.andThen_ok, Sem.run_pure]
  | some a =>
    cases hi' with
    | none => exact h2.elim
    | some v =>
      simp only at hb
      split at hb
      · cases hb
      · rename_i h' hh'
        have key : ∀ code, (Instr.sliceBound v cap' code).run P w = .ok h' w ∧ h' ≤ cap := by
          intro code
          have hle := (boundA_sim (P := P) (w := w) (code := code) hh' h2).2
          refine ⟨?_, hle⟩
          refine (boundA_sim (P := P) (w := w) (code := code) (x := a) (v := v) (y := cap') ?_ h2).1
          unfold boundA at hh' ⊢
          cases a <;> simp only at hh' ⊢ <;> first
            | (cases hh'; done)
            | skip
          rename_i k i
          split at hh'
          · rename_i hb'
            rw [Bool.and_eq_true] at hb'
            have q1 : 0 ≤ i := by simpa using hb'.1
            have q2 : i ≤ (cap : Int) := by simpa using hb'.2
            have : (decide (0 ≤ i) && decide (i ≤ (cap' : Int))) = true := by
              rw [Bool.and_eq_true]; exact ⟨by simpa using q1, by simp; omega⟩
            rw [this]
            exact hh'
          · cases hh'
        have kc := (key .sliceB).2
        obtain ⟨e1, e2, e3⟩ := step2 h' kc hb
        subst e1
        refine ⟨?_, e2, kc⟩
        simp only [Instr.sliceBounds, Sem.run_bind, Sem.run_pure, Result.andThen_ok, Option.isSome_none, if_false, Bool.false_eq_true, (key _).1]
        cases lo' with
        | none => simp only [Sem.run_pure] at e3 ⊢; injection e3 with e3; subst e3; rfl
        | some v' => simp only at e3 ⊢; simp only [Sem.run_bind, e3, Result.andThen_ok, Sem.run_pure]

theorem Addr.add_off (b o n : Nat) : Addr.add ⟨b, o, none⟩ n = ⟨b, o + n, none⟩ := by
  unfold Addr.add
  split
  · rename_i h; subst h; rfl
  · rfl

theorem sliceA_sim {t : TypeId} {x r : AV} {u : Value} {lo hi : Option AV} {lo' hi' : Option Value} (h : sliceA P t x lo hi = some r) (hx : VR μ x u)
    (h1 : VRo μ lo lo') (h2 : VRo μ hi hi') : ∃ z, (Instr.sliceAt t u lo' hi' none).run P w = .ok z w ∧ VR μ r z := by
  unfold sliceA at h
  split at h
  · rename_i hu
    split at h
    · rename_i s
      cases hx
      split at h
      · rename_i l hh hb
        injection h with h; subst h
        obtain ⟨r1, r2, r3⟩ := boundsA_sim (P := P) (w := w) (isSlice := false) (Nat.le_refl _) (Nat.le_refl _) hb h1 h2
        refine ⟨.string ((ByteArray.mk ⟨s⟩).extract l hh), ?_, ?_⟩
        · have hs : (ByteArray.mk ⟨s⟩).size = s.length := rfl
          simp only [Instr.sliceAt, Sem.run_bind, run_underlying hu, Result.andThen_ok, Instr.slice, Option.isSome_none, if_false, Bool.false_eq_true, hs, r1, Sem.run_pure]
        · show Value.string _ = .string _
          congr 1
          apply ByteArray.ext
          rw [ByteArray.data_extract]
          apply Array.ext'
          rw [Array.toList_extract, List.extract_eq_take_drop]
      · cases h
    · cases h
  · rename_i e hu
    split at h
    · cases h
    · rename_i z hz
      split at h
      · cases hx
        split at h
        · rename_i lh hb
          obtain ⟨l, hh⟩ := lh
          injection h with h; subst h
          obtain ⟨r1, r2, r3⟩ := boundsA_sim (P := P) (w := w) (isSlice := true) (Nat.le_refl _) (Nat.le_refl _) hb h1 h2
          have e1 : hh = 0 := by omega
          have e2 : l = 0 := by omega
          subst e1; subst e2
          exact ⟨.slice none 0 0, by simp [Instr.sliceAt, Instr.slice, run_underlying hu, r1, run_sizeOfT hz], rfl⟩
        · cases h
      · rename_i β o n c z'
        obtain ⟨b, base, c', hm, hc, hn, hex, rfl⟩ := hx
        split at h
        case h_2 => cases h
        rename_i hzz
        have hzz' : z = z' := Nat.eq_of_beq_eq_true hzz
        subst hzz'
        split at h
        · rename_i l hh hb
          obtain ⟨r1, r2, r3⟩ := boundsA_sim (P := P) (w := w) (isSlice := true) hn hc hb h1 h2
          split at h
          · rename_i hl
            injection h with h; subst h
            have hl' : l = 0 := Nat.eq_of_beq_eq_true hl
            subst hl'
            refine ⟨.slice (some ⟨b, base + o, none⟩) hh c', ?_, b, base, c', hm, hc, r3, hex, rfl⟩
            simp [Instr.sliceAt, Instr.slice, run_underlying hu, r1, run_sizeOfT hz, Addr.add]
          · rename_i hl
            have hl' : l ≠ 0 := Nat.ne_of_beq_eq_false hl
            split at h
            · rename_i hcl
              injection h with h; subst h
              have hcl' : c = l := Nat.eq_of_beq_eq_true hcl
              have e1 : hh = l := by omega
              refine ⟨.slice (some (if c' = l then ⟨b, base + o, none⟩ else Addr.add ⟨b, base + o, none⟩ (l * z))) 0 (c' - l), ?_, _, _, rfl⟩
              simp only [Instr.sliceAt, Instr.slice, Sem.run_bind, run_underlying hu, Result.andThen_ok, r1, run_sizeOfT hz, Sem.run_pure]
              rw [e1, Nat.sub_self]
              congr 2
              split <;> rfl
            · rename_i hcl
              injection h with h; subst h
              have hcl' : c ≠ l := Nat.ne_of_beq_eq_false hcl
              refine ⟨.slice (some ⟨b, base + (o + l * z), none⟩) (hh - l) (c' - l), ?_, b, base, c' - l, hm, by omega, by omega, ?_, rfl⟩
              case refine_2 =>
                have : c' * z = l * z + (c' - l) * z := by rw [← Nat.add_mul]; congr 1; omega
                omega
              simp only [Instr.sliceAt, Instr.slice, Sem.run_bind, run_underlying hu, Result.andThen_ok, r1, run_sizeOfT hz, Sem.run_pure]
              rw [if_neg (by omega)]
              simp only [Option.map_some, Addr.add_off, Nat.add_assoc]
        · cases h
      · obtain ⟨a, c', rfl⟩ := hx
        split at h
        · rename_i lh hb
          obtain ⟨l, hh⟩ := lh
          injection h with h; subst h
          obtain ⟨r1, r2, r3⟩ := boundsA_sim (P := P) (w := w) (isSlice := true) (Nat.le_refl 0) (Nat.zero_le c') hb h1 h2
          have e1 : hh = 0 := by omega
          have e2 : l = 0 := by omega
          subst e1; subst e2
          refine ⟨.slice (some a) 0 c', ?_, _, _, rfl⟩
          simp only [Instr.sliceAt, Instr.slice, Sem.run_bind, run_underlying hu, Result.andThen_ok, r1, run_sizeOfT hz, Sem.run_pure]
          simp [Addr.add]
        · cases h
      · cases h
  · cases h

theorem indexAddrA_sim {t : TypeId} {x ix r : AV} {u v : Value} (h : indexAddrA P t x ix = some r) (hx : VR μ x u) (hi : VR μ ix v) :
    ∃ z, (Instr.indexAt t u v).run P w = .ok z w ∧ VR μ r z := by
  unfold indexAddrA at h
  split at h
  · rename_i k i
    cases hi
    split at h
    · rename_i e hu
      split at h
      · rename_i β o n c zz
        obtain ⟨b, base, c', hm, hc, hn, hex, rfl⟩ := hx
        split at h
        · rename_i z hb hz
          injection h with h; subst h
          rw [Bool.and_eq_true] at hb
          have h1 : 0 ≤ i := by simpa using hb.1
          have h2 : i < (n : Int) := by simpa using hb.2
          refine ⟨.pointer (some ⟨b, base + (o + i.toNat * z), none⟩), ?_, b, base, hm, rfl⟩
          simp [Instr.indexAt, asIntOf, run_underlying hu, h1, h2, run_sizeOfT hz, Addr.add_off, Nat.add_assoc]
        · cases h
      · cases h
    · rename_i n e hu
      split at h
      · rename_i β o
        obtain ⟨b, base, hm, rfl⟩ := hx
        split at h
        · rename_i z hb hz
          injection h with h; subst h
          rw [Bool.and_eq_true] at hb
          have h1 : 0 ≤ i := by simpa using hb.1
          have h2 : i < (n : Int) := by simpa using hb.2
          refine ⟨.pointer (some ⟨b, base + (o + i.toNat * z), none⟩), ?_, b, base, hm, rfl⟩
          simp [Instr.indexAt, Instr.sureAddr, asIntOf, run_underlying hu, h1, h2, run_sizeOfT hz, Addr.add_off, Nat.add_assoc]
        · cases h
      · cases h
    · cases h
  · cases h

theorem indexA_sim {t : TypeId} {x ix r : AV} {u v : Value} (h : indexA P t x ix = some r) (hx : VR μ x u) (hi : VR μ ix v) :
    ∃ z, (Instr.index t u v).run P w = .ok z w ∧ VR μ r z := by
  unfold indexA at h
  split at h
  · rename_i k i
    cases hi
    split at h
    · rename_i hu
      split at h
      · rename_i s
        cases hx
        split at h
        · rename_i h0
          have h0' : 0 ≤ i := by simpa using h0
          split at h
          · rename_i c hc
            injection h with h; subst h
            have hc' : (ByteArray.mk ⟨s⟩)[i.toNat]? = some c := by
              have : (ByteArray.mk ⟨s⟩)[i.toNat]? = s[i.toNat]? := by
                by_cases hlt : i.toNat < s.length
                · rw [getElem?_pos (ByteArray.mk ⟨s⟩) i.toNat (show i.toNat < (ByteArray.mk ⟨s⟩).size from hlt), List.getElem?_eq_getElem hlt]
                  rfl
                · rw [getElem?_neg (ByteArray.mk ⟨s⟩) i.toNat (show ¬ i.toNat < (ByteArray.mk ⟨s⟩).size from hlt), List.getElem?_eq_none (by omega)]
              rw [this]; exact hc
            exact ⟨.int .u8 c.toNat, by simp [Instr.index, asIntOf, run_underlying hu, h0', hc'], rfl⟩
          · cases h
        · cases h
      · cases h
    · rename_i n e hu
      split at h
      · rename_i cs
        obtain ⟨cs', rfl, hr⟩ := hx
        split at h
        · rename_i z hb hz
          rw [Bool.and_eq_true] at hb
          have h1 : 0 ≤ i := by simpa using hb.1
          have h2 : i < (n : Int) := by simpa using hb.2
          obtain ⟨y, hy, hyr⟩ := run_partA (w := w) h hr
          exact ⟨y, by simp [Instr.index, asIntOf, run_underlying hu, h1, h2, run_sizeOfT hz, hy], hyr⟩
        · cases h
      · cases h
    · cases h
  · cases h
end Go.Xec
