/- Regions that draw their order: what is read off their text, and off one run in the order of the text. -/
import Derived.Test.YtkmabheddbbndaaDoorXk
import Derived.Orders
namespace Go.Xec
variable {P : Program} {F : Nat → Prop} {w0 : World}

section masks
theorem maskOf_bit (acc : List Nat) : ∀ (l : List Edge) (s i : Nat), (maskOf acc l s).testBit i = true → s.testBit i = true ∨ ∃ e ∈ l, Region.binds .any e = true ∧ (i = e.on ∨ (acc.getD e.on 0).testBit i = true)
  | [], s, i, h => .inl h
  | e :: l, s, i, h => by
    simp only [maskOf] at h
    rcases maskOf_bit acc l _ i h with h | ⟨e', h1, h2, h3⟩
    · split at h
      · rename_i hb
        rw [Nat.testBit_or, Nat.testBit_or, Nat.testBit_two_pow] at h
        simp only [Bool.or_eq_true, decide_eq_true_eq] at h
        rcases h with h | h | h
        · exact .inl h
        · exact .inr ⟨e, List.mem_cons_self, hb, .inl h.symm⟩
        · exact .inr ⟨e, List.mem_cons_self, hb, .inr h⟩
      · exact .inl h
    · exact .inr ⟨e', List.mem_cons_of_mem _ h1, h2, h3⟩

theorem masks_spec : ∀ (l : List Oper) (acc : List Nat), ∃ r, masks l acc = acc ++ r ∧ r.length = l.length ∧
    ∀ j o, l[j]? = some o → ∀ i, (((acc ++ r).getD (acc.length + j) 0).testBit i = true → ∃ e ∈ o.after.toList, Region.binds .any e = true ∧ (i = e.on ∨ ((acc ++ r).getD e.on 0).testBit i = true))
  | [], acc => ⟨[], by simp [masks], rfl, by simp⟩
  | o :: l, acc => by
    obtain ⟨r, h1, h2, h3⟩ := masks_spec l (acc ++ [maskOf acc o.after.toList 0])
    refine ⟨maskOf acc o.after.toList 0 :: r, by simp only [masks, h1]; simp, by simp [h2], fun j o' ho i hi => ?_⟩
    cases j with
    | zero =>
      simp at ho; subst ho
      have e1 : (acc ++ maskOf acc o.after.toList 0 :: r).getD (acc.length + 0) 0 = maskOf acc o.after.toList 0 := by
        rw [List.getD_eq_getElem?_getD, List.getElem?_append_right (by omega)]; simp
      rw [e1] at hi
      rcases maskOf_bit acc _ _ _ hi with h | ⟨e, q1, q2, q3⟩
      · simp at h
      · refine ⟨e, q1, q2, ?_⟩
        rcases q3 with q3 | q3
        · exact .inl q3
        · right
          by_cases hlt : e.on < acc.length
          · rw [List.getD_eq_getElem?_getD, List.getElem?_append_left hlt, ← List.getD_eq_getElem?_getD]; exact q3
          · rw [List.getD_eq_getElem?_getD, List.getElem?_eq_none (by omega)] at q3
            simp at q3
    | succ j =>
      have e1 : acc ++ maskOf acc o.after.toList 0 :: r = acc ++ [maskOf acc o.after.toList 0] ++ r := by simp
      rw [e1] at hi ⊢
      refine h3 j o' (by simpa using ho) i ?_
      have e2 : (acc ++ [maskOf acc o.after.toList 0]).length + j = acc.length + (j + 1) := by simp; omega
      rw [e2]; exact hi

theorem ahead_spec {ops : Array Oper} {i j : Nat} {o : Oper} (ho : ops[j]? = some o) (h : ahead (masks ops.toList []) i j = true) :
    ∃ e ∈ o.after.toList, Region.binds .any e = true ∧ (i = e.on ∨ ahead (masks ops.toList []) i e.on = true) := by
  obtain ⟨r, h1, h2, h3⟩ := masks_spec ops.toList []
  unfold ahead at h ⊢
  rw [h1] at h ⊢
  have := h3 j o (by simpa using ho) i
  simp only [List.length_nil, Nat.zero_add] at this
  exact this h
end masks

/-- What the look at a region's text asks. -/
structure Stat (P : Program) (ops : Array Oper) : Prop where
  one : ∀ (j : Nat) (b : Oper), ops[j]? = some b → oneB (masks ops.toList []) j b = true
  pair : ∀ (i j : Nat) (a b : Oper), i < j → ops[i]? = some a → ops[j]? = some b → pairB P ops (masks ops.toList []) i j a b = true ∧ dstB a b = true

theorem statIn_spec {ops : Array Oper} {ms : List Nat} {j : Nat} {b : Oper} : ∀ (l : List Oper) (s : Nat), statIn P ops ms j b s l = true →
    ∀ (i : Nat) (a : Oper), l[i]? = some a → pairB P ops ms (s + i) j a b = true ∧ dstB a b = true
  | [], s, _, i, a, h => by simp at h
  | x :: l, s, h, i, a, ha => by
    simp only [statIn, Bool.and_eq_true] at h
    cases i with
    | zero => simp at ha; subst ha; exact ⟨h.1.1, h.1.2⟩
    | succ i =>
      have := statIn_spec l (s + 1) h.2 i a (by simpa using ha)
      rwa [show s + (i + 1) = s + 1 + i by omega]

theorem statGo_spec {ops : Array Oper} {ms : List Nat} {all : List Oper} : ∀ (l : List Oper) (s : Nat), statGo P ops ms all s l = true →
    ∀ (j : Nat) (b : Oper), l[j]? = some b → oneB ms (s + j) b = true ∧ ∀ (i : Nat) (a : Oper), i < s + j → all[i]? = some a → pairB P ops ms i (s + j) a b = true ∧ dstB a b = true
  | [], s, _, j, b, h => by simp at h
  | x :: l, s, h, j, b, hb => by
    simp only [statGo, Bool.and_eq_true] at h
    cases j with
    | zero =>
      simp at hb; subst hb
      refine ⟨h.1.1, fun i a hi ha => ?_⟩
      have := statIn_spec _ 0 h.1.2 i a (by rw [List.getElem?_take, if_pos (by omega)]; exact ha)
      rwa [Nat.zero_add] at this
    | succ j =>
      have := statGo_spec l (s + 1) h.2 j b (by simpa using hb)
      rwa [show s + (j + 1) = s + 1 + j by omega]

theorem statB_spec {ops : Array Oper} (h : statB P ops = true) : Stat P ops := by
  refine ⟨fun j b hb => ?_, fun i j a b hij ha hb => ?_⟩
  · have := (statGo_spec _ 0 h j b (by simpa using hb)).1
    rwa [Nat.zero_add] at this
  · have := (statGo_spec _ 0 h j b (by simpa using hb)).2 i a (by omega) (by simpa using ha)
    rwa [Nat.zero_add] at this

theorem dynIn_spec {ms : List Nat} {j : Nat} {b : Ent} : ∀ (l : List Ent) (s : Nat), dynIn P ms j b s l = true → ∀ (i : Nat) (a : Ent), l[i]? = some a → dynPair P ms (s + i) j a b = true
  | [], s, _, i, a, h => by simp at h
  | x :: l, s, h, i, a, ha => by
    simp only [dynIn, Bool.and_eq_true] at h
    cases i with
    | zero => simp at ha; subst ha; exact h.1
    | succ i =>
      have := dynIn_spec l (s + 1) h.2 i a (by simpa using ha)
      rwa [show s + (i + 1) = s + 1 + i by omega]

theorem dynGo_spec {ms : List Nat} {all : List Ent} : ∀ (l : List Ent) (s : Nat), dynGo P ms all s l = true →
    ∀ (j : Nat) (b : Ent), l[j]? = some b → ∀ (i : Nat) (a : Ent), i < s + j → all[i]? = some a → dynPair P ms i (s + j) a b = true
  | [], s, _, j, b, h => by simp at h
  | x :: l, s, h, j, b, hb => by
    simp only [dynGo, Bool.and_eq_true] at h
    cases j with
    | zero =>
      simp at hb; subst hb
      intro i a hi ha
      have := dynIn_spec _ 0 h.1 i a (by rw [List.getElem?_take, if_pos (by omega)]; exact ha)
      rwa [Nat.zero_add] at this
    | succ j =>
      have := dynGo_spec l (s + 1) h.2 j b (by simpa using hb)
      rwa [show s + (j + 1) = s + 1 + j by omega]

/-- One run in the order of the text. -/
inductive Trace (P : Program) (call : Callee) (n : Nat) (ops : Array Oper) (base : Nat) : Nat → Fr → St → List Oper → List Ent → Fr → St → Prop
  | nil (i : Nat) (fr : Fr) (st : St) : Trace P call n ops base i fr st [] [] fr st
  | run {i : Nat} {fr fr1 fr' : Fr} {st st1 st' : St} {o : Oper} {l : List Oper} {tr : List Ent} {vs : List AV} {v : AV} (h1 : wantedA ops fr o = some true)
      (h2 : evalAll (aeval fr) o.op.operands.toList = some vs) (h3 : stepA P call (base + i) st o.op vs = some (v, st1)) (h4 : putA n fr o.dst v = some fr1)
      (h5 : Trace P call n ops base (i + 1) fr1 st1 l tr fr' st') : Trace P call n ops base i fr st (o :: l) (⟨o, true, vs, v, fr, st, st1⟩ :: tr) fr' st'
  | skip {i : Nat} {fr fr1 fr' : Fr} {st st' : St} {o : Oper} {l : List Oper} {tr : List Ent} (h1 : wantedA ops fr o = some false)
      (h4 : putA n fr o.dst .undef = some fr1) (h5 : Trace P call n ops base (i + 1) fr1 st l tr fr' st') :
      Trace P call n ops base i fr st (o :: l) (⟨o, false, [], .undef, fr, st, st⟩ :: tr) fr' st'

theorem traceA_cons {call : Callee} {n : Nat} {ops : Array Oper} {base : Nat} (o : Oper) (l : List Oper) (i : Nat) (fr : Fr) (st : St) : traceA P call n ops base (o :: l) i fr st = (match wantedA ops fr o with
    | some true => match evalAll (aeval fr) o.op.operands.toList with
      | some vs => match stepA P call (base + i) st o.op vs with
        | some (v, st') => match putA n fr o.dst v with
          | some fr' => match traceA P call n ops base l (i + 1) fr' st' with
            | some (l, r) => some (⟨o, true, vs, v, fr, st, st'⟩ :: l, r)
            | none => none
          | none => none
        | none => none
      | none => none
    | some false => match putA n fr o.dst .undef with
      | some fr' => match traceA P call n ops base l (i + 1) fr' st with
        | some (l, r) => some (⟨o, false, [], .undef, fr, st, st⟩ :: l, r)
        | none => none
      | none => none
    | none => none) := rfl

theorem traceA_trace {call : Callee} {n : Nat} {ops : Array Oper} {base : Nat} : ∀ (l : List Oper) (i : Nat) (fr : Fr) (st : St) (tr : List Ent) (fr' : Fr) (st' : St),
    traceA P call n ops base l i fr st = some (tr, fr', st') → Trace P call n ops base i fr st l tr fr' st'
  | [], i, fr, st, tr, fr', st', h => by
    have h' : some (([] : List Ent), fr, st) = some (tr, fr', st') := h
    injection h' with h'; simp only [Prod.mk.injEq] at h'; obtain ⟨e1, e2, e3⟩ := h'; subst e1; subst e2; subst e3
    exact .nil _ _ _
  | o :: l, i, fr, st, tr, fr', st', h => by
    rw [traceA_cons] at h
    split at h
    · rename_i hw
      split at h
      case h_2 => cases h
      rename_i vs hvs
      split at h
      case h_2 => cases h
      rename_i v st1 hst
      split at h
      case h_2 => cases h
      rename_i fr1 hfr
      split at h
      case h_2 => cases h
      rename_i tr1 r hr
      injection h with h; simp only [Prod.mk.injEq] at h; obtain ⟨e1, e2⟩ := h; subst e1; subst e2
      exact .run hw hvs hst hfr (traceA_trace l _ _ _ _ _ _ hr)
    · rename_i hw
      split at h
      case h_2 => cases h
      rename_i fr1 hfr
      split at h
      case h_2 => cases h
      rename_i tr1 r hr
      injection h with h; simp only [Prod.mk.injEq] at h; obtain ⟨e1, e2⟩ := h; subst e1; subst e2
      exact .skip hw hfr (traceA_trace l _ _ _ _ _ _ hr)
    · cases h

/-- What a temporary holds when the operations of S have been carried out. -/
noncomputable def look (fr : Fr) (S : Nat → Bool) : Nat → List Ent → Nat → Option AV
  | _, [], t => fr.get t
  | i, e :: l, t => if e.o.dst = some t ∧ S i = true then some e.v else look fr S (i + 1) l t

theorem look_congr {fr fr2 : Fr} {S S2 : Nat → Bool} {t : Nat} (hf : fr.get t = fr2.get t) : ∀ (l : List Ent) (i : Nat), (∀ j e, l[j]? = some e → e.o.dst = some t → S (i + j) = S2 (i + j)) →
    look fr S i l t = look fr2 S2 i l t
  | [], i, _ => hf
  | e :: l, i, h => by
    have ih := look_congr (S := S) (S2 := S2) hf l (i + 1) (fun j e' he hd => by have := h (j + 1) e' (by simpa using he) hd; rwa [show i + 1 + j = i + (j + 1) by omega])
    simp only [look, ih]
    by_cases hd : e.o.dst = some t
    · have := h 0 e rfl hd
      rw [Nat.add_zero] at this
      rw [this]
    · simp [hd]

theorem look_none {fr : Fr} {S : Nat → Bool} {t : Nat} : ∀ (l : List Ent) (i : Nat), (∀ j e, l[j]? = some e → e.o.dst = some t → S (i + j) = false) → look fr S i l t = fr.get t
  | [], i, _ => rfl
  | e :: l, i, h => by
    simp only [look]
    rw [if_neg ?_]
    · exact look_none l (i + 1) (fun j e' he hd => by have := h (j + 1) e' (by simpa using he) hd; rwa [show i + 1 + j = i + (j + 1) by omega])
    · rintro ⟨hd, hs⟩
      have := h 0 e rfl hd
      rw [Nat.add_zero, hs] at this; cases this

theorem look_at {fr : Fr} {S : Nat → Bool} {t : Nat} : ∀ (l : List Ent) (i j : Nat) (e : Ent), l[j]? = some e → e.o.dst = some t → S (i + j) = true →
    (∀ k e', k < j → l[k]? = some e' → e'.o.dst ≠ some t) → look fr S i l t = some e.v
  | [], i, j, e, h, _, _, _ => by simp at h
  | x :: l, i, j, e, h, hd, hs, hk => by
    cases j with
    | zero =>
      simp at h; subst h
      simp only [look]
      rw [if_pos ⟨hd, by simpa using hs⟩]
    | succ j =>
      simp only [look]
      rw [if_neg (fun q => hk 0 x (by omega) rfl q.1)]
      exact look_at l (i + 1) j e (by simpa using h) hd (by rwa [show i + 1 + j = i + (j + 1) by omega]) (fun k e' hlt he => hk (k + 1) e' (by omega) (by simpa using he))

section trace
variable {call : Callee} {n : Nat} {ops : Array Oper} {base : Nat}

theorem Trace.length {i : Nat} {fr fr' : Fr} {st st' : St} {l : List Oper} {tr : List Ent} (h : Trace P call n ops base i fr st l tr fr' st') : tr.length = l.length := by
  induction h with
  | nil => rfl
  | run _ _ _ _ _ ih => simp [ih]
  | skip _ _ _ ih => simp [ih]

theorem Trace.oper {i : Nat} {fr fr' : Fr} {st st' : St} {l : List Oper} {tr : List Ent} (h : Trace P call n ops base i fr st l tr fr' st') : ∀ (j : Nat) (e : Ent), tr[j]? = some e → l[j]? = some e.o := by
  induction h with
  | nil => intro j e h; simp at h
  | run _ _ _ _ _ ih => intro j e h; cases j with
    | zero => simp at h; subst h; rfl
    | succ j => simpa using ih j e (by simpa using h)
  | skip _ _ _ ih => intro j e h; cases j with
    | zero => simp at h; subst h; rfl
    | succ j => simpa using ih j e (by simpa using h)

/-- What each entry says. -/
theorem Trace.entry {i : Nat} {fr fr' : Fr} {st st' : St} {l : List Oper} {tr : List Ent} (h : Trace P call n ops base i fr st l tr fr' st') : ∀ (j : Nat) (e : Ent), tr[j]? = some e →
    wantedA ops e.fr e.o = some e.wanted ∧ (∀ d, e.o.dst = some d → d < n) ∧ (e.wanted = true → evalAll (aeval e.fr) e.o.op.operands.toList = some e.vs ∧ stepA P call (base + (i + j)) e.pre e.o.op e.vs = some (e.v, e.post)) ∧
      (e.wanted = false → e.v = .undef ∧ e.post = e.pre) := by
  induction h with
  | nil => intro j e h; simp at h
  | @run i fr fr1 fr' st st1 st' o l tr vs v h1 h2 h3 h4 _ ih => intro j e h; cases j with
    | zero =>
      simp at h; subst h
      refine ⟨h1, fun d hd => ?_, fun _ => ⟨h2, h3⟩, fun h => by cases h⟩
      rcases putA_spec h4 with ⟨q, _⟩ | ⟨d', q, hlt, _⟩
      · rw [q] at hd; cases hd
      · rw [q] at hd; injection hd with hd; rw [← hd]; exact hlt
    | succ j =>
      have := ih j e (by simpa using h)
      rwa [show i + (j + 1) = i + 1 + j by omega]
  | @skip i fr fr1 fr' st st' o l tr h1 h4 _ ih => intro j e h; cases j with
    | zero =>
      simp at h; subst h
      refine ⟨h1, fun d hd => ?_, (fun h => by cases h), fun _ => ⟨rfl, rfl⟩⟩
      rcases putA_spec h4 with ⟨q, _⟩ | ⟨d', q, hlt, _⟩
      · rw [q] at hd; cases hd
      · rw [q] at hd; injection hd with hd; rw [← hd]; exact hlt
    | succ j =>
      have := ih j e (by simpa using h)
      rwa [show i + (j + 1) = i + 1 + j by omega]

/-- The states hang together. -/
theorem Trace.chain {i : Nat} {fr fr' : Fr} {st st' : St} {l : List Oper} {tr : List Ent} (h : Trace P call n ops base i fr st l tr fr' st') :
    (∀ e, tr[0]? = some e → e.pre = st) ∧ (∀ (j : Nat) (e e' : Ent), tr[j]? = some e → tr[j + 1]? = some e' → e.post = e'.pre) ∧ (∀ (j : Nat) (e : Ent), j + 1 = tr.length → tr[j]? = some e → e.post = st') ∧ (tr = [] → st' = st) := by
  induction h with
  | nil => exact ⟨by simp, by simp, by simp, fun _ => rfl⟩
  | run h1 h2 h3 h4 _ ih =>
    obtain ⟨a, b, c, d⟩ := ih
    refine ⟨fun e h => by simp at h; subst h; rfl, fun j e e' h h' => ?_, fun j e hl h => ?_, fun h => by cases h⟩
    · cases j with
      | zero => simp at h h'; subst h; exact (a e' (by simpa using h')).symm
      | succ j => exact b j e e' (by simpa using h) (by simpa using h')
    · cases j with
      | zero => simp at h hl; subst h; exact (d (by simpa using hl)).symm
      | succ j => exact c j e (by simpa using hl) (by simpa using h)
  | skip h1 h4 _ ih =>
    obtain ⟨a, b, c, d⟩ := ih
    refine ⟨fun e h => by simp at h; subst h; rfl, fun j e e' h h' => ?_, fun j e hl h => ?_, fun h => by cases h⟩
    · cases j with
      | zero => simp at h h'; subst h; exact (a e' (by simpa using h')).symm
      | succ j => exact b j e e' (by simpa using h) (by simpa using h')
    · cases j with
      | zero => simp at h hl; subst h; exact (d (by simpa using hl)).symm
      | succ j => exact c j e (by simpa using hl) (by simpa using h)

theorem get_putA {fr fr1 : Fr} {dst : Option Tmp} {v : AV} (h : putA n fr dst v = some fr1) (t : Nat) : fr1.get t = if dst = some t then some v else fr.get t := by
  rcases putA_spec h with ⟨rfl, rfl⟩ | ⟨d, rfl, _, rfl⟩
  · simp
  · rw [T.get_set]
    by_cases ht : t = d
    · subst ht; simp
    · rw [if_neg ht, if_neg (by simp; exact fun e => ht e.symm)]

/-- The frames, by what has been carried out. -/
theorem Trace.frames {i : Nat} {fr fr' : Fr} {st st' : St} {l : List Oper} {tr : List Ent} (h : Trace P call n ops base i fr st l tr fr' st')
    (hd : ∀ (a b : Nat) (x y : Ent), a < b → tr[a]? = some x → tr[b]? = some y → ∀ t, x.o.dst = some t → y.o.dst ≠ some t) (t : Nat) :
    (∀ (j : Nat) (e : Ent), tr[j]? = some e → e.fr.get t = look fr (fun k => decide (k < i + j)) i tr t) ∧ fr'.get t = look fr (fun _ => true) i tr t := by
  have step : ∀ {i : Nat} {fr fr1 : Fr} {e0 : Ent} {tr : List Ent} (S : Nat → Bool), (∀ (a b : Nat) (x y : Ent), a < b → (e0 :: tr)[a]? = some x → (e0 :: tr)[b]? = some y → ∀ t, x.o.dst = some t → y.o.dst ≠ some t) →
      putA n fr e0.o.dst e0.v = some fr1 → S i = true → look fr1 S (i + 1) tr t = look fr S i (e0 :: tr) t := by
    intro i fr fr1 e0 tr S hd h4 hS
    simp only [look]
    have hg := get_putA h4 t
    by_cases h0 : e0.o.dst = some t
    · rw [if_pos ⟨h0, hS⟩]
      rw [if_pos h0] at hg
      rw [look_none tr (i + 1) (fun j e he hde => absurd hde (hd 0 (j + 1) e0 e (by omega) rfl (by simpa using he) t h0)), hg]
    · rw [if_neg (fun q => h0 q.1)]
      rw [if_neg h0] at hg
      exact look_congr hg tr (i + 1) (fun _ _ _ _ => rfl)
  induction h with
  | nil => exact ⟨fun j e h => by simp at h, rfl⟩
  | @run i fr fr1 fr' st st1 st' o l tr vs v h1 h2 h3 h4 h5 ih =>
    have hd' : ∀ (a b : Nat) (x y : Ent), a < b → tr[a]? = some x → tr[b]? = some y → ∀ t, x.o.dst = some t → y.o.dst ≠ some t :=
      fun a b x y hab hx hy => hd (a + 1) (b + 1) x y (by omega) (by simpa using hx) (by simpa using hy)
    obtain ⟨ih1, ih2⟩ := ih hd'
    refine ⟨fun j e he => ?_, ?_⟩
    · cases j with
      | zero =>
        simp at he; subst he
        rw [look_none]
        intro j e he hde
        simp
      | succ j =>
        rw [ih1 j e (by simpa using he), show i + 1 + j = i + (j + 1) by omega]
        exact step (e0 := ⟨o, true, vs, v, fr, st, st1⟩) _ hd h4 (by simp)
    · rw [ih2]
      exact step (e0 := ⟨o, true, vs, v, fr, st, st1⟩) _ hd h4 rfl
  | @skip i fr fr1 fr' st st' o l tr h1 h4 h5 ih =>
    have hd' : ∀ (a b : Nat) (x y : Ent), a < b → tr[a]? = some x → tr[b]? = some y → ∀ t, x.o.dst = some t → y.o.dst ≠ some t :=
      fun a b x y hab hx hy => hd (a + 1) (b + 1) x y (by omega) (by simpa using hx) (by simpa using hy)
    obtain ⟨ih1, ih2⟩ := ih hd'
    refine ⟨fun j e he => ?_, ?_⟩
    · cases j with
      | zero =>
        simp at he; subst he
        rw [look_none]
        intro j e he hde
        simp
      | succ j =>
        rw [ih1 j e (by simpa using he), show i + 1 + j = i + (j + 1) by omega]
        exact step (e0 := ⟨o, false, [], .undef, fr, st, st⟩) _ hd h4 (by simp)
    · rw [ih2]
      exact step (e0 := ⟨o, false, [], .undef, fr, st, st⟩) _ hd h4 rfl
end trace
end Go.Xec
