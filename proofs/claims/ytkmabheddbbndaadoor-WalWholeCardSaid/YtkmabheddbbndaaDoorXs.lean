/- One callee for all functions: what each gives with as deep calls and as many rounds as it wants; 'ext' is asked first. -/
import Derived.Test.YtkmabheddbbndaaDoorXr
namespace Go.Xec
variable {P : Program} {n : Nat} {ops : Array Oper}

/-- The second callee answers wherever the first does, and alike. -/
def CLe (a b : Callee) : Prop := ∀ f args st r, a f args st = some r → b f args st = some r
theorem CLe.refl (a : Callee) : CLe a a := fun _ _ _ _ h => h

theorem stepA_cle {a b : Callee} (h : CLe a b) {nm : Nat} {st : St} {o : Op} {vs : List AV} {r : AV × St} (hx : stepA P a nm st o vs = some r) : stepA P b nm st o vs = some r := by
  unfold stepA at hx ⊢
  cases hk : kindOf P o <;> simp only [hk] at hx ⊢
  case call =>
    cases ht : targetA P o vs with
    | none => rw [ht] at hx; cases hx
    | some q => rw [ht] at hx; exact h _ _ _ _ hx
  all_goals exact hx

theorem seqA_cle {a b : Callee} (h : CLe a b) : ∀ (l : List Oper) (fr : Fr) (st : St) (r : Fr × St), seqA P a n ops l fr st = some r → seqA P b n ops l fr st = some r
  | [], fr, st, r, hx => hx
  | o :: l, fr, st, r, hx => by
    rw [seqA_cons] at hx ⊢
    split at hx
    · rename_i hw
      try rw [hw]
      split at hx
      case h_2 => cases hx
      rename_i vs hvs
      try rw [hvs]
      split at hx
      case h_2 => cases hx
      rename_i v st1 hst
      simp only [stepA_cle h hst]
      split at hx
      case h_2 => cases hx
      rename_i fr1 hfr
      try simp only [hfr]
      exact seqA_cle h l _ _ _ hx
    · rename_i hw
      try rw [hw]
      split at hx
      case h_2 => cases hx
      rename_i fr1 hfr
      try simp only [hfr]
      exact seqA_cle h l _ _ _ hx
    · cases hx

theorem traceA_cle {a b : Callee} (h : CLe a b) {base : Nat} : ∀ (l : List Oper) (i : Nat) (fr : Fr) (st : St) (r : List Ent × Fr × St), traceA P a n ops base l i fr st = some r → traceA P b n ops base l i fr st = some r
  | [], i, fr, st, r, hx => hx
  | o :: l, i, fr, st, r, hx => by
    rw [traceA_cons] at hx ⊢
    split at hx
    · rename_i hw
      try rw [hw]
      split at hx
      case h_2 => cases hx
      rename_i vs hvs
      try rw [hvs]
      split at hx
      case h_2 => cases hx
      rename_i v st1 hst
      simp only [stepA_cle h hst]
      split at hx
      case h_2 => cases hx
      rename_i fr1 hfr
      try simp only [hfr]
      split at hx
      case h_2 => cases hx
      rename_i tl q htl
      rw [traceA_cle h l _ _ _ _ htl]
      exact hx
    · rename_i hw
      try rw [hw]
      split at hx
      case h_2 => cases hx
      rename_i fr1 hfr
      try simp only [hfr]
      split at hx
      case h_2 => cases hx
      rename_i tl q htl
      rw [traceA_cle h l _ _ _ _ htl]
      exact hx
    · cases hx

theorem drawA_cle {a b : Callee} (h : CLe a b) {fr : Fr} {st : St} {r : Fr × St} (hx : drawA P a n ops fr st = some r) : drawA P b n ops fr st = some r := by
  unfold drawA at hx ⊢
  split at hx
  case h_2 => cases hx
  rename_i hs
  try rw [hs]
  try simp only
  split at hx
  case h_2 => cases hx
  rename_i tr fr1 st1 htr
  rw [traceA_cle h _ _ _ _ _ htr]
  exact hx

theorem execA_cle {a b : Callee} (h : CLe a b) : ∀ (fuel : Nat) (c : Code) (fr : Fr) (st : St) (r : AEx × Fr × St), execA P a n fuel c fr st = some r → execA P b n fuel c fr st = some r
  | 0, c, fr, st, r, hx => by rw [execA_zero] at hx; cases hx
  | fuel + 1, c, fr, st, r, hx => by
    have ih := execA_cle h fuel
    rw [execA_succ] at hx ⊢
    cases c with
    | seq x y =>
      simp only at hx ⊢
      cases hc : execA P a n fuel x fr st with
      | none => rw [hc] at hx; cases hx
      | some q =>
        rw [hc] at hx
        rw [ih x fr st q hc]
        obtain ⟨ex, fr1, st1⟩ := q
        cases ex with
        | normal => exact ih y fr1 st1 r hx
        | exit id => exact hx
        | ret => exact hx
    | cond x y z =>
      simp only at hx ⊢
      split at hx
      · exact ih y fr st r hx
      · exact ih z fr st r hx
      · cases hx
    | block id y =>
      simp only at hx ⊢
      cases hc : execA P a n fuel y fr st with
      | none => rw [hc] at hx; cases hx
      | some q => rw [hc] at hx; rw [ih y fr st q hc]; exact hx
    | loop y =>
      simp only at hx ⊢
      cases hc : execA P a n fuel y fr st with
      | none => rw [hc] at hx; cases hx
      | some q =>
        rw [hc] at hx
        rw [ih y fr st q hc]
        obtain ⟨ex, fr1, st1⟩ := q
        cases ex with
        | normal => exact ih (.loop y) fr1 st1 r hx
        | exit id => exact hx
        | ret => exact hx
    | scope y => exact ih y fr st r hx
    | region id rops draw =>
      cases draw with
      | false =>
        simp only at hx ⊢
        cases hs : seqA P a n rops rops.toList fr st with
        | none => rw [hs] at hx; cases hx
        | some q => rw [hs] at hx; rw [seqA_cle h _ _ _ _ hs]; exact hx
      | true =>
        simp only at hx ⊢
        cases hs : drawA P a n rops fr st with
        | none => rw [hs] at hx; cases hx
        | some q => rw [hs] at hx; rw [drawA_cle h hs]; exact hx
    | _ => exact hx

theorem bodyA_cle {a b : Callee} (h : CLe a b) {fn : Func} {args : List AV} {loops : Nat} {st : St} {r : AV × St} (hx : bodyA P a loops fn args st = some r) : bodyA P b loops fn args st = some r := by
  unfold bodyA at hx ⊢
  cases hc : fn.body with
  | none => rw [hc] at hx; cases hx
  | some c =>
    rw [hc] at hx
    simp only at hx ⊢
    cases hn : fn.name == "runtime.NumGoroutine" with
    | true => rw [hn] at hx; cases hx
    | false =>
      rw [hn] at hx
      simp only at hx ⊢
      cases hl : Nat.ble args.length fn.ntmps with
      | false => rw [hl] at hx; cases hx
      | true =>
        rw [hl] at hx
        simp only at hx ⊢
        cases he : execA P a fn.ntmps loops c (argsFr 0 args .nil) st with
        | none => rw [he] at hx; cases hx
        | some q => rw [he] at hx; rw [execA_cle h _ _ _ _ _ he]; exact hx

/-- The levels of a callee: each knows no less than the one below. -/
def Dir (L : Nat → Callee) : Prop := ∀ i j, i ≤ j → CLe (L i) (L j)
/-- Whatever T answers, some level answers. -/
def Cov (T : Callee) (L : Nat → Callee) : Prop := ∀ f args st r, T f args st = some r → ∃ k, L k f args st = some r

section
variable {L : Nat → Callee} {T : Callee}
theorem stepA_cov (hT : Cov T L) {nm : Nat} {st : St} {o : Op} {vs : List AV} {r : AV × St} (hx : stepA P T nm st o vs = some r) : ∃ k, stepA P (L k) nm st o vs = some r := by
  cases hk : kindOf P o
  case call =>
    unfold stepA at hx ⊢
    simp only [hk] at hx ⊢
    cases ht : targetA P o vs with
    | none => rw [ht] at hx; cases hx
    | some q =>
      rw [ht] at hx
      obtain ⟨k, h2⟩ := hT _ _ _ _ hx
      exact ⟨k, h2⟩
  all_goals
    unfold stepA at hx ⊢
    simp only [hk] at hx ⊢
    exact ⟨0, hx⟩

theorem seqA_cov (hL : Dir L) (hT : Cov T L) : ∀ (l : List Oper) (fr : Fr) (st : St) (r : Fr × St), seqA P T n ops l fr st = some r → ∃ k, seqA P (L k) n ops l fr st = some r
  | [], fr, st, r, hx => ⟨0, hx⟩
  | o :: l, fr, st, r, hx => by
    rw [seqA_cons] at hx
    split at hx
    · rename_i hw
      split at hx
      case h_2 => cases hx
      rename_i vs hvs
      split at hx
      case h_2 => cases hx
      rename_i v st1 hst
      split at hx
      case h_2 => cases hx
      rename_i fr1 hfr
      obtain ⟨k1, h1⟩ := stepA_cov hT hst
      obtain ⟨k2, h2⟩ := seqA_cov hL hT l _ _ _ hx
      refine ⟨max k1 k2, ?_⟩
      rw [seqA_cons, hw, hvs]
      simp only [stepA_cle (hL _ _ (Nat.le_max_left k1 k2)) h1, hfr]
      exact seqA_cle (hL _ _ (Nat.le_max_right k1 k2)) _ _ _ _ h2
    · rename_i hw
      split at hx
      case h_2 => cases hx
      rename_i fr1 hfr
      obtain ⟨k2, h2⟩ := seqA_cov hL hT l _ _ _ hx
      refine ⟨k2, ?_⟩
      rw [seqA_cons, hw]
      try simp only [hfr]
      exact h2
    · cases hx

theorem traceA_cov (hL : Dir L) (hT : Cov T L) {base : Nat} : ∀ (l : List Oper) (i : Nat) (fr : Fr) (st : St) (r : List Ent × Fr × St), traceA P T n ops base l i fr st = some r → ∃ k, traceA P (L k) n ops base l i fr st = some r
  | [], i, fr, st, r, hx => ⟨0, hx⟩
  | o :: l, i, fr, st, r, hx => by
    rw [traceA_cons] at hx
    split at hx
    · rename_i hw
      split at hx
      case h_2 => cases hx
      rename_i vs hvs
      split at hx
      case h_2 => cases hx
      rename_i v st1 hst
      split at hx
      case h_2 => cases hx
      rename_i fr1 hfr
      split at hx
      case h_2 => cases hx
      rename_i tl q htl
      obtain ⟨k1, h1⟩ := stepA_cov hT hst
      obtain ⟨k2, h2⟩ := traceA_cov hL hT l _ _ _ _ htl
      refine ⟨max k1 k2, ?_⟩
      rw [traceA_cons, hw, hvs]
      simp only [stepA_cle (hL _ _ (Nat.le_max_left k1 k2)) h1, hfr]
      rw [traceA_cle (hL _ _ (Nat.le_max_right k1 k2)) _ _ _ _ _ h2]
      exact hx
    · rename_i hw
      split at hx
      case h_2 => cases hx
      rename_i fr1 hfr
      split at hx
      case h_2 => cases hx
      rename_i tl q htl
      obtain ⟨k2, h2⟩ := traceA_cov hL hT l _ _ _ _ htl
      refine ⟨k2, ?_⟩
      rw [traceA_cons, hw]
      try simp only [hfr]
      rw [h2]
      exact hx
    · cases hx

theorem drawA_cov (hL : Dir L) (hT : Cov T L) {fr : Fr} {st : St} {r : Fr × St} (hx : drawA P T n ops fr st = some r) : ∃ k, drawA P (L k) n ops fr st = some r := by
  unfold drawA at hx
  split at hx
  case h_2 => cases hx
  rename_i hs
  split at hx
  case h_2 => cases hx
  rename_i tr fr1 st1 htr
  obtain ⟨k, h⟩ := traceA_cov hL hT _ _ _ _ _ htr
  refine ⟨k, ?_⟩
  unfold drawA
  rw [hs, h]
  exact hx

theorem execA_cov (hL : Dir L) (hT : Cov T L) : ∀ (fuel : Nat) (c : Code) (fr : Fr) (st : St) (r : AEx × Fr × St), execA P T n fuel c fr st = some r → ∃ k, execA P (L k) n fuel c fr st = some r
  | 0, c, fr, st, r, hx => by rw [execA_zero] at hx; cases hx
  | fuel + 1, c, fr, st, r, hx => by
    have ih := execA_cov hL hT fuel
    rw [execA_succ] at hx
    cases c with
    | seq x y =>
      simp only at hx
      cases hc : execA P T n fuel x fr st with
      | none => rw [hc] at hx; cases hx
      | some q =>
        rw [hc] at hx
        obtain ⟨k1, h1⟩ := ih x fr st q hc
        obtain ⟨ex, fr1, st1⟩ := q
        cases ex with
        | normal =>
          obtain ⟨k2, h2⟩ := ih y fr1 st1 r hx
          refine ⟨max k1 k2, ?_⟩
          rw [execA_succ]
          simp only [execA_cle (hL _ _ (Nat.le_max_left k1 k2)) _ _ _ _ _ h1]
          exact execA_cle (hL _ _ (Nat.le_max_right k1 k2)) _ _ _ _ _ h2
        | exit id => exact ⟨k1, by rw [execA_succ]; simp only [h1]; exact hx⟩
        | ret => exact ⟨k1, by rw [execA_succ]; simp only [h1]; exact hx⟩
    | cond x y z =>
      simp only at hx
      split at hx
      · rename_i hb
        obtain ⟨k, h⟩ := ih y fr st r hx
        exact ⟨k, by rw [execA_succ]; simp only [hb]; exact h⟩
      · rename_i hb
        obtain ⟨k, h⟩ := ih z fr st r hx
        exact ⟨k, by rw [execA_succ]; simp only [hb]; exact h⟩
      · cases hx
    | block id y =>
      simp only at hx
      cases hc : execA P T n fuel y fr st with
      | none => rw [hc] at hx; cases hx
      | some q =>
        rw [hc] at hx
        obtain ⟨k, h⟩ := ih y fr st q hc
        exact ⟨k, by rw [execA_succ]; simp only [h]; exact hx⟩
    | loop y =>
      simp only at hx
      cases hc : execA P T n fuel y fr st with
      | none => rw [hc] at hx; cases hx
      | some q =>
        rw [hc] at hx
        obtain ⟨k1, h1⟩ := ih y fr st q hc
        obtain ⟨ex, fr1, st1⟩ := q
        cases ex with
        | normal =>
          obtain ⟨k2, h2⟩ := ih (.loop y) fr1 st1 r hx
          refine ⟨max k1 k2, ?_⟩
          rw [execA_succ]
          simp only [execA_cle (hL _ _ (Nat.le_max_left k1 k2)) _ _ _ _ _ h1]
          exact execA_cle (hL _ _ (Nat.le_max_right k1 k2)) _ _ _ _ _ h2
        | exit id => exact ⟨k1, by rw [execA_succ]; simp only [h1]; exact hx⟩
        | ret => exact ⟨k1, by rw [execA_succ]; simp only [h1]; exact hx⟩
    | scope y =>
      obtain ⟨k, h⟩ := ih y fr st r hx
      exact ⟨k, by rw [execA_succ]; exact h⟩
    | region id rops draw =>
      cases draw with
      | false =>
        simp only at hx
        cases hs : seqA P T n rops rops.toList fr st with
        | none => rw [hs] at hx; cases hx
        | some q =>
          rw [hs] at hx
          obtain ⟨k, h⟩ := seqA_cov hL hT _ _ _ _ hs
          exact ⟨k, by rw [execA_succ]; simp only [h]; exact hx⟩
      | true =>
        simp only at hx
        cases hs : drawA P T n rops fr st with
        | none => rw [hs] at hx; cases hx
        | some q =>
          rw [hs] at hx
          obtain ⟨k, h⟩ := drawA_cov hL hT hs
          exact ⟨k, by rw [execA_succ]; simp only [h]; exact hx⟩
    | _ => exact ⟨0, by rw [execA_succ]; exact hx⟩

theorem bodyA_cov (hL : Dir L) (hT : Cov T L) {fn : Func} {args : List AV} {loops : Nat} {st : St} {r : AV × St} (hx : bodyA P T loops fn args st = some r) : ∃ k, bodyA P (L k) loops fn args st = some r := by
  unfold bodyA at hx ⊢
  cases hc : fn.body with
  | none => rw [hc] at hx; cases hx
  | some c =>
    rw [hc] at hx
    simp only at hx ⊢
    cases hn : fn.name == "runtime.NumGoroutine" with
    | true => rw [hn] at hx; cases hx
    | false =>
      rw [hn] at hx
      simp only at hx ⊢
      cases hl : Nat.ble args.length fn.ntmps with
      | false => rw [hl] at hx; cases hx
      | true =>
        rw [hl] at hx
        simp only at hx ⊢
        cases he : execA P T fn.ntmps loops c (argsFr 0 args .nil) st with
        | none => rw [he] at hx; cases hx
        | some q =>
          rw [he] at hx
          obtain ⟨k, h⟩ := execA_cov hL hT _ _ _ _ _ he
          exact ⟨k, by rw [h]; exact hx⟩
end

theorem limA_cle {a b : Callee} (h : CLe a b) : CLe (limA P a) (limA P b) := by
  intro f args st r hx
  unfold limA at hx
  split at hx
  · cases hx
  · rename_i fn hf
    split at hx
    · rename_i hex
      injection hx with hx
      obtain ⟨loops, h2⟩ := Classical.choose_spec hex
      rw [hx] at h2
      exact limA_of hf (bodyA_cle h h2)
    · cases hx

noncomputable def lvlA (P : Program) (ext : Callee) : Nat → Callee
  | 0 => ext
  | k + 1 => orA ext (limA P (lvlA P ext k))

theorem orA_right' {a b : Callee} {f : FuncId} {args : List AV} {st : St} {r : AV × St} (h : a f args st = none) (hb : b f args st = some r) : orA a b f args st = some r := by
  unfold orA; rw [h]; exact hb

theorem lvlA_step {ext : Callee} : ∀ k, CLe (lvlA P ext k) (lvlA P ext (k + 1))
  | 0 => fun _ _ _ _ h => orA_left h
  | k + 1 => by
    intro f args st r h
    have ih : CLe (limA P (lvlA P ext k)) (limA P (lvlA P ext (k + 1))) := limA_cle (lvlA_step k)
    show orA ext (limA P (lvlA P ext (k + 1))) f args st = some r
    have h' : orA ext (limA P (lvlA P ext k)) f args st = some r := h
    unfold orA at h' ⊢
    split at h'
    · exact h'
    · exact ih _ _ _ _ h'
theorem lvlA_dir {ext : Callee} : Dir (lvlA P ext) := by
  intro i j hij
  obtain ⟨d, rfl⟩ : ∃ d, j = i + d := ⟨j - i, by omega⟩
  clear hij
  induction d with
  | zero => exact CLe.refl _
  | succ d ih => exact fun f args st r h => lvlA_step (i + d) _ _ _ _ (ih _ _ _ _ h)

open Classical in
noncomputable def topA (P : Program) (ext : Callee) : Callee := fun f args st => if h : ∃ r, ∃ k, lvlA P ext k f args st = some r then some (Classical.choose h) else none

theorem topA_cov {ext : Callee} : Cov (topA P ext) (lvlA P ext) := by
  intro f args st r h
  unfold topA at h
  split at h
  · rename_i hex
    injection h with h
    obtain ⟨k, hk⟩ := Classical.choose_spec hex
    rw [h] at hk
    exact ⟨k, hk⟩
  · cases h
theorem topA_of {ext : Callee} {k : Nat} {f : FuncId} {args : List AV} {st : St} {r : AV × St} (h : lvlA P ext k f args st = some r) : topA P ext f args st = some r := by
  have hex : ∃ r, ∃ k, lvlA P ext k f args st = some r := ⟨r, k, h⟩
  unfold topA
  rw [dif_pos hex]
  obtain ⟨k2, h2⟩ := Classical.choose_spec hex
  have e1 := lvlA_dir _ _ (Nat.le_max_left k k2) _ _ _ _ h
  have e2 := lvlA_dir _ _ (Nat.le_max_right k k2) _ _ _ _ h2
  rw [e1] at e2
  exact e2.symm

theorem lvlA_ok {F : Nat → Prop} {w0 : World} {ext : Callee} (hm : P.follows .mixedOrders = true) (hext : CalleeOk P F w0 ext) : ∀ k, CalleeOk P F w0 (lvlA P ext k)
  | 0 => hext
  | k + 1 => orA_ok hext (limA_ok hm (lvlA_ok hm hext k))
theorem topA_ok {F : Nat → Prop} {w0 : World} {ext : Callee} (hm : P.follows .mixedOrders = true) (hext : CalleeOk P F w0 ext) : CalleeOk P F w0 (topA P ext) := by
  intro f args st r st' h
  obtain ⟨k, hk⟩ := topA_cov _ _ _ _ h
  exact lvlA_ok hm hext k f args st r st' hk

/-- What is told by contract. -/
theorem topA_ext {ext : Callee} {f : FuncId} {args : List AV} {st : St} {r : AV × St} (h : ext f args st = some r) : topA P ext f args st = some r := topA_of (k := 0) h

/-- What a body gives over this callee, the callee gives. -/
theorem topA_body {ext : Callee} {f : FuncId} {fn : Func} {args : List AV} {loops : Nat} {st : St} {r : AV × St} (hf : P.funcs[f]? = some fn) (hno : ext f args st = none) (h : bodyA P (topA P ext) loops fn args st = some r) : topA P ext f args st = some r := by
  obtain ⟨k, hk⟩ := bodyA_cov lvlA_dir topA_cov h
  exact topA_of (k := k + 1) (orA_right' hno (limA_of hf hk))

theorem runE_lvl {ext : Callee} {loops : Nat} : ∀ d, CLe (runE P ext loops d) (lvlA P ext d)
  | 0 => CLe.refl _
  | d + 1 => by
    intro f args st r h
    rw [runE_succ] at h
    show orA ext (limA P (lvlA P ext d)) f args st = some r
    unfold orA
    split at h
    · rename_i q hq; rw [hq]; exact h
    · rename_i hq
      rw [hq]
      split at h
      · cases h
      · rename_i fn hf
        exact limA_of hf (bodyA_cle (runE_lvl d) h)
/-- A closed run. -/
theorem topA_run {ext : Callee} {loops d : Nat} {f : FuncId} {args : List AV} {st : St} {r : AV × St} (h : runE P ext loops d f args st = some r) : topA P ext f args st = some r := topA_of (k := d) (runE_lvl d _ _ _ _ h)

/-- A function's contract out of its body's walk. -/
theorem top_fn {ext : Callee} {f : FuncId} {fn : Func} {c : Code} {args : List AV} {st : St} {R : AV → T ABlk → Nat → Prop} (hf : P.funcs[f]? = some fn) (hno : ext f args st = none) (hc : fn.body = some c) (hn : (fn.name == "runtime.NumGoroutine") = false) (hl : Nat.ble args.length fn.ntmps = true)
    (h : Ek P (topA P ext) fn.ntmps c (argsFr 0 args .nil) st fun ex fr st' => (ex = .normal ∨ ex = .ret) ∧ ∃ v, resultA P fr st' fn.results.toList = some v ∧ ∃ h' m', st' = ⟨h', m'⟩ ∧ R v h' m') :
    ∃ v h' m', topA P ext f args st = some (v, ⟨h', m'⟩) ∧ R v h' m' := by
  obtain ⟨loops, v, st', h1, h', m', rfl, h2⟩ := bodyA_of_ek (R := fun v st' => ∃ h' m', st' = ⟨h', m'⟩ ∧ R v h' m') hc hn hl h
  exact ⟨v, h', m', topA_body hf hno h1, h2⟩
end Go.Xec
