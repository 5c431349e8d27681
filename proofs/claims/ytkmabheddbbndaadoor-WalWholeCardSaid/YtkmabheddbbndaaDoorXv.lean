/- Regions that draw, in which some looks at memory stand beside calls in either order. -/
import Derived.Test.YtkmabheddbbndaaDoorXu
namespace Go.Xec
variable {P : Program} {call : Callee} {n : Nat} {ops : Array Oper} {fr fr' : Fr} {o : Oper} {l : List Oper} {vs : List AV} {v : AV} {base : Nat}

def SeqT (P : Program) (call : Callee) (n : Nat) (ops : Array Oper) (base i : Nat) (l : List Oper) (fr : Fr) (st : St) (K : List Ent → Fr → St → Prop) : Prop := ∃ tr fr' st', traceA P call n ops base l i fr st = some (tr, fr', st') ∧ K tr fr' st'

section
variable {h h' : T ABlk} {m m' i : Nat} {K : List Ent → Fr → St → Prop}
theorem SeqT.nil {st : St} (k : K [] fr st) : SeqT P call n ops base i [] fr st K := ⟨[], fr, st, rfl, k⟩
theorem SeqT.go {b : Bool} (hw : wantedA ops fr o = some b) (hb : b = true) (hv : evalAll (aeval fr) o.op.operands.toList = some vs)
    (hs : stepA P call (base + i) ⟨h, m⟩ o.op vs = some (v, ⟨h', m'⟩)) (hd : putA n fr o.dst v = some fr') (k : SeqT P call n ops base (i + 1) l fr' ⟨h', m'⟩ (fun tr => K (⟨o, true, vs, v, fr, ⟨h, m⟩, ⟨h', m'⟩⟩ :: tr))) :
    SeqT P call n ops base i (o :: l) fr ⟨h, m⟩ K := by
  subst hb
  obtain ⟨tr, f, s, h1, h2⟩ := k
  refine ⟨_, f, s, ?_, h2⟩
  rw [traceA_cons]
  simp only [hw, hv, hs, hd, h1]
theorem SeqT.hop {b : Bool} (hw : wantedA ops fr o = some b) (hb : b = false) (hd : putA n fr o.dst .undef = some fr') (k : SeqT P call n ops base (i + 1) l fr' ⟨h, m⟩ (fun tr => K (⟨o, false, [], .undef, fr, ⟨h, m⟩, ⟨h, m⟩⟩ :: tr))) :
    SeqT P call n ops base i (o :: l) fr ⟨h, m⟩ K := by
  subst hb
  obtain ⟨tr, f, s, h1, h2⟩ := k
  refine ⟨_, f, s, ?_, h2⟩
  rw [traceA_cons]
  simp only [hw, hd, h1]
theorem SeqT.cal {args : List AV} {f : FuncId} {R : AV → T ABlk → Nat → Prop} {b : Bool} (hw : wantedA ops fr o = some b) (hb : b = true)
    (hv : evalAll (aeval fr) o.op.operands.toList = some vs) (hk : kindOf P o.op = .call) (ht : targetA P o.op vs = some (f, args)) (hc : ∃ v h' m', call f args ⟨h, m⟩ = some (v, ⟨h', m'⟩) ∧ R v h' m')
    (k : ∀ v h' m', R v h' m' → ∃ fr', putA n fr o.dst v = some fr' ∧ SeqT P call n ops base (i + 1) l fr' ⟨h', m'⟩ (fun tr => K (⟨o, true, vs, v, fr, ⟨h, m⟩, ⟨h', m'⟩⟩ :: tr))) : SeqT P call n ops base i (o :: l) fr ⟨h, m⟩ K := by
  obtain ⟨v, h', m', h1, h2⟩ := hc
  obtain ⟨fr', h3, h4⟩ := k v h' m' h2
  exact SeqT.go hw hb hv (st_call hk ht h1) h3 h4
theorem SeqT.ex {R : AV → T ABlk → Nat → Prop} {b : Bool} (hw : wantedA ops fr o = some b) (hb : b = true)
    (hv : evalAll (aeval fr) o.op.operands.toList = some vs) (hc : ∃ v h' m', stepA P call (base + i) ⟨h, m⟩ o.op vs = some (v, ⟨h', m'⟩) ∧ R v h' m')
    (k : ∀ v h' m', R v h' m' → ∃ fr', putA n fr o.dst v = some fr' ∧ SeqT P call n ops base (i + 1) l fr' ⟨h', m'⟩ (fun tr => K (⟨o, true, vs, v, fr, ⟨h, m⟩, ⟨h', m'⟩⟩ :: tr))) : SeqT P call n ops base i (o :: l) fr ⟨h, m⟩ K := by
  obtain ⟨v, h', m', h1, h2⟩ := hc
  obtain ⟨fr', h3, h4⟩ := k v h' m' h2
  exact SeqT.go hw hb hv h1 h3 h4
end

/-- An entry without its frame. -/
def Ent.core (e : Ent) : Oper × Bool × List AV × AV × St × St := (e.o, e.wanted, e.vs, e.v, e.pre, e.post)

theorem traceA_le : ∀ (l : List Oper) (i : Nat) (a b a' : Fr) (st st' : St) (tr : List Ent), Le a b → traceA P call n ops base l i a st = some (tr, a', st') → ∃ tr' b', traceA P call n ops base l i b st = some (tr', b', st') ∧ Le a' b' ∧ tr.map Ent.core = tr'.map Ent.core
  | [], i, a, b, a', st, st', tr, h, hx => by
    have hx' : some (([] : List Ent), a, st) = some (tr, a', st') := hx
    injection hx' with hx'; simp only [Prod.mk.injEq] at hx'; obtain ⟨e0, e1, e2⟩ := hx'; subst e0; subst e1; subst e2
    exact ⟨[], b, rfl, h, rfl⟩
  | o :: l, i, a, b, a', st, st', tr, h, hx => by
    rw [traceA_cons] at hx
    split at hx
    · rename_i hw
      split at hx
      case h_2 => cases hx
      rename_i vs hvs
      split at hx
      case h_2 => cases hx
      rename_i v st1 hst
      split at hx
      case h_2 => cases hx
      rename_i fr1 hfr
      split at hx
      case h_2 => cases hx
      rename_i tl q htl
      obtain ⟨q1, q2⟩ := q
      injection hx with hx; simp only [Prod.mk.injEq] at hx; obtain ⟨e0, e1, e2⟩ := hx; subst e0; subst e1; subst e2
      obtain ⟨b1, hb1, hle⟩ := putA_le h hfr
      obtain ⟨tr', b', h1, h2, h3⟩ := traceA_le l _ _ _ _ _ _ _ hle htl
      refine ⟨⟨o, true, vs, v, b, st, st1⟩ :: tr', b', ?_, h2, ?_⟩
      · rw [traceA_cons, wantedA_le h hw, evalAll_le h hvs]
        simp only [hst, hb1, h1]
      · simp only [List.map_cons, h3, Ent.core]
    · rename_i hw
      split at hx
      case h_2 => cases hx
      rename_i fr1 hfr
      split at hx
      case h_2 => cases hx
      rename_i tl q htl
      obtain ⟨q1, q2⟩ := q
      injection hx with hx; simp only [Prod.mk.injEq] at hx; obtain ⟨e0, e1, e2⟩ := hx; subst e0; subst e1; subst e2
      obtain ⟨b1, hb1, hle⟩ := putA_le h hfr
      obtain ⟨tr', b', h1, h2, h3⟩ := traceA_le l _ _ _ _ _ _ _ hle htl
      refine ⟨⟨o, false, [], .undef, b, st, st⟩ :: tr', b', ?_, h2, ?_⟩
      · rw [traceA_cons, wantedA_le h hw]
        simp only [hb1, h1]
      · simp only [List.map_cons, h3, Ent.core]
    · cases hx

theorem dynPair_core {ms : List Nat} {i j : Nat} {a a' b b' : Ent} (ha : a.core = a'.core) (hb : b.core = b'.core) : dynPair P ms i j a b = dynPair P ms i j a' b' := by
  cases a with | mk o1 w1 vs1 v1 f1 p1 q1
  cases a' with | mk o2 w2 vs2 v2 f2 p2 q2
  cases b with | mk o3 w3 vs3 v3 f3 p3 q3
  cases b' with | mk o4 w4 vs4 v4 f4 p4 q4
  simp only [Ent.core, Prod.mk.injEq] at ha hb
  obtain ⟨rfl, rfl, rfl, rfl, rfl, rfl⟩ := ha
  obtain ⟨rfl, rfl, rfl, rfl, rfl, rfl⟩ := hb
  rfl

/-- The look at a region's text, but for some pairs of places. -/
def calmInX (P : Program) (ms : List Nat) (dbt : List (Nat × Nat)) (j : Nat) (b : Oper) : Nat → List Oper → Bool
  | _, [] => true
  | i, a :: l => (calmPair P ms i j a b || dbt.contains (i, j)) && calmInX P ms dbt j b (i + 1) l
def calmGoX (P : Program) (ms : List Nat) (dbt : List (Nat × Nat)) (all : List Oper) : Nat → List Oper → Bool
  | _, [] => true
  | j, b :: l => calmInX P ms dbt j b 0 (all.take j) && calmGoX P ms dbt all (j + 1) l
def calmX (P : Program) (dbt : List (Nat × Nat)) (ops : Array Oper) : Bool := statB P ops && calmGoX P (masks ops.toList []) dbt ops.toList 0 ops.toList

theorem dynPair_of_calm {ms : List Nat} {i j : Nat} {a b : Ent} (hp : calmPair P ms i j a.o b.o = true) : dynPair P ms i j a b = true := by
  unfold calmPair at hp
  unfold dynPair
  split
  · rfl
  · split
    · rfl
    · rename_i hna
      rw [hna, Bool.false_or] at hp
      cases hk : kindOf P a.o.op <;> simp only [hk, isRead, isEff, Bool.true_and, Bool.false_and, Bool.or_false, Bool.false_or] at hp ⊢
      · cases hk2 : kindOf P b.o.op <;> simp_all
      · cases hk2 : kindOf P b.o.op <;> simp_all
      · cases hk2 : kindOf P b.o.op <;> simp_all

theorem dynIn_of_calmX {ms : List Nat} {dbt : List (Nat × Nat)} {j : Nat} {b : Ent} : ∀ (l : List Ent) (lo : List Oper) (i : Nat), l.map (·.o) = lo → calmInX P ms dbt j b.o i lo = true →
    (∀ k a, l[k]? = some a → (i + k, j) ∈ dbt → dynPair P ms (i + k) j a b = true) → dynIn P ms j b i l = true
  | [], lo, i, _, _, _ => rfl
  | a :: l, lo, i, he, h, hd => by
    cases lo with
    | nil => simp at he
    | cons o lo =>
      simp only [List.map_cons, List.cons.injEq] at he
      obtain ⟨e1, e2⟩ := he
      simp only [calmInX, Bool.and_eq_true] at h
      simp only [dynIn, Bool.and_eq_true]
      refine ⟨?_, dynIn_of_calmX l lo (i + 1) e2 h.2 fun k a' hk hm => ?_⟩
      · have hp := h.1
        rw [← e1, Bool.or_eq_true] at hp
        rcases hp with hp | hp
        · exact dynPair_of_calm hp
        · exact hd 0 a rfl (by simpa using hp)
      · rw [show i + 1 + k = i + (k + 1) by omega] at hm ⊢
        exact hd (k + 1) a' (by simpa using hk) hm

theorem dynGo_of_calmX {ms : List Nat} {dbt : List (Nat × Nat)} {all : List Ent} {allo : List Oper} (hall : all.map (·.o) = allo) (hd : ∀ p ∈ dbt, ∀ a b, all[p.1]? = some a → all[p.2]? = some b → dynPair P ms p.1 p.2 a b = true) :
    ∀ (l : List Ent) (lo : List Oper) (j : Nat), l.map (·.o) = lo → (∀ k b, l[k]? = some b → all[j + k]? = some b) → calmGoX P ms dbt allo j lo = true → dynGo P ms all j l = true
  | [], lo, j, _, _, _ => rfl
  | b :: l, lo, j, he, hs, h => by
    cases lo with
    | nil => simp at he
    | cons o lo =>
      simp only [List.map_cons, List.cons.injEq] at he
      obtain ⟨e1, e2⟩ := he
      simp only [calmGoX, Bool.and_eq_true] at h
      simp only [dynGo, Bool.and_eq_true]
      refine ⟨dynIn_of_calmX _ (allo.take j) 0 (by rw [← hall, List.map_take]) (by rw [e1]; exact h.1) fun k a hk hm => ?_, dynGo_of_calmX hall hd l lo (j + 1) e2 (fun k b' hk => ?_) h.2⟩
      · rw [Nat.zero_add] at hm ⊢
        rw [List.getElem?_take] at hk
        split at hk
        · exact hd (k, j) hm a b hk (by simpa using hs 0 b rfl)
        · cases hk
      · have := hs (k + 1) b' (by simpa using hk)
        rw [← this]; congr 1; omega

theorem dyn_rd {ms : List Nat} {i j : Nat} {a b : Ent} {v' : AV} (hka : kindOf P a.o.op = .read) (hr : readA P b.post a.o.op a.vs = some v') (hb : AV.beq v' a.v = true) : dynPair P ms i j a b = true := by
  unfold dynPair
  split
  · rfl
  · split
    · rfl
    · simp only [hka, readSame, hr, hb]
      split <;> rfl

theorem Ek.drt {h : T ABlk} {m : Nat} {Q : AEx → Fr → St → Prop} {id : Nat} (dbt : List (Nat × Nat)) (hc : calmX P dbt ops = true) (k : SeqT P call n ops m 0 ops.toList fr ⟨h, m + ops.size⟩ (fun tr fr' st' =>
    (∀ p ∈ dbt, ∀ a b, tr[p.1]? = some a → tr[p.2]? = some b → dynPair P (masks ops.toList []) p.1 p.2 a b = true) ∧ Q .normal fr' st')) : Ek P call n (.region id ops true) fr ⟨h, m⟩ Q := by
  intro fr1 hle
  obtain ⟨tr, f, s, h1, h2, h3⟩ := k
  obtain ⟨tr', f', h1', hle', hcore⟩ := traceA_le _ _ _ _ _ _ _ _ hle h1
  have hget : ∀ (k : Nat) a', tr'[k]? = some a' → ∃ a, tr[k]? = some a ∧ a.core = a'.core := by
    intro k a' hk
    have := congrArg (fun l => l[k]?) hcore
    simp only [List.getElem?_map, hk, Option.map_some] at this
    cases ht : tr[k]? with
    | none => rw [ht] at this; cases this
    | some a => rw [ht] at this; injection this with this; exact ⟨a, rfl, this⟩
  unfold calmX at hc
  rw [Bool.and_eq_true] at hc
  have ho := (traceA_trace _ _ _ _ _ _ _ h1').opers
  have hdyn := dynGo_of_calmX (P := P) (ms := masks ops.toList []) (dbt := dbt) ho (fun p hp a' b' ha hb => by
    obtain ⟨a, g1, g2⟩ := hget _ _ ha
    obtain ⟨b, g3, g4⟩ := hget _ _ hb
    rw [← dynPair_core g2 g4]; exact h2 p hp a b g1 g3) tr' ops.toList 0 ho (fun k b hk => by rw [Nat.zero_add]; exact hk) hc.2
  have hdraw : drawA P call n ops fr1 ⟨h, m⟩ = some (f', s) := by
    unfold drawA
    rw [hc.1]
    simp only
    rw [h1']
    simp only
    rw [hdyn]
  exact ⟨1, .normal, f', s, by rw [execA_succ]; simp only [hdraw], f, hle', h3⟩
/-- The rules with the text's length told. -/
theorem Ek.drz {h : T ABlk} {m z : Nat} {Q : AEx → Fr → St → Prop} {id : Nat} (hc : calmB P ops = true) (hz : ops.size = z) (k : SeqD P call n ops m 0 ops.toList fr ⟨h, m + z⟩ (fun fr' st' => Q .normal fr' st')) : Ek P call n (.region id ops true) fr ⟨h, m⟩ Q := by
  subst hz; exact Ek.drw hc k
theorem Ek.drtz {h : T ABlk} {m z : Nat} {Q : AEx → Fr → St → Prop} {id : Nat} (dbt : List (Nat × Nat)) (hc : calmX P dbt ops = true) (hz : ops.size = z) (k : SeqT P call n ops m 0 ops.toList fr ⟨h, m + z⟩ (fun tr fr' st' =>
    (∀ p ∈ dbt, ∀ a b, tr[p.1]? = some a → tr[p.2]? = some b → dynPair P (masks ops.toList []) p.1 p.2 a b = true) ∧ Q .normal fr' st')) : Ek P call n (.region id ops true) fr ⟨h, m⟩ Q := by
  subst hz; exact Ek.drt dbt hc k
end Go.Xec
