/- Reasoning about the abstract executor with parts unknown: regions without doubtful pairs run as their text stands; code by rules; callees by their contracts. -/
import Derived.Test.YtkmabheddbbndaaDoorXo
namespace Go.Xec
variable {P : Program} {F : Nat → Prop} {w0 : World}

/-- The operations of a region that draws, in the order of the text, without a record. -/
noncomputable def seqD (P : Program) (call : Callee) (n : Nat) (ops : Array Oper) (base : Nat) (l : List Oper) : Nat → Fr → St → Option (Fr × St) :=
  List.rec (fun _ fr st => some (fr, st)) (fun o _ ih i fr st => match wantedA ops fr o with
    | some true => match evalAll (aeval fr) o.op.operands.toList with
      | some vs => match stepA P call (base + i) st o.op vs with
        | some (v, st') => match putA n fr o.dst v with
          | some fr' => ih (i + 1) fr' st'
          | none => none
        | none => none
      | none => none
    | some false => match putA n fr o.dst .undef with
      | some fr' => ih (i + 1) fr' st
      | none => none
    | none => none) l

theorem seqD_nil (call : Callee) (n : Nat) (ops : Array Oper) (base i : Nat) (fr : Fr) (st : St) : seqD P call n ops base [] i fr st = some (fr, st) := rfl
theorem seqD_cons (call : Callee) (n : Nat) (ops : Array Oper) (base i : Nat) (o : Oper) (l : List Oper) (fr : Fr) (st : St) : seqD P call n ops base (o :: l) i fr st = (match wantedA ops fr o with
    | some true => match evalAll (aeval fr) o.op.operands.toList with
      | some vs => match stepA P call (base + i) st o.op vs with
        | some (v, st') => match putA n fr o.dst v with
          | some fr' => seqD P call n ops base l (i + 1) fr' st'
          | none => none
        | none => none
      | none => none
    | some false => match putA n fr o.dst .undef with
      | some fr' => seqD P call n ops base l (i + 1) fr' st
      | none => none
    | none => none) := rfl

theorem traceA_of_seqD {call : Callee} {n : Nat} {ops : Array Oper} {base : Nat} : ∀ (l : List Oper) (i : Nat) (fr : Fr) (st : St) (fr' : Fr) (st' : St),
    seqD P call n ops base l i fr st = some (fr', st') → ∃ tr, traceA P call n ops base l i fr st = some (tr, fr', st')
  | [], i, fr, st, fr', st', h => by
    have h' : some (fr, st) = some (fr', st') := h
    injection h' with h'; simp only [Prod.mk.injEq] at h'; obtain ⟨e1, e2⟩ := h'; subst e1; subst e2
    exact ⟨[], rfl⟩
  | o :: l, i, fr, st, fr', st', h => by
    rw [seqD_cons] at h
    rw [traceA_cons]
    split at h
    · rename_i hw
      rw [hw]
      split at h
      case h_2 => cases h
      rename_i vs hvs
      rw [hvs]
      split at h
      case h_2 => cases h
      rename_i v st1 hst
      simp only [hst]
      split at h
      case h_2 => cases h
      rename_i fr1 hfr
      simp only [hfr]
      obtain ⟨tr, htr⟩ := traceA_of_seqD l _ _ _ _ _ h
      exact ⟨_, by rw [htr]⟩
    · rename_i hw
      rw [hw]
      split at h
      case h_2 => cases h
      rename_i fr1 hfr
      simp only [hfr]
      obtain ⟨tr, htr⟩ := traceA_of_seqD l _ _ _ _ _ h
      exact ⟨_, by rw [htr]⟩
    · cases h

/-- Two operations, i ahead of j in the text: is no look at memory beside an operation that turns it? -/
def calmPair (P : Program) (ms : List Nat) (i j : Nat) (a b : Oper) : Bool :=
  ahead ms i j || !((isRead (kindOf P a.op) && isEff (kindOf P b.op)) || (isEff (kindOf P a.op) && isRead (kindOf P b.op)))

def calmIn (P : Program) (ms : List Nat) (j : Nat) (b : Oper) : Nat → List Oper → Bool
  | _, [] => true
  | i, a :: l => calmPair P ms i j a b && calmIn P ms j b (i + 1) l

def calmGo (P : Program) (ms : List Nat) (all : List Oper) : Nat → List Oper → Bool
  | _, [] => true
  | j, b :: l => calmIn P ms j b 0 (all.take j) && calmGo P ms all (j + 1) l

/-- The whole look at a region without doubtful pairs. -/
def calmB (P : Program) (ops : Array Oper) : Bool := statB P ops && calmGo P (masks ops.toList []) ops.toList 0 ops.toList

theorem dynIn_of_calm {ms : List Nat} {j : Nat} {b : Ent} : ∀ (l : List Ent) (lo : List Oper) (i : Nat), l.map (·.o) = lo → calmIn P ms j b.o i lo = true → dynIn P ms j b i l = true
  | [], lo, i, _, _ => rfl
  | a :: l, lo, i, he, h => by
    cases lo with
    | nil => simp at he
    | cons o lo =>
      simp only [List.map_cons, List.cons.injEq] at he
      obtain ⟨e1, e2⟩ := he
      simp only [calmIn, Bool.and_eq_true] at h
      simp only [dynIn, Bool.and_eq_true]
      refine ⟨?_, dynIn_of_calm l lo (i + 1) e2 h.2⟩
      have hp := h.1
      rw [← e1] at hp
      unfold calmPair at hp
      unfold dynPair
      split
      · rfl
      · split
        · rfl
        · rename_i hna
          rw [hna, Bool.false_or] at hp
          cases hk : kindOf P a.o.op <;> simp only [hk, isRead, isEff, Bool.true_and, Bool.false_and, Bool.or_false, Bool.false_or] at hp ⊢
          · cases hk2 : kindOf P b.o.op <;> simp_all
          · cases hk2 : kindOf P b.o.op <;> simp_all
          · cases hk2 : kindOf P b.o.op <;> simp_all

theorem dynGo_of_calm {ms : List Nat} {all : List Ent} {allo : List Oper} (hall : all.map (·.o) = allo) : ∀ (l : List Ent) (lo : List Oper) (j : Nat), l.map (·.o) = lo → calmGo P ms allo j lo = true → dynGo P ms all j l = true
  | [], lo, j, _, _ => rfl
  | b :: l, lo, j, he, h => by
    cases lo with
    | nil => simp at he
    | cons o lo =>
      simp only [List.map_cons, List.cons.injEq] at he
      obtain ⟨e1, e2⟩ := he
      simp only [calmGo, Bool.and_eq_true] at h
      simp only [dynGo, Bool.and_eq_true]
      refine ⟨dynIn_of_calm _ (allo.take j) 0 (by rw [← hall, List.map_take]) (by rw [e1]; exact h.1), dynGo_of_calm hall l lo (j + 1) e2 h.2⟩

theorem Trace.opers {call : Callee} {n : Nat} {ops : Array Oper} {base : Nat} {i : Nat} {fr fr' : Fr} {st st' : St} {l : List Oper} {tr : List Ent} (h : Trace P call n ops base i fr st l tr fr' st') : tr.map (·.o) = l := by
  induction h with
  | nil => rfl
  | run _ _ _ _ _ ih => simp [ih]
  | skip _ _ _ ih => simp [ih]

theorem drawA_of_seqD {call : Callee} {n : Nat} {ops : Array Oper} {fr fr' : Fr} {st st' : St} (hc : calmB P ops = true) (h : seqD P call n ops st.nxt ops.toList 0 fr ⟨st.heap, st.nxt + ops.size⟩ = some (fr', st')) :
    drawA P call n ops fr st = some (fr', st') := by
  unfold calmB at hc
  rw [Bool.and_eq_true] at hc
  obtain ⟨tr, htr⟩ := traceA_of_seqD _ _ _ _ _ _ h
  have ho := (traceA_trace _ _ _ _ _ _ _ htr).opers
  unfold drawA
  rw [hc.1, htr]
  simp only
  rw [dynGo_of_calm ho tr ops.toList 0 ho hc.2]

theorem execA_mono {call : Callee} {n : Nat} : ∀ (fuel : Nat) (c : Code) (fr : Fr) (st : St) (r : AEx × Fr × St), execA P call n fuel c fr st = some r → execA P call n (fuel + 1) c fr st = some r
  | 0, c, fr, st, r, h => by rw [execA_zero] at h; cases h
  | fuel + 1, c, fr, st, r, h => by
    have ih := execA_mono (call := call) (n := n) fuel
    rw [execA_succ] at h ⊢
    cases c with
    | seq a b =>
      simp only at h ⊢
      cases ha : execA P call n fuel a fr st with
      | none => rw [ha] at h; cases h
      | some q =>
        rw [ha] at h
        rw [ih a fr st q ha]
        obtain ⟨ex, fr1, st1⟩ := q
        cases ex with
        | normal => exact ih b fr1 st1 r h
        | exit id => exact h
        | ret => exact h
    | cond x a b =>
      simp only at h ⊢
      split at h
      · exact ih a fr st r h
      · exact ih b fr st r h
      · cases h
    | block id b =>
      simp only at h ⊢
      cases ha : execA P call n fuel b fr st with
      | none => rw [ha] at h; cases h
      | some q => rw [ha] at h; rw [ih b fr st q ha]; exact h
    | loop b =>
      simp only at h ⊢
      cases ha : execA P call n fuel b fr st with
      | none => rw [ha] at h; cases h
      | some q =>
        rw [ha] at h
        rw [ih b fr st q ha]
        obtain ⟨ex, fr1, st1⟩ := q
        cases ex with
        | normal => exact ih (.loop b) fr1 st1 r h
        | exit id => exact h
        | ret => exact h
    | scope b => exact ih b fr st r h
    | _ => exact h

theorem execA_up {call : Callee} {n fuel : Nat} {c : Code} {fr : Fr} {st : St} {r : AEx × Fr × St} (h : execA P call n fuel c fr st = some r) : ∀ (k : Nat), execA P call n (fuel + k) c fr st = some r
  | 0 => h
  | k + 1 => execA_mono _ _ _ _ _ (execA_up h k)

theorem execA_le {call : Callee} {n fuel fuel' : Nat} {c : Code} {fr : Fr} {st : St} {r : AEx × Fr × St} (h : execA P call n fuel c fr st = some r) (hle : fuel ≤ fuel') : execA P call n fuel' c fr st = some r := by
  have := execA_up h (fuel' - fuel)
  rwa [show fuel + (fuel' - fuel) = fuel' by omega] at this

/-- Code comes to an end with Q. -/
def Ex (P : Program) (call : Callee) (n : Nat) (c : Code) (fr : Fr) (st : St) (Q : AEx → Fr → St → Prop) : Prop := ∃ fuel ex fr' st', execA P call n fuel c fr st = some (ex, fr', st') ∧ Q ex fr' st'

section
variable {call : Callee} {n : Nat} {fr : Fr} {st : St} {Q : AEx → Fr → St → Prop}
theorem Ex.of_exec {c : Code} {fuel : Nat} {ex : AEx} {fr' : Fr} {st' : St} (h : execA P call n fuel c fr st = some (ex, fr', st')) (q : Q ex fr' st') : Ex P call n c fr st Q := ⟨fuel, ex, fr', st', h, q⟩
theorem Ex.mono {c : Code} {Q' : AEx → Fr → St → Prop} (h : Ex P call n c fr st Q) (hq : ∀ ex fr' st', Q ex fr' st' → Q' ex fr' st') : Ex P call n c fr st Q' :=
  let ⟨fuel, ex, fr', st', h, q⟩ := h; ⟨fuel, ex, fr', st', h, hq _ _ _ q⟩
theorem Ex.skip (q : Q .normal fr st) : Ex P call n .skip fr st Q := ⟨1, _, _, _, rfl, q⟩
theorem Ex.ret (q : Q .ret fr st) : Ex P call n .ret fr st Q := ⟨1, _, _, _, rfl, q⟩
theorem Ex.exit {id : Nat} (q : Q (.exit id) fr st) : Ex P call n (.exit id) fr st Q := ⟨1, _, _, _, rfl, q⟩

def AEx.then (next : Fr → St → Prop) (Q : AEx → Fr → St → Prop) : AEx → Fr → St → Prop
  | .normal, fr, st => next fr st
  | ex, fr, st => Q ex fr st

theorem Ex.seq {a b : Code} (h : Ex P call n a fr st (AEx.then (fun fr' st' => Ex P call n b fr' st' Q) Q)) : Ex P call n (.seq a b) fr st Q := by
  obtain ⟨f1, ex, fr1, st1, h1, q1⟩ := h
  cases ex with
  | normal =>
    obtain ⟨f2, ex2, fr2, st2, h2, q2⟩ := q1
    refine ⟨max f1 f2 + 1, ex2, fr2, st2, ?_, q2⟩
    rw [execA_succ]
    simp only [execA_le h1 (Nat.le_max_left f1 f2)]
    exact execA_le h2 (Nat.le_max_right f1 f2)
  | exit id => exact ⟨f1 + 1, _, fr1, st1, by rw [execA_succ]; simp only [h1], q1⟩
  | ret => exact ⟨f1 + 1, _, fr1, st1, by rw [execA_succ]; simp only [h1], q1⟩

theorem Ex.loop {b : Code} (h : Ex P call n b fr st (AEx.then (fun fr' st' => Ex P call n (.loop b) fr' st' Q) Q)) : Ex P call n (.loop b) fr st Q := by
  obtain ⟨f1, ex, fr1, st1, h1, q1⟩ := h
  cases ex with
  | normal =>
    obtain ⟨f2, ex2, fr2, st2, h2, q2⟩ := q1
    refine ⟨max f1 f2 + 1, ex2, fr2, st2, ?_, q2⟩
    rw [execA_succ]
    simp only [execA_le h1 (Nat.le_max_left f1 f2)]
    exact execA_le h2 (Nat.le_max_right f1 f2)
  | exit id => exact ⟨f1 + 1, _, fr1, st1, by rw [execA_succ]; simp only [h1], q1⟩
  | ret => exact ⟨f1 + 1, _, fr1, st1, by rw [execA_succ]; simp only [h1], q1⟩

theorem Ex.cond_true {x : Operand} {a b : Code} (hx : aeval fr x = some (.bool true)) (h : Ex P call n a fr st Q) : Ex P call n (.cond x a b) fr st Q := by
  obtain ⟨f1, ex, fr1, st1, h1, q1⟩ := h
  exact ⟨f1 + 1, ex, fr1, st1, by rw [execA_succ]; simp only [hx]; exact h1, q1⟩
theorem Ex.cond_false {x : Operand} {a b : Code} (hx : aeval fr x = some (.bool false)) (h : Ex P call n b fr st Q) : Ex P call n (.cond x a b) fr st Q := by
  obtain ⟨f1, ex, fr1, st1, h1, q1⟩ := h
  exact ⟨f1 + 1, ex, fr1, st1, by rw [execA_succ]; simp only [hx]; exact h1, q1⟩

theorem Ex.scope {b : Code} (h : Ex P call n b fr st Q) : Ex P call n (.scope b) fr st Q := by
  obtain ⟨f1, ex, fr1, st1, h1, q1⟩ := h
  exact ⟨f1 + 1, ex, fr1, st1, by rw [execA_succ]; exact h1, q1⟩

def AEx.inBlock (id : Nat) (Q : AEx → Fr → St → Prop) : AEx → Fr → St → Prop
  | .exit i, fr, st => if i = id then Q .normal fr st else Q (.exit i) fr st
  | ex, fr, st => Q ex fr st

theorem Ex.block {id : Nat} {b : Code} (h : Ex P call n b fr st (AEx.inBlock id Q)) : Ex P call n (.block id b) fr st Q := by
  obtain ⟨f1, ex, fr1, st1, h1, q1⟩ := h
  cases ex with
  | normal => exact ⟨f1 + 1, _, fr1, st1, by rw [execA_succ]; simp only [h1], q1⟩
  | ret => exact ⟨f1 + 1, _, fr1, st1, by rw [execA_succ]; simp only [h1], q1⟩
  | exit i =>
    by_cases hi : i = id
    · subst hi
      simp only [AEx.inBlock, if_true] at q1
      exact ⟨f1 + 1, .normal, fr1, st1, by rw [execA_succ]; simp only [h1, Nat.beq_refl], q1⟩
    · simp only [AEx.inBlock, hi, if_false] at q1
      have hb : Nat.beq i id = false := by
        cases h : Nat.beq i id with
        | false => rfl
        | true => exact absurd (Nat.eq_of_beq_eq_true h) hi
      exact ⟨f1 + 1, .exit i, fr1, st1, by rw [execA_succ]; simp only [h1, hb], q1⟩

theorem Ex.region {id : Nat} {ops : Array Oper} {fr' : Fr} {st' : St} (h : seqA P call n ops ops.toList fr st = some (fr', st')) (q : Q .normal fr' st') : Ex P call n (.region id ops false) fr st Q :=
  ⟨1, .normal, fr', st', by rw [execA_succ]; simp only [h], q⟩
theorem Ex.draw {id : Nat} {ops : Array Oper} {fr' : Fr} {st' : St} (hc : calmB P ops = true) (h : seqD P call n ops st.nxt ops.toList 0 fr ⟨st.heap, st.nxt + ops.size⟩ = some (fr', st')) (q : Q .normal fr' st') :
    Ex P call n (.region id ops true) fr st Q :=
  ⟨1, .normal, fr', st', by rw [execA_succ]; simp only [drawA_of_seqD hc h], q⟩
end

/-- A body that comes to an end: what it gives. -/
theorem bodyA_of_ex {call : Callee} {fn : Func} {c : Code} {args : List AV} {st : St} {R : AV → St → Prop} (hc : fn.body = some c) (hn : (fn.name == "runtime.NumGoroutine") = false) (hl : Nat.ble args.length fn.ntmps = true)
    (h : Ex P call fn.ntmps c (argsFr 0 args .nil) st fun ex fr st' => (ex = .normal ∨ ex = .ret) ∧ ∃ v, resultA P fr st' fn.results.toList = some v ∧ R v st') :
    ∃ loops v st', bodyA P call loops fn args st = some (v, st') ∧ R v st' := by
  obtain ⟨fuel, ex, fr, st', h1, h2, v, h3, h4⟩ := h
  refine ⟨fuel, v, st', ?_, h4⟩
  unfold bodyA
  simp only [hc, hn, hl, h1]
  rcases h2 with rfl | rfl <;> simp only [h3]

/-- What lies in a heap that only grows stays as it was related. -/
theorem HInv.below {μ : Mu} {h : Nat → Option ABlk} {w w' : World} (k : HInv F w0 μ h w) (hb : RowKit.Below w.heap.size w w') : HInv F w0 μ h w' := by
  refine ⟨fun β b hβ => ?_, k.inj, fun j hj => ?_, k.fsz, Nat.le_trans k.size hb.size, hb.os.trans k.os, hb.tape.trans k.tape, hb.output.trans k.output⟩
  · obtain ⟨r, base, o, h1, h2, h3, h4⟩ := k.blk β b hβ
    exact ⟨r, base, o, h1, by rw [hb.block r (Array.getElem?_eq_some_iff.1 h2).1]; exact h2, h3, h4⟩
  · rw [hb.block j (by have := k.fsz j hj; have := k.size; omega)]; exact k.frame j hj

/-- Callees by contract: one function answers at once. -/
noncomputable def onceA (f0 : FuncId) (v : AV) (call : Callee) : Callee := fun f args st => match Nat.beq f f0 && args.isEmpty with
  | true => some (v, st)
  | false => call f args st

theorem onceA_ok {call : Callee} (hcall : CalleeOk P F w0 call) {f0 : FuncId} {v : AV} {v' : Value} (hv : ∀ μ, VR μ v v') (he : Enters P f0)
    (h0 : ∀ w, Calls P f0 #[] w fun e w' => e = .returned v' ∧ RowKit.Below w.heap.size w w') : CalleeOk P F w0 (onceA f0 v call) := by
  intro f args st r st' h
  unfold onceA at h
  split at h
  · rename_i hf
    rw [Bool.and_eq_true] at hf
    have e1 := Nat.eq_of_beq_eq_true hf.1
    have e2 : args = [] := by simpa using hf.2
    subst e1; subst e2
    injection h with h; simp only [Prod.mk.injEq] at h; obtain ⟨e3, e4⟩ := h; subst e3; subst e4
    refine .inl ⟨he, fun μ w args' k hfr ha => ?_⟩
    have : args' = #[] := by
      apply Array.ext'
      exact VRs_nil.1 ha
    subst this
    refine (h0 w).mono ?_
    rintro e w' ⟨rfl, hb⟩
    exact ⟨v', μ, rfl, hv μ, Went.same (k.below hb) hfr⟩
  · exact hcall f args st r st' h
end Go.Xec
