/- Going through code with a frame of which only some slots are known: for loops. -/
import Derived.Test.YtkmabheddbbndaaDoorXq
namespace Go.Xec
variable {P : Program} {call : Callee} {n : Nat} {ops : Array Oper} {fr fr' : Fr} {st st' : St} {o : Oper} {l : List Oper} {vs : List AV} {v : AV}

/-- The second frame knows all that the first knows. -/
def Le (a b : Fr) : Prop := ∀ i v, a.get i = some v → b.get i = some v

theorem Le.refl (a : Fr) : Le a a := fun _ _ h => h
theorem Le.trans {a b c : Fr} (h1 : Le a b) (h2 : Le b c) : Le a c := fun i v h => h2 i v (h1 i v h)
theorem Le.nil (b : Fr) : Le .nil b := fun _ _ h => by cases h
theorem Le.put {a b : Fr} {d : Nat} {v : AV} (h : Le a b) (hv : b.get d = some v) : Le (a.set d v) b := by
  intro i x hx
  rw [T.get_set] at hx
  split at hx
  · rename_i he; subst he; injection hx with hx; subst hx; exact hv
  · exact h i x hx
theorem Le.set {a b : Fr} {d : Nat} {v : AV} (h : Le a b) : Le (a.set d v) (b.set d v) := by
  intro i x hx
  rw [T.get_set] at hx ⊢
  split at hx
  · rename_i he; rw [if_pos he]; exact hx
  · rename_i he; rw [if_neg he]; exact h i x hx

theorem aeval_le {a b : Fr} (h : Le a b) {x : Operand} {v : AV} (hx : aeval a x = some v) : aeval b x = some v := by
  cases x with
  | tmp t => exact h t v hx
  | const c => exact hx
  | func f => exact hx
  | global g => exact hx

theorem evalAll_le {a b : Fr} (h : Le a b) : ∀ {l : List Operand} {vs : List AV}, evalAll (aeval a) l = some vs → evalAll (aeval b) l = some vs
  | [], vs, hx => hx
  | x :: l, vs, hx => by
    unfold evalAll at hx ⊢
    split at hx
    · rename_i v vs' h1 h2
      rw [aeval_le h h1, evalAll_le h h2]; exact hx
    · cases hx

theorem wantedA_le {a b : Fr} (h : Le a b) {o : Oper} {w : Bool} (hx : wantedA ops a o = some w) : wantedA ops b o = some w := by
  unfold wantedA at hx ⊢
  split at hx
  · rename_i hg; exact hx
  · rename_i j want hg
    split at hx
    · rename_i hb; exact hx
    · rename_i d hb
      split at hx
      · rename_i q hq
        simp only [h _ _ hq]; exact hx
      · rename_i q hq
        simp only [h _ _ hq]; exact hx
      · cases hx

theorem putA_le {a b a' : Fr} (h : Le a b) {d : Option Tmp} {v : AV} (hx : putA n a d v = some a') : ∃ b', putA n b d v = some b' ∧ Le a' b' := by
  unfold putA at hx ⊢
  split at hx
  · injection hx with hx; subst hx; exact ⟨b, rfl, h⟩
  · rename_i d
    split at hx
    · injection hx with hx; subst hx
      exact ⟨_, rfl, h.set⟩
    · cases hx

theorem seqA_le : ∀ (l : List Oper) (a b a' : Fr) (st st' : St), Le a b → seqA P call n ops l a st = some (a', st') → ∃ b', seqA P call n ops l b st = some (b', st') ∧ Le a' b'
  | [], a, b, a', st, st', h, hx => by
    have hx' : some (a, st) = some (a', st') := hx
    injection hx' with hx'; simp only [Prod.mk.injEq] at hx'; obtain ⟨e1, e2⟩ := hx'; subst e1; subst e2
    exact ⟨b, rfl, h⟩
  | o :: l, a, b, a', st, st', h, hx => by
    rw [seqA_cons] at hx ⊢
    split at hx
    · rename_i hw
      rw [wantedA_le h hw]
      split at hx
      case h_2 => cases hx
      rename_i vs hvs
      rw [evalAll_le h hvs]
      split at hx
      case h_2 => cases hx
      rename_i v st1 hst
      simp only [hst]
      split at hx
      case h_2 => cases hx
      rename_i fr1 hfr
      obtain ⟨b1, hb1, hle⟩ := putA_le h hfr
      simp only [hb1]
      exact seqA_le l _ _ _ _ _ hle hx
    · rename_i hw
      rw [wantedA_le h hw]
      split at hx
      case h_2 => cases hx
      rename_i fr1 hfr
      obtain ⟨b1, hb1, hle⟩ := putA_le h hfr
      simp only [hb1]
      exact seqA_le l _ _ _ _ _ hle hx
    · cases hx

theorem seqD_le {base : Nat} : ∀ (l : List Oper) (i : Nat) (a b a' : Fr) (st st' : St), Le a b → seqD P call n ops base l i a st = some (a', st') → ∃ b', seqD P call n ops base l i b st = some (b', st') ∧ Le a' b'
  | [], i, a, b, a', st, st', h, hx => by
    have hx' : some (a, st) = some (a', st') := hx
    injection hx' with hx'; simp only [Prod.mk.injEq] at hx'; obtain ⟨e1, e2⟩ := hx'; subst e1; subst e2
    exact ⟨b, rfl, h⟩
  | o :: l, i, a, b, a', st, st', h, hx => by
    rw [seqD_cons] at hx ⊢
    split at hx
    · rename_i hw
      rw [wantedA_le h hw]
      split at hx
      case h_2 => cases hx
      rename_i vs hvs
      rw [evalAll_le h hvs]
      split at hx
      case h_2 => cases hx
      rename_i v st1 hst
      simp only [hst]
      split at hx
      case h_2 => cases hx
      rename_i fr1 hfr
      obtain ⟨b1, hb1, hle⟩ := putA_le h hfr
      simp only [hb1]
      exact seqD_le l _ _ _ _ _ _ hle hx
    · rename_i hw
      rw [wantedA_le h hw]
      split at hx
      case h_2 => cases hx
      rename_i fr1 hfr
      obtain ⟨b1, hb1, hle⟩ := putA_le h hfr
      simp only [hb1]
      exact seqD_le l _ _ _ _ _ _ hle hx
    · cases hx

/-- Code comes to an end with Q, out of every frame that knows as much. -/
def Ek (P : Program) (call : Callee) (n : Nat) (c : Code) (fr : Fr) (st : St) (Q : AEx → Fr → St → Prop) : Prop :=
  ∀ fr1, Le fr fr1 → Ex P call n c fr1 st fun ex fr1' st' => ∃ fr', Le fr' fr1' ∧ Q ex fr' st'

section
variable {Q : AEx → Fr → St → Prop} {h : T ABlk} {m : Nat}
theorem Ek.weaken {c : Code} {fr0 : Fr} (hle : Le fr0 fr) (h : Ek P call n c fr0 st Q) : Ek P call n c fr st Q := fun fr1 h1 => h fr1 (hle.trans h1)
theorem Ek.mono {c : Code} {Q' : AEx → Fr → St → Prop} (h : Ek P call n c fr st Q) (hq : ∀ ex fr' st', Q ex fr' st' → Q' ex fr' st') : Ek P call n c fr st Q' :=
  fun fr1 h1 => (h fr1 h1).mono fun _ _ _ ⟨fr', h2, q⟩ => ⟨fr', h2, hq _ _ _ q⟩
theorem Ek.skip (q : Q .normal fr st) : Ek P call n .skip fr st Q := fun _ h1 => Ex.skip ⟨fr, h1, q⟩
theorem Ek.ret (q : Q .ret fr st) : Ek P call n .ret fr st Q := fun _ h1 => Ex.ret ⟨fr, h1, q⟩
theorem Ek.exit {id : Nat} (q : Q (.exit id) fr st) : Ek P call n (.exit id) fr st Q := fun _ h1 => Ex.exit ⟨fr, h1, q⟩
theorem Ek.seq {a b : Code} (k : Ek P call n a fr st (AEx.then (fun fr' st' => Ek P call n b fr' st' Q) Q)) : Ek P call n (.seq a b) fr st Q := by
  intro fr1 hle
  refine Ex.seq ((k fr1 hle).mono ?_)
  rintro ex fr1' st' ⟨fr', hle', q⟩
  cases ex with
  | normal => exact q fr1' hle'
  | exit id => exact ⟨fr', hle', q⟩
  | ret => exact ⟨fr', hle', q⟩
theorem Ek.loop {b : Code} (k : Ek P call n b fr st (AEx.then (fun fr' st' => Ek P call n (.loop b) fr' st' Q) Q)) : Ek P call n (.loop b) fr st Q := by
  intro fr1 hle
  refine Ex.loop ((k fr1 hle).mono ?_)
  rintro ex fr1' st' ⟨fr', hle', q⟩
  cases ex with
  | normal => exact q fr1' hle'
  | exit id => exact ⟨fr', hle', q⟩
  | ret => exact ⟨fr', hle', q⟩
theorem Ek.scope {b : Code} (k : Ek P call n b fr st Q) : Ek P call n (.scope b) fr st Q := fun fr1 hle => Ex.scope (k fr1 hle)
theorem Ek.block {id : Nat} {b : Code} (k : Ek P call n b fr st (AEx.inBlock id Q)) : Ek P call n (.block id b) fr st Q := by
  intro fr1 hle
  refine Ex.block ((k fr1 hle).mono ?_)
  rintro ex fr1' st' ⟨fr', hle', q⟩
  cases ex with
  | normal => exact ⟨fr', hle', q⟩
  | ret => exact ⟨fr', hle', q⟩
  | exit i =>
    unfold AEx.inBlock at q ⊢
    simp only at q ⊢
    split at q
    · rename_i hi; rw [if_pos hi]; exact ⟨fr', hle', q⟩
    · rename_i hi; rw [if_neg hi]; exact ⟨fr', hle', q⟩
theorem Ek.condT {x : Operand} {a b : Code} {t : Bool} (hx : aeval fr x = some (.bool t)) (ht : t = true) (k : Ek P call n a fr st Q) : Ek P call n (.cond x a b) fr st Q :=
  fun fr1 hle => Ex.condT (aeval_le hle hx) ht (k fr1 hle)
theorem Ek.condF {x : Operand} {a b : Code} {t : Bool} (hx : aeval fr x = some (.bool t)) (ht : t = false) (k : Ek P call n b fr st Q) : Ek P call n (.cond x a b) fr st Q :=
  fun fr1 hle => Ex.condF (aeval_le hle hx) ht (k fr1 hle)
theorem Ek.reg {id : Nat} (k : SeqR P call n ops ops.toList fr st (fun fr' st' => Q .normal fr' st')) : Ek P call n (.region id ops false) fr st Q := by
  intro fr1 hle
  obtain ⟨f, s, h1, h2⟩ := k
  obtain ⟨f', h1', hle'⟩ := seqA_le _ _ _ _ _ _ hle h1
  exact Ex.region h1' ⟨f, hle', h2⟩
theorem Ek.drw {id : Nat} (hc : calmB P ops = true) (k : SeqD P call n ops m 0 ops.toList fr ⟨h, m + ops.size⟩ (fun fr' st' => Q .normal fr' st')) : Ek P call n (.region id ops true) fr ⟨h, m⟩ Q := by
  intro fr1 hle
  obtain ⟨f, s, h1, h2⟩ := k
  obtain ⟨f', h1', hle'⟩ := seqD_le _ _ _ _ _ _ _ hle h1
  exact Ex.draw hc h1' ⟨f, hle', h2⟩
end

/-- A loop, by an invariant with a measure. -/
theorem Ek.loop_inv {b : Code} {Q : AEx → Fr → St → Prop} (Inv : Nat → Fr → St → Prop) (step : ∀ d fr st, Inv d fr st → Ek P call n b fr st (AEx.then (fun fr' st' => ∃ d', d' < d ∧ Inv d' fr' st') Q)) :
    ∀ d fr st, Inv d fr st → Ek P call n (.loop b) fr st Q := by
  intro d
  induction d using Nat.strongRecOn with
  | _ d ih =>
    intro fr st hi
    refine Ek.loop ((step d fr st hi).mono ?_)
    intro ex fr' st' q
    cases ex with
    | normal => obtain ⟨d', hd, hi'⟩ := q; exact ih d' hd fr' st' hi'
    | exit id => exact q
    | ret => exact q

section
variable {nm : Nat}
theorem st_pickT {x y z : Operand} {b : Bool} {u v : AV} (h : b = true) : stepA P call nm st (.pick x y z) [.bool b, u, v] = some (u, st) := by
  subst h; exact st_pure rfl rfl
theorem st_pickF {x y z : Operand} {b : Bool} {u v : AV} (h : b = false) : stepA P call nm st (.pick x y z) [.bool b, u, v] = some (v, st) := by
  subst h; exact st_pure rfl rfl
theorem st_nebool {t : Nat} {x y : Operand} {yt : TypeId} {p q : Bool} (hu : P.underlying t = some .bool) : stepA P call nm st (.binOp .neq t x y yt) [.bool p, .bool q] = some (.bool (!(p == q)), st) :=
  st_pure rfl (by simp only [pureA, binA, eqA, hu])
theorem st_eqbool {t : Nat} {x y : Operand} {yt : TypeId} {p q : Bool} (hu : P.underlying t = some .bool) : stepA P call nm st (.binOp .eql t x y yt) [.bool p, .bool q] = some (.bool (p == q), st) :=
  st_pure rfl (by simp only [pureA, binA, eqA, hu])
end

theorem resultsA_le {a b : Fr} (h : Le a b) : ∀ (rs : List ResultVar) (vs : List AV), resultsA P a st rs = some vs → resultsA P b st rs = some vs
  | [], vs, hx => hx
  | .tmp t :: r, vs, hx => by
    unfold resultsA at hx ⊢
    split at hx
    · rename_i v l h1 h2
      rw [h _ _ h1, resultsA_le h _ _ h2]; exact hx
    · cases hx
  | .cell c t :: r, vs, hx => by
    unfold resultsA at hx ⊢
    split at hx
    · rename_i β o h1
      rw [h _ _ h1]
      simp only
      split at hx
      · rename_i v l h2 h3
        rw [h2, resultsA_le h _ _ h3]; exact hx
      · cases hx
    · cases hx

theorem resultA_le {a b : Fr} (h : Le a b) {rs : List ResultVar} {v : AV} (hx : resultA P a st rs = some v) : resultA P b st rs = some v := by
  unfold resultA at hx ⊢
  cases hr : resultsA P a st rs with
  | none => rw [hr] at hx; cases hx
  | some vs => rw [resultsA_le h rs vs hr]; rw [hr] at hx; exact hx

/-- A body that comes to an end: what it gives. -/
theorem bodyA_of_ek {fn : Func} {c : Code} {args : List AV} {R : AV → St → Prop} (hc : fn.body = some c) (hn : (fn.name == "runtime.NumGoroutine") = false) (hl : Nat.ble args.length fn.ntmps = true)
    (h : Ek P call fn.ntmps c (argsFr 0 args .nil) st fun ex fr st' => (ex = .normal ∨ ex = .ret) ∧ ∃ v, resultA P fr st' fn.results.toList = some v ∧ R v st') :
    ∃ loops v st', bodyA P call loops fn args st = some (v, st') ∧ R v st' := by
  refine bodyA_of_ex hc hn hl ((h _ (Le.refl _)).mono ?_)
  rintro ex fr1 st1 ⟨fr', hle, he, v, hv, hr⟩
  exact ⟨he, v, resultA_le hle hv, hr⟩
/-- A call from nothing, out of its body. -/
theorem body_call (hm : P.follows .mixedOrders = true) (hcall : ∀ F w0, CalleeOk P F w0 call) {loops : Nat} {f : FuncId} {fn : Func} {args : List AV} {r : AV} (hf : P.funcs[f]? = some fn) (h : bodyA P call loops fn args ⟨.nil, 0⟩ = some (r, st')) (w : World) (args' : Array Value)
    (hargs : ∀ μ, VRs μ args args'.toList) : Calls P f args' w fun e w' => ∃ v μ', e = .returned v ∧ VR μ' r v ∧ RowKit.Below w.heap.size w w' := by
  let μ : Mu := ⟨fun _ => none, fun _ => 0⟩
  have k : HInv (fun j => j < w.heap.size) w μ (T.nil : T ABlk).get w :=
    ⟨(fun β b hb => by cases hb), (fun β γ r b b' h1 => by cases h1), fun _ _ => rfl, fun _ h => h, Nat.le_refl _, rfl, rfl, rfl⟩
  refine ((bodyA_sound (hcall (fun j => j < w.heap.size) w) hm hf h).2 μ w args' k (fun _ _ => rfl) (hargs μ)).mono ?_
  rintro e w' ⟨v, μ', rfl, h1, h2⟩
  exact ⟨v, μ', rfl, h1, h2.inv.os, h2.inv.tape, h2.inv.output, h2.inv.size, h2.inv.frame⟩
end Go.Xec
