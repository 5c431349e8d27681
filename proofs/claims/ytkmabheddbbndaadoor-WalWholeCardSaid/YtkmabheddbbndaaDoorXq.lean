/- Rules for going through code operation by operation, with parts unknown. -/
import Derived.Test.YtkmabheddbbndaaDoorXp
namespace Go.Xec
variable {P : Program} {call : Callee} {n : Nat} {ops : Array Oper} {fr fr' : Fr} {st st' : St} {K : Fr → St → Prop} {o : Oper} {l : List Oper} {vs : List AV} {v : AV}

def SeqR (P : Program) (call : Callee) (n : Nat) (ops : Array Oper) (l : List Oper) (fr : Fr) (st : St) (K : Fr → St → Prop) : Prop := ∃ fr' st', seqA P call n ops l fr st = some (fr', st') ∧ K fr' st'
def SeqD (P : Program) (call : Callee) (n : Nat) (ops : Array Oper) (base i : Nat) (l : List Oper) (fr : Fr) (st : St) (K : Fr → St → Prop) : Prop := ∃ fr' st', seqD P call n ops base l i fr st = some (fr', st') ∧ K fr' st'

theorem SeqR.nil (h : K fr st) : SeqR P call n ops [] fr st K := ⟨fr, st, rfl, h⟩
theorem SeqD.nil {base i : Nat} (h : K fr st) : SeqD P call n ops base i [] fr st K := ⟨fr, st, rfl, h⟩

theorem SeqR.step {b : Bool} (hw : wantedA ops fr o = some b) (hb : b = true) (hv : evalAll (aeval fr) o.op.operands.toList = some vs)
    (hs : stepA P call st.nxt ⟨st.heap, st.nxt + 1⟩ o.op vs = some (v, st')) (hd : putA n fr o.dst v = some fr') (h : SeqR P call n ops l fr' st' K) : SeqR P call n ops (o :: l) fr st K := by
  subst hb
  obtain ⟨f, s, h1, h2⟩ := h
  refine ⟨f, s, ?_, h2⟩
  rw [seqA_cons]
  simp only [hw, hv, hs, hd]
  exact h1
theorem SeqR.skip {b : Bool} (hw : wantedA ops fr o = some b) (hb : b = false) (hd : putA n fr o.dst .undef = some fr') (h : SeqR P call n ops l fr' st K) : SeqR P call n ops (o :: l) fr st K := by
  subst hb
  obtain ⟨f, s, h1, h2⟩ := h
  refine ⟨f, s, ?_, h2⟩
  rw [seqA_cons]
  simp only [hw, hd]
  exact h1
theorem SeqD.step {base i : Nat} {b : Bool} (hw : wantedA ops fr o = some b) (hb : b = true) (hv : evalAll (aeval fr) o.op.operands.toList = some vs)
    (hs : stepA P call (base + i) st o.op vs = some (v, st')) (hd : putA n fr o.dst v = some fr') (h : SeqD P call n ops base (i + 1) l fr' st' K) : SeqD P call n ops base i (o :: l) fr st K := by
  subst hb
  obtain ⟨f, s, h1, h2⟩ := h
  refine ⟨f, s, ?_, h2⟩
  rw [seqD_cons]
  simp only [hw, hv, hs, hd]
  exact h1
theorem SeqD.skip {base i : Nat} {b : Bool} (hw : wantedA ops fr o = some b) (hb : b = false) (hd : putA n fr o.dst .undef = some fr') (h : SeqD P call n ops base (i + 1) l fr' st K) : SeqD P call n ops base i (o :: l) fr st K := by
  subst hb
  obtain ⟨f, s, h1, h2⟩ := h
  refine ⟨f, s, ?_, h2⟩
  rw [seqD_cons]
  simp only [hw, hd]
  exact h1

theorem Ex.reg {id : Nat} {Q : AEx → Fr → St → Prop} (h : SeqR P call n ops ops.toList fr st (fun fr' st' => Q .normal fr' st')) : Ex P call n (.region id ops false) fr st Q := by
  obtain ⟨f, s, h1, h2⟩ := h
  exact Ex.region h1 h2
theorem Ex.drw {id : Nat} {Q : AEx → Fr → St → Prop} (hc : calmB P ops = true) (h : SeqD P call n ops st.nxt 0 ops.toList fr ⟨st.heap, st.nxt + ops.size⟩ (fun fr' st' => Q .normal fr' st')) : Ex P call n (.region id ops true) fr st Q := by
  obtain ⟨f, s, h1, h2⟩ := h
  exact Ex.draw hc h1 h2
theorem Ex.condT {x : Operand} {a b : Code} {Q : AEx → Fr → St → Prop} {t : Bool} (hx : aeval fr x = some (.bool t)) (ht : t = true) (h : Ex P call n a fr st Q) : Ex P call n (.cond x a b) fr st Q := by
  subst ht; exact Ex.cond_true hx h
theorem Ex.condF {x : Operand} {a b : Code} {Q : AEx → Fr → St → Prop} {t : Bool} (hx : aeval fr x = some (.bool t)) (ht : t = false) (h : Ex P call n b fr st Q) : Ex P call n (.cond x a b) fr st Q := by
  subst ht; exact Ex.cond_false hx h

section
variable {h h' : T ABlk} {m m' : Nat}
/-- The rules with a state's two parts apart: so that a long walk's terms stay small. -/
theorem SeqR.go {b : Bool} (hw : wantedA ops fr o = some b) (hb : b = true) (hv : evalAll (aeval fr) o.op.operands.toList = some vs)
    (hs : stepA P call m ⟨h, m + 1⟩ o.op vs = some (v, ⟨h', m'⟩)) (hd : putA n fr o.dst v = some fr') (k : SeqR P call n ops l fr' ⟨h', m'⟩ K) : SeqR P call n ops (o :: l) fr ⟨h, m⟩ K :=
  SeqR.step hw hb hv hs hd k
theorem SeqR.hop {b : Bool} (hw : wantedA ops fr o = some b) (hb : b = false) (hd : putA n fr o.dst .undef = some fr') (k : SeqR P call n ops l fr' ⟨h, m⟩ K) : SeqR P call n ops (o :: l) fr ⟨h, m⟩ K :=
  SeqR.skip hw hb hd k
theorem SeqD.go {base i : Nat} {b : Bool} (hw : wantedA ops fr o = some b) (hb : b = true) (hv : evalAll (aeval fr) o.op.operands.toList = some vs)
    (hs : stepA P call (base + i) ⟨h, m⟩ o.op vs = some (v, ⟨h', m'⟩)) (hd : putA n fr o.dst v = some fr') (k : SeqD P call n ops base (i + 1) l fr' ⟨h', m'⟩ K) : SeqD P call n ops base i (o :: l) fr ⟨h, m⟩ K :=
  SeqD.step hw hb hv hs hd k
theorem SeqD.hop {base i : Nat} {b : Bool} (hw : wantedA ops fr o = some b) (hb : b = false) (hd : putA n fr o.dst .undef = some fr') (k : SeqD P call n ops base (i + 1) l fr' ⟨h, m⟩ K) : SeqD P call n ops base i (o :: l) fr ⟨h, m⟩ K :=
  SeqD.skip hw hb hd k
theorem Ex.drw' {id : Nat} {Q : AEx → Fr → St → Prop} (hc : calmB P ops = true) (k : SeqD P call n ops m 0 ops.toList fr ⟨h, m + ops.size⟩ (fun fr' st' => Q .normal fr' st')) : Ex P call n (.region id ops true) fr ⟨h, m⟩ Q :=
  Ex.drw hc k
end

section
variable {nm : Nat} {op : Op}
theorem st_pure (hk : kindOf P op = .pure) (hp : pureA P op vs = some v) : stepA P call nm st op vs = some (v, st) := by
  unfold stepA; rw [hk]; simp only [hp]
theorem st_read (hk : kindOf P op = .read) (hp : readA P st op vs = some v) : stepA P call nm st op vs = some (v, st) := by
  unfold stepA; rw [hk]; simp only [hp]
theorem st_alloc {b : ABlk} (hk : kindOf P op = .alloc) (hp : allocA P nm op vs = some (v, b)) : stepA P call nm st op vs = some (v, ⟨st.heap.set nm b, st.nxt⟩) := by
  unfold stepA; rw [hk]; simp only [hp]
theorem st_eff (hk : kindOf P op = .eff) (hp : effA P st op vs = some (v, st')) : stepA P call nm st op vs = some (v, st') := by
  unfold stepA; rw [hk]; simp only [hp]
theorem st_call {f : FuncId} {args : List AV} (hk : kindOf P op = .call) (ht : targetA P op vs = some (f, args)) (hc : call f args st = some (v, st')) : stepA P call nm st op vs = some (v, st') := by
  unfold stepA; rw [hk]; simp only [ht, hc]

theorem st_field {s f off t z β k : Nat} {x : Operand} (hf : fieldT P s f = some (off, t, z)) (hz : Nat.beq z 0 = false) : stepA P call nm st (.fieldAddr s x f) [.ptr β k] = some (.ptr β (k + off), st) :=
  st_pure rfl (by simp only [pureA, hf, hz])
theorem st_load {t β k m : Nat} {x : Operand} {cs : T AV} (ha : aggT P t = some false) (hh : st.heap.get β = some (.cells m cs)) (hlt : k < m) (hc : cs.get k = some v) :
    stepA P call nm st (.load t x) [.ptr β k] = some (v, st) :=
  st_read rfl (by
    have : Nat.blt k m = true := by simpa using hlt
    simp only [readA, loadA, ha, hh, this, hc])
theorem st_loads {t β k m z : Nat} {x : Operand} {cs : T AV} {l : List AV} (ha : aggT P t = some true) (hz : sizeOfT P t = some z) (hh : st.heap.get β = some (.cells m cs)) (hlt : k + z ≤ m) (hc : readN cs k z = some l) :
    stepA P call nm st (.load t x) [.ptr β k] = some (.agg l, st) :=
  st_read rfl (by
    have : Nat.ble (k + z) m = true := Nat.ble_eq_true_of_le hlt
    simp only [readA, loadA, ha, hz, St.read, hh, this, hc])
theorem st_store {t β k m z : Nat} {x y : Operand} {cs : T AV} (hz : sizeOfT P t = some z) (hl : v.cells.length = z) (ho : v.cells.all AV.one = true) (hh : st.heap.get β = some (.cells m cs)) (hlt : k + z ≤ m) :
    stepA P call nm st (.store t x y) [.ptr β k, v] = some (.undef, ⟨st.heap.set β (.cells m (writeL cs k v.cells)), st.nxt⟩) :=
  st_eff rfl (by
    have h1 : Nat.beq v.cells.length z = true := by rw [hl]; exact Nat.beq_refl z
    have h2 : (Nat.ble (k + v.cells.length) m && v.cells.all AV.one) = true := by
      rw [ho, Bool.and_true, hl]; exact Nat.ble_eq_true_of_le hlt
    simp only [effA, hz, h1, St.write, hh, h2])
theorem st_index {t e z β k len cap z' : Nat} {kd : IntKind} {i : Int} {x y : Operand} (hs : sliceElem P t = some e) (hz : sizeOfT P e = some z) (h0 : 0 ≤ i) (h1 : i < (len : Int)) :
    stepA P call nm st (.indexAddr t x y) [.sl β k len cap z', .int kd i] = some (.ptr β (k + i.toNat * z), st) :=
  st_pure rfl (by
    have hu := sliceElem_under hs
    have hb : (decide (0 ≤ i) && decide (i < (len : Int))) = true := by simp [h0, h1]
    simp only [pureA, indexAddrA, hu, hb, hz])
theorem st_eqnil {t e β k : Nat} {x y : Operand} {yt : TypeId} (hu : P.underlying t = some (.pointer e)) : stepA P call nm st (.binOp .eql t x y yt) [.ptr β k, .nilp] = some (.bool false, st) :=
  st_pure rfl (by simp only [pureA, binA, eqA, hu])
theorem st_nenil {t e β k : Nat} {x y : Operand} {yt : TypeId} (hu : P.underlying t = some (.pointer e)) : stepA P call nm st (.binOp .neq t x y yt) [.ptr β k, .nilp] = some (.bool true, st) :=
  st_pure rfl (by simp only [pureA, binA, eqA, hu]; rfl)
theorem st_add {t : Nat} {k : IntKind} {p q r : Int} {x y : Operand} {yt : TypeId} (h : k.wrap (p + q) = r) : stepA P call nm st (.binOp .add t x y yt) [.int k p, .int k q] = some (.int k r, st) :=
  st_pure rfl (by simp only [pureA, binA, arithA, decide_true, h])
theorem st_sub {t : Nat} {k : IntKind} {p q r : Int} {x y : Operand} {yt : TypeId} (h : k.wrap (p - q) = r) : stepA P call nm st (.binOp .sub t x y yt) [.int k p, .int k q] = some (.int k r, st) :=
  st_pure rfl (by simp only [pureA, binA, arithA, decide_true, h])
theorem st_len {t e : Nat} {x : Operand} {β k len cap z : Nat} (hs : sliceElem P t = some e) :
    stepA P call nm st (.call { callee := .builtin .len, args := #[x], argTypes := #[t] }) [.sl β k len cap z] = some (.int .i64 len, st) := by
  have hu := sliceElem_under hs
  have h0 : (#[t] : Array TypeId)[0]? = some t := rfl
  exact st_pure (by simp only [kindOf, h0, hu]) (by simp only [pureA, h0, lenPA, hu])
theorem st_len_nil {t e : Nat} {x : Operand} (hs : sliceElem P t = some e) :
    stepA P call nm st (.call { callee := .builtin .len, args := #[x], argTypes := #[t] }) [.nils] = some (.int .i64 0, st) := by
  have hu := sliceElem_under hs
  have h0 : (#[t] : Array TypeId)[0]? = some t := rfl
  exact st_pure (by simp only [kindOf, h0, hu]) (by simp only [pureA, h0, lenPA, hu])
end

theorem bodyA_le {fn : Func} {args : List AV} {loops loops' : Nat} {r : AV × St} (h : bodyA P call loops fn args st = some r) (hle : loops ≤ loops') : bodyA P call loops' fn args st = some r := by
  unfold bodyA at h ⊢
  cases hc : fn.body with
  | none => rw [hc] at h; cases h
  | some c =>
    rw [hc] at h
    simp only at h ⊢
    cases hn : fn.name == "runtime.NumGoroutine" with
    | true => rw [hn] at h; cases h
    | false =>
      rw [hn] at h
      simp only at h ⊢
      cases hl : Nat.ble args.length fn.ntmps with
      | false => rw [hl] at h; cases h
      | true =>
        rw [hl] at h
        simp only at h ⊢
        cases hx : execA P call fn.ntmps loops c (argsFr 0 args .nil) st with
        | none => rw [hx] at h; cases h
        | some q => rw [hx] at h; rw [execA_le hx hle]; exact h

open Classical in
/-- What a function gives with as many rounds as it wants. -/
noncomputable def limA (P : Program) (call : Callee) : Callee := fun f args st => match P.funcs[f]? with
  | none => none
  | some fn => if h : ∃ r, ∃ loops, bodyA P call loops fn args st = some r then some (Classical.choose h) else none

theorem limA_of {f : FuncId} {fn : Func} {args : List AV} {loops : Nat} {r : AV × St} (hf : P.funcs[f]? = some fn) (h : bodyA P call loops fn args st = some r) : limA P call f args st = some r := by
  have hex : ∃ r, ∃ loops, bodyA P call loops fn args st = some r := ⟨r, loops, h⟩
  unfold limA
  rw [hf]
  simp only
  rw [dif_pos hex]
  obtain ⟨l2, h2⟩ := Classical.choose_spec hex
  have e1 := bodyA_le h (Nat.le_max_left loops l2)
  have e2 := bodyA_le h2 (Nat.le_max_right loops l2)
  rw [e1] at e2
  exact e2.symm

theorem limA_ok {F : Nat → Prop} {w0 : World} (hm : P.follows .mixedOrders = true) (hcall : CalleeOk P F w0 call) : CalleeOk P F w0 (limA P call) := by
  intro f args st r st' h
  unfold limA at h
  split at h
  · cases h
  · rename_i fn hf
    split at h
    · rename_i hex
      injection h with h
      obtain ⟨loops, h2⟩ := Classical.choose_spec hex
      rw [h] at h2
      exact .inl (bodyA_sound hcall hm hf h2)
    · cases h

/-- The one callee, and where it has no answer the other. -/
noncomputable def orA (a b : Callee) : Callee := fun f args st => match a f args st with
  | some r => some r
  | none => b f args st

theorem orA_ok {F : Nat → Prop} {w0 : World} {a b : Callee} (ha : CalleeOk P F w0 a) (hb : CalleeOk P F w0 b) : CalleeOk P F w0 (orA a b) := by
  intro f args st r st' h
  unfold orA at h
  split at h
  · rename_i q hq
    injection h with h; subst h
    exact ha f args st r st' hq
  · exact hb f args st r st' h

theorem orA_left {a b : Callee} {f : FuncId} {args : List AV} {r : AV × St} (h : a f args st = some r) : orA a b f args st = some r := by
  unfold orA; rw [h]

/-- A callee for some functions alone. -/
noncomputable def onlyA (fs : FuncId → Bool) (a : Callee) : Callee := fun f args st => match fs f with
  | true => a f args st
  | false => none

theorem onlyA_ok {F : Nat → Prop} {w0 : World} {fs : FuncId → Bool} {a : Callee} (ha : CalleeOk P F w0 a) : CalleeOk P F w0 (onlyA fs a) := by
  intro f args st r st' h
  unfold onlyA at h
  split at h
  · exact ha f args st r st' h
  · cases h

end Go.Xec
