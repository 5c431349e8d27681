/- Short forms of the steps, with what is looked for by itself. -/
import Derived.Test.YtkmabheddbbndaaDoorXt
namespace Go.Xec
variable {P : Program} {call : Callee} {nm m : Nat} {h h' : T ABlk} {β γ k : Nat} {l l' vs : List AV} {v : AV}

theorem ld {t : Nat} {x : Operand} (ha : aggT P t = some false) (R : Row h β l := by repeat (first | assumption | apply Row.new_eq rfl | apply Row.set_ne (ne := by omega) | apply Row.upd_ne (ne := by omega) | apply Row.upd1 | omega | (focus (simp; done))))
    (hv : l[k]? = some v := by first | rfl | assumption) : stepA P call nm ⟨h, m⟩ (.load t x) [.ptr β k] = some (v, ⟨h, m⟩) := st_ld ha R hv
theorem lds {t z : Nat} {x : Operand} (ha : aggT P t = some true) (hz : sizeOfT P t = some z) (R : Row h β l := by repeat (first | assumption | apply Row.new_eq rfl | apply Row.set_ne (ne := by omega) | apply Row.upd_ne (ne := by omega) | apply Row.upd1 | omega | (focus (simp; done))))
    (hk : k + z ≤ l.length := by first | (simp; done) | omega | (simp [AV.cells]; done) | (simp; omega)) : stepA P call nm ⟨h, m⟩ (.load t x) [.ptr β k] = some (.agg ((l.drop k).take z), ⟨h, m⟩) := st_lds ha hz R hk
theorem strr {t z : Nat} {x y : Operand} (hz : sizeOfT P t = some z) (R : Row h β l := by repeat (first | assumption | apply Row.new_eq rfl | apply Row.set_ne (ne := by omega) | apply Row.upd_ne (ne := by omega) | apply Row.upd1 | omega | (focus (simp; done))))
    (hl : v.cells.length = z := by rfl) (ho : v.cells.all AV.one = true := by rfl) (hk : k + z ≤ l.length := by first | (simp; done) | omega | (simp [AV.cells]; done) | (simp; omega)) :
    stepA P call nm ⟨h, m⟩ (.store t x y) [.ptr β k, v] = some (.undef, ⟨h.upd β k v.cells, m⟩) := st_str hz hl ho R hk
theorem fld {s f off t z β k : Nat} {st : St} {x : Operand} (hf : fieldT P s f = some (off, t, z)) (hz : Nat.beq z 0 = false := by rfl) : stepA P call nm st (.fieldAddr s x f) [.ptr β k] = some (.ptr β (k + off), st) := st_field hf hz
theorem idx {t e z β k len cap z' : Nat} {kd : IntKind} {i : Int} {st : St} {x y : Operand} (hs : sliceElem P t = some e) (hz : sizeOfT P e = some z) (h0 : 0 ≤ i := by omega) (h1 : i < (len : Int) := by omega) :
    stepA P call nm st (.indexAddr t x y) [.sl β k len cap z', .int kd i] = some (.ptr β (k + i.toNat * z), st) := st_index hs hz h0 h1
theorem mkif {t : Nat} {d : TypeDesc} {x : Operand} {a : AV} {st : St} (hu : P.underlying t = some d) (hn : ∀ m, d ≠ .interface m := by intro _; exact nofun) : stepA P call nm st (.makeInterface t x) [a] = some (.ifc t a, st) :=
  st_pure rfl (by
    simp only [pureA, hu])
theorem bs1 {t e z : Nat} {x : Operand} {a : AV} (he : sliceElem P t = some e) (hz : sizeOfT P e = some z) (hzo : zeroOk P e z = true) (hl : a.cells.length = z := by rfl) (h0 : 0 < z := by decide) (hb : z ≤ 16777216 := by decide) :
    stepA P call nm ⟨h, m⟩ (.buildSlice t 1 #[(0, x)]) [a] = some (.sl nm 0 1 1 z, ⟨h.set nm (blkOf a.cells), m⟩) := st_bslice1 he hz hzo hl h0 hb
theorem cv {src dst : Nat} {a b : IntKind} {k : IntKind} {n : Int} {x : Operand} {st : St} (hs : P.underlying src = some (.int a)) (hd : P.underlying dst = some (.int b)) : stepA P call nm st (.convert src dst x) [.int k n] = some (.int b (b.wrap n), st) := st_conv hs hd
theorem add1 {t : Nat} {i : Nat} {x y : Operand} {yt : TypeId} {st : St} (hb : i < 1000000000 := by omega) : stepA P call nm st (.binOp .add t x y yt) [.int .i64 (i : Int), .int .i64 1] = some (.int .i64 ((i + 1 : Nat) : Int), st) :=
  st_add (by rw [IntWalk.i64_in _ (by omega)]; omega)
/-- An error that is none, or is one. -/
theorem neI0 {t : Nat} {d : _} {x y : Operand} {yt : TypeId} {st : St} (hu : P.underlying t = some (.interface d)) (hc : (isConstO x || isConstO y) = true := by rfl) : stepA P call nm st (.binOp .neq t x y yt) [.nili, .nili] = some (.bool false, st) :=
  st_pure rfl (by simp only [pureA, binA, eqA, hu, hc]; rfl)
theorem eqI0 {t : Nat} {d : _} {x y : Operand} {yt : TypeId} {st : St} (hu : P.underlying t = some (.interface d)) (hc : (isConstO x || isConstO y) = true := by rfl) : stepA P call nm st (.binOp .eql t x y yt) [.nili, .nili] = some (.bool true, st) :=
  st_pure rfl (by simp only [pureA, binA, eqA, hu, hc])
theorem neI1 {t u : Nat} {a : AV} {d : _} {x y : Operand} {yt : TypeId} {st : St} (hu : P.underlying t = some (.interface d)) : stepA P call nm st (.binOp .neq t x y yt) [.ifc u a, .nili] = some (.bool true, st) :=
  st_pure rfl (by simp only [pureA, binA, eqA, hu]; rfl)
theorem eqI1 {t u : Nat} {a : AV} {d : _} {x y : Operand} {yt : TypeId} {st : St} (hu : P.underlying t = some (.interface d)) : stepA P call nm st (.binOp .eql t x y yt) [.ifc u a, .nili] = some (.bool false, st) :=
  st_pure rfl (by simp only [pureA, binA, eqA, hu])
theorem eqS1 {t e β o n c z : Nat} {x y : Operand} {yt : TypeId} {st : St} (hu : sliceElem P t = some e) : stepA P call nm st (.binOp .eql t x y yt) [.sl β o n c z, .nils] = some (.bool false, st) :=
  st_pure rfl (by simp only [pureA, binA, eqA, sliceElem_under hu])
theorem bs0 {t e z : Nat} (he : sliceElem P t = some e) (hz : sizeOfT P e = some z) (hzo : zeroOk P e z = true) (h0 : 0 < z := by decide) :
    stepA P call nm ⟨h, m⟩ (.buildSlice t 0 #[]) [] = some (.sl nm 0 0 0 z, ⟨h.set nm (blkOf []), m⟩) := by
  obtain ⟨zero, hzero, hzl⟩ : ∃ zero, zeroT P e = some zero ∧ zero.cells.length = z := by
    unfold zeroOk at hzo
    split at hzo
    · rename_i zero hz0; exact ⟨zero, hz0, Nat.eq_of_beq_eq_true hzo⟩
    · cases hzo
  refine st_alloc rfl ?_
  have hc : (Nat.ble (0 * z) 16777216 && Nat.beq zero.cells.length z && Nat.blt 0 z && Nat.beq ([] : List AV).length (#[] : Array (Nat × Operand)).size) = true := by
    rw [hzl, Nat.beq_refl]
    have h2 : Nat.blt 0 z = true := by simpa using h0
    rw [h2, Nat.ble_eq_true_of_le (by omega : 0 * z ≤ 16777216)]; rfl
  simp only [allocA, he, hz, hzero, hc]
  rfl
theorem Vec.empty {z : Nat} : Vec (h.set β (blkOf [])) z (.sl β 0 0 0 z) [] := Or.inr ⟨β, 0, rfl, by simp, Row.new⟩
/-- A call, by what its function's contract says. -/
theorem SeqR.cal {n : Nat} {ops : Array Oper} {fr : Fr} {o : Oper} {l : List Oper} {vs args : List AV} {f : FuncId} {K : Fr → St → Prop} {R : AV → T ABlk → Nat → Prop} {b : Bool} (hw : wantedA ops fr o = some b) (hb : b = true)
    (hv : evalAll (aeval fr) o.op.operands.toList = some vs) (hk : kindOf P o.op = .call) (ht : targetA P o.op vs = some (f, args)) (hc : ∃ v h' m', call f args ⟨h, m + 1⟩ = some (v, ⟨h', m'⟩) ∧ R v h' m')
    (k : ∀ v h' m', R v h' m' → ∃ fr', putA n fr o.dst v = some fr' ∧ SeqR P call n ops l fr' ⟨h', m'⟩ K) : SeqR P call n ops (o :: l) fr ⟨h, m⟩ K := by
  obtain ⟨v, h', m', h1, h2⟩ := hc
  obtain ⟨fr', h3, h4⟩ := k v h' m' h2
  exact SeqR.go hw hb hv (st_call hk ht h1) h3 h4
theorem SeqD.cal {n : Nat} {ops : Array Oper} {fr : Fr} {o : Oper} {l : List Oper} {vs args : List AV} {f : FuncId} {K : Fr → St → Prop} {R : AV → T ABlk → Nat → Prop} {b : Bool} {base i : Nat} (hw : wantedA ops fr o = some b) (hb : b = true)
    (hv : evalAll (aeval fr) o.op.operands.toList = some vs) (hk : kindOf P o.op = .call) (ht : targetA P o.op vs = some (f, args)) (hc : ∃ v h' m', call f args ⟨h, m⟩ = some (v, ⟨h', m'⟩) ∧ R v h' m')
    (k : ∀ v h' m', R v h' m' → ∃ fr', putA n fr o.dst v = some fr' ∧ SeqD P call n ops base (i + 1) l fr' ⟨h', m'⟩ K) : SeqD P call n ops base i (o :: l) fr ⟨h, m⟩ K := by
  obtain ⟨v, h', m', h1, h2⟩ := hc
  obtain ⟨fr', h3, h4⟩ := k v h' m' h2
  exact SeqD.go hw hb hv (st_call hk ht h1) h3 h4
/-- A step of which only so much is told. -/
theorem SeqR.ex {n : Nat} {ops : Array Oper} {fr : Fr} {o : Oper} {l : List Oper} {vs : List AV} {K : Fr → St → Prop} {R : AV → T ABlk → Nat → Prop} {b : Bool} (hw : wantedA ops fr o = some b) (hb : b = true)
    (hv : evalAll (aeval fr) o.op.operands.toList = some vs) (hc : ∃ v h' m', stepA P call m ⟨h, m + 1⟩ o.op vs = some (v, ⟨h', m'⟩) ∧ R v h' m')
    (k : ∀ v h' m', R v h' m' → ∃ fr', putA n fr o.dst v = some fr' ∧ SeqR P call n ops l fr' ⟨h', m'⟩ K) : SeqR P call n ops (o :: l) fr ⟨h, m⟩ K := by
  obtain ⟨v, h', m', h1, h2⟩ := hc
  obtain ⟨fr', h3, h4⟩ := k v h' m' h2
  exact SeqR.go hw hb hv h1 h3 h4
theorem SeqD.ex {n : Nat} {ops : Array Oper} {fr : Fr} {o : Oper} {l : List Oper} {vs : List AV} {K : Fr → St → Prop} {R : AV → T ABlk → Nat → Prop} {b : Bool} {base i : Nat} (hw : wantedA ops fr o = some b) (hb : b = true)
    (hv : evalAll (aeval fr) o.op.operands.toList = some vs) (hc : ∃ v h' m', stepA P call (base + i) ⟨h, m⟩ o.op vs = some (v, ⟨h', m'⟩) ∧ R v h' m')
    (k : ∀ v h' m', R v h' m' → ∃ fr', putA n fr o.dst v = some fr' ∧ SeqD P call n ops base (i + 1) l fr' ⟨h', m'⟩ K) : SeqD P call n ops base i (o :: l) fr ⟨h, m⟩ K := by
  obtain ⟨v, h', m', h1, h2⟩ := hc
  obtain ⟨fr', h3, h4⟩ := k v h' m' h2
  exact SeqD.go hw hb hv h1 h3 h4

theorem st_mapput_ex {t kt e : Nat} {x y w : Operand} {k : Int} {kvs : List (Int × AV)} (ht : mapT P t = some (kt, e)) (hk : keyOk P kt (.int .i64 k) = true) (M : MapI h β kvs) :
    ∃ v' h' m', stepA P call nm ⟨h, m⟩ (.mapUpdate t x y w) [.mp β, .int .i64 k, v] = some (v', ⟨h', m'⟩) ∧ (v' = .undef ∧ m = m' ∧ MapI h' β (putI k v kvs) ∧ ∀ γ, γ ≠ β → h'.get γ = h.get γ) := by
  obtain ⟨h', h1, h2, h3⟩ := st_mapput (P := P) (call := call) (nm := nm) (m := m) (x := x) (y := y) (w := w) (v := v) ht hk M
  exact ⟨.undef, h', m, h1, rfl, rfl, h2, h3⟩

/-- All names lie below. -/
def Bd (h : T ABlk) (m : Nat) : Prop := ∀ β, m ≤ β → h.get β = none
theorem Bd.mono {m' : Nat} (b : Bd h m) (hm : m ≤ m') : Bd h m' := fun β hβ => b β (by omega)
theorem Bd.lt {b : ABlk} (B : Bd h m) (hb : h.get β = some b) : β < m := by
  by_cases hm : m ≤ β
  · rw [B β hm] at hb; cases hb
  · omega
theorem Bd.row (B : Bd h m) (R : Row h β l) : β < m := by obtain ⟨cs, h1, _⟩ := R; exact B.lt h1
theorem Bd.mapI {kvs : List (Int × AV)} (B : Bd h m) (M : MapI h β kvs) : β < m := by obtain ⟨es, c, h1, _⟩ := M; exact B.lt h1
theorem Bd.set {b : ABlk} {m' : Nat} (B : Bd h m) (h1 : β < m') (h2 : m ≤ m') : Bd (h.set β b) m' := fun γ hγ => by rw [get_set_ne (by omega)]; exact B γ (by omega)
theorem Bd.upd (B : Bd h m) : Bd (h.upd β k vs) m := fun γ hγ => by
  unfold T.upd
  split
  · rename_i n cs hb
    have := B.lt hb
    rw [get_set_ne (by omega)]; exact B γ hγ
  · exact B γ hγ
theorem Bd.of (B : Bd h m) {m' : Nat} (hm : m ≤ m') (hf : ∀ γ, m' ≤ γ → h'.get γ = h.get γ) : Bd h' m' := fun γ hγ => by rw [hf γ hγ]; exact B γ (by omega)

/-- From one state to the next: what is not owned stays; what is owned behind it was owned, or is new. -/
structure Stp (own : Nat → Prop) (h : T ABlk) (m : Nat) (own' : Nat → Prop) (h' : T ABlk) (m' : Nat) : Prop where
  up : m ≤ m'
  same : ∀ γ, γ < m → ¬ own γ → h'.get γ = h.get γ
  sub : ∀ γ, own' γ → own γ ∨ m ≤ γ
theorem Stp.refl {own : Nat → Prop} {m' : Nat} (hm : m ≤ m') : Stp own h m own h m' := ⟨hm, fun _ _ _ => rfl, fun _ q => Or.inl q⟩
theorem Stp.trans {o1 o2 o3 : Nat → Prop} {h1 h2 h3 : T ABlk} {m1 m2 m3 : Nat} (a : Stp o1 h1 m1 o2 h2 m2) (b : Stp o2 h2 m2 o3 h3 m3) : Stp o1 h1 m1 o3 h3 m3 :=
  ⟨Nat.le_trans a.up b.up, fun γ h4 h5 => by
    rw [b.same γ (Nat.lt_of_lt_of_le h4 a.up) (fun q => (a.sub γ q).elim h5 (fun r => by omega))]; exact a.same γ h4 h5,
   fun γ q => (b.sub γ q).elim (fun r => a.sub γ r) (fun r => Or.inr (Nat.le_trans a.up r))⟩
end Go.Xec
