/- Blocks of cells as lists; slices; maps with whole numbers as keys: what operations make of them. -/
import Derived.Test.YtkmabheddbbndaaDoorXs
namespace Go.Xec
variable {P : Program} {call : Callee} {nm m : Nat} {h h' : T ABlk}

/-- Block β holds the cells l. -/
def Row (h : T ABlk) (β : Nat) (l : List AV) : Prop := ∃ cs, h.get β = some (.cells l.length cs) ∧ ∀ i v, l[i]? = some v → cs.get i = some v

section
variable {β γ k : Nat} {l l' vs : List AV} {v : AV} {b : ABlk}
theorem Row.of_eq (R : Row h β l) (e : h'.get β = h.get β) : Row h' β l := by
  obtain ⟨cs, h1, h2⟩ := R
  exact ⟨cs, e.trans h1, h2⟩
theorem Row.uniq (R : Row h β l) (R' : Row h β l') : l = l' := by
  obtain ⟨cs, h1, h2⟩ := R
  obtain ⟨cs', h1', h2'⟩ := R'
  rw [h1] at h1'
  injection h1' with h1'
  injection h1' with e1 e2
  subst e2
  apply List.ext_getElem? 
  intro i
  by_cases hi : i < l.length
  · have a := h2 i l[i] (List.getElem?_eq_getElem hi)
    have a' := h2' i l'[i] (List.getElem?_eq_getElem (by omega))
    rw [a] at a'
    injection a' with a'
    rw [List.getElem?_eq_getElem hi, List.getElem?_eq_getElem (by omega), a']
  · rw [List.getElem?_eq_none (by omega), List.getElem?_eq_none (by omega)]
theorem get_set_ne {γ β : Nat} (ne : γ ≠ β) : (h.set β b).get γ = h.get γ := by rw [T.get_set, if_neg ne]
theorem get_set_same {β : Nat} : (h.set β b).get β = some b := by rw [T.get_set, if_pos rfl]
theorem get_del_ne {γ β : Nat} (ne : γ ≠ β) : (h.del β).get γ = h.get γ := by rw [T.get_del, if_neg ne]
theorem Row.set_ne (R : Row h β l) (ne : β ≠ γ) : Row (h.set γ b) β l := R.of_eq (get_set_ne ne)
theorem Row.new : Row (h.set β (blkOf l)) β l :=
  ⟨_, get_set_same, fun i v hi => by
    have hlt : i < l.length := (List.getElem?_eq_some_iff.1 hi).1
    rw [writeL_get, if_pos (by omega)]; exact hi⟩
theorem Row.new_eq (e : β = γ) : Row (h.set γ (blkOf l)) β l := by subst e; exact Row.new

/-- Some cells of a block are written. -/
noncomputable def T.upd (h : T ABlk) (β k : Nat) (vs : List AV) : T ABlk := match h.get β with
  | some (.cells n cs) => h.set β (.cells n (writeL cs k vs))
  | _ => h
theorem upd_ne (ne : γ ≠ β) : (h.upd β k vs).get γ = h.get γ := by
  unfold T.upd
  split
  · exact get_set_ne ne
  · rfl
theorem Row.upd_ne (R : Row h β l) (ne : β ≠ γ) : Row (h.upd γ k vs) β l := R.of_eq (Go.Xec.upd_ne ne)
theorem Row.upd (R : Row h β l) (hk : k + vs.length ≤ l.length) : Row (h.upd β k vs) β (l.take k ++ vs ++ l.drop (k + vs.length)) := by
  obtain ⟨cs, h1, h2⟩ := R
  unfold T.upd
  rw [h1]
  have hlen : (l.take k ++ vs ++ l.drop (k + vs.length)).length = l.length := by simp; omega
  refine ⟨writeL cs k vs, by rw [hlen]; exact get_set_same, fun i v hi => ?_⟩
  rw [writeL_get]
  by_cases hin : k ≤ i ∧ i < k + vs.length
  · rw [if_pos hin]
    rw [List.append_assoc, List.getElem?_append_right (by simp; omega), List.getElem?_append_left (by simp; omega)] at hi
    rw [← hi]; congr 1; simp; omega
  · rw [if_neg hin]
    apply h2
    rw [← hi]
    by_cases hlt : i < k
    · rw [List.append_assoc, List.getElem?_append_left (by simp; omega), List.getElem?_take, if_pos hlt]
    · rw [List.getElem?_append_right (by simp; omega), List.getElem?_drop]
      congr 1; simp; omega
theorem take_set_drop (hk : k < l.length) : l.take k ++ [v] ++ l.drop (k + 1) = l.set k v := by
  rw [List.set_eq_take_append_cons_drop, if_pos hk]; simp
theorem Row.upd1 (R : Row h β l) (hk : k < l.length) : Row (h.upd β k [v]) β (l.set k v) := by
  have := R.upd (vs := [v]) (k := k) (by simp; omega)
  rw [List.length_singleton, take_set_drop hk] at this
  exact this

theorem readN_row {cs : T AV} : ∀ (n o : Nat) (l : List AV), (∀ i v, l[i]? = some v → cs.get i = some v) → o + n ≤ l.length → readN cs o n = some ((l.drop o).take n)
  | 0, o, l, _, _ => by simp [readN]
  | n + 1, o, l, hc, hl => by
    have h1 := hc o l[o] (List.getElem?_eq_getElem (by omega))
    have h2 := readN_row n (o + 1) l hc (by omega)
    simp only [readN, h1, h2]
    rw [List.drop_eq_getElem_cons (by omega : o < l.length), List.take_succ_cons]

theorem st_ld {t : Nat} {x : Operand} (ha : aggT P t = some false) (R : Row h β l) (hv : l[k]? = some v) : stepA P call nm ⟨h, m⟩ (.load t x) [.ptr β k] = some (v, ⟨h, m⟩) := by
  obtain ⟨cs, h1, h2⟩ := R
  exact st_load ha h1 (List.getElem?_eq_some_iff.1 hv).1 (h2 k v hv)
theorem st_lds {t z : Nat} {x : Operand} (ha : aggT P t = some true) (hz : sizeOfT P t = some z) (R : Row h β l) (hk : k + z ≤ l.length) :
    stepA P call nm ⟨h, m⟩ (.load t x) [.ptr β k] = some (.agg ((l.drop k).take z), ⟨h, m⟩) := by
  obtain ⟨cs, h1, h2⟩ := R
  exact st_loads ha hz h1 hk (readN_row _ _ _ h2 hk)
theorem st_str {t z : Nat} {x y : Operand} (hz : sizeOfT P t = some z) (hl : v.cells.length = z) (ho : v.cells.all AV.one = true) (R : Row h β l) (hk : k + z ≤ l.length) :
    stepA P call nm ⟨h, m⟩ (.store t x y) [.ptr β k, v] = some (.undef, ⟨h.upd β k v.cells, m⟩) := by
  obtain ⟨cs, h1, h2⟩ := R
  rw [st_store hz hl ho h1 hk]
  unfold T.upd
  rw [h1]
theorem st_box {t : Nat} {x : Operand} {a : AV} : stepA P call nm ⟨h, m⟩ (.box t x) [a] = some (.ptr nm 0, ⟨h.set nm (blkOf a.cells), m⟩) := st_alloc rfl rfl
theorem st_allocZ {e : Nat} {z : AV} (hz : zeroT P e = some z) (ho : z.cells.all AV.one = true) : stepA P call nm ⟨h, m⟩ (.alloc e) [] = some (.ptr nm 0, ⟨h.set nm (blkOf z.cells), m⟩) :=
  st_alloc rfl (by simp only [allocA, hz, ho])
theorem st_mkmap {t : Nat} : stepA P call nm ⟨h, m⟩ (.makeMap t none) [] = some (.mp nm, ⟨h.set nm (.map [] 0), m⟩) := st_alloc rfl rfl
theorem st_bslice1 {t e z : Nat} {x : Operand} {a : AV} (he : sliceElem P t = some e) (hz : sizeOfT P e = some z) (hzo : zeroOk P e z = true) (hl : a.cells.length = z) (h0 : 0 < z) (hb : z ≤ 16777216) :
    stepA P call nm ⟨h, m⟩ (.buildSlice t 1 #[(0, x)]) [a] = some (.sl nm 0 1 1 z, ⟨h.set nm (blkOf a.cells), m⟩) := by
  obtain ⟨zero, hzero, hzl⟩ : ∃ zero, zeroT P e = some zero ∧ zero.cells.length = z := by
    unfold zeroOk at hzo
    split at hzo
    · rename_i zero hz0; exact ⟨zero, hz0, Nat.eq_of_beq_eq_true hzo⟩
    · cases hzo
  refine st_alloc rfl ?_
  have hc : (Nat.ble (1 * z) 16777216 && Nat.beq zero.cells.length z && Nat.blt 0 z && Nat.beq [a].length (#[(0, x)] : Array (Nat × Operand)).size) = true := by
    rw [hzl, Nat.beq_refl]
    have h1 : Nat.ble (1 * z) 16777216 = true := Nat.ble_eq_true_of_le (by omega)
    have h2 : Nat.blt 0 z = true := by simpa using h0
    rw [h1, h2]; rfl
  have hf : fillA (fun i => some (i * z, z)) (List.replicate 1 zero.cells).flatten ((((#[(0, x)] : Array (Nat × Operand)).toList.map (·.1))).zip [a]) = some a.cells := by
    have hc2 : (Nat.beq a.cells.length z && Nat.ble (0 * z + z) (List.replicate 1 zero.cells).flatten.length) = true := by
      rw [hl, Nat.beq_refl, Bool.true_and]
      exact Nat.ble_eq_true_of_le (by simp [hzl])
    show fillA (fun i => some (i * z, z)) (List.replicate 1 zero.cells).flatten [(0, a)] = _
    simp only [fillA, hc2]
    simp [hzl, hl]
  simp only [allocA, he, hz, hzero, hc, hf]
theorem st_mkslice {t e z by_ : Nat} {x y : Operand} {zero : AV} {k1 k2 : IntKind} {n : Nat} (he : sliceElem P t = some e) (hz : sizeOfT P e = some z) (hby : bytesOfT P e = some by_) (hzero : zeroT P e = some zero) (hzl : zero.cells.length = z) (h0 : 0 < z)
    (hb : by_ ≤ 1000) (hn : n ≤ 1000000) :
    stepA P call nm ⟨h, m⟩ (.makeSlice t x y) [.int k1 n, .int k2 n] = some (.sl nm 0 n n z, ⟨h.set nm (blkOf (List.replicate n zero.cells).flatten), m⟩) := by
  refine st_alloc rfl ?_
  have hm : by_ * n ≤ 1000 * 1000000 := Nat.mul_le_mul hb hn
  have hm' : (by_ : Int) * (n : Int) ≤ 281474976710656 := by
    have : ((by_ * n : Nat) : Int) ≤ ((1000 * 1000000 : Nat) : Int) := Int.ofNat_le.2 hm
    rw [Int.natCast_mul] at this; omega
  have hc : (decide ((0 : Int) ≤ (n : Int)) && decide ((n : Int) ≤ (n : Int)) && decide ((n : Int) < 9223372036854775808) && decide ((by_ : Int) * (n : Int) ≤ 281474976710656) && Nat.beq zero.cells.length z && Nat.blt 0 z) = true := by
    rw [hzl, Nat.beq_refl]
    have h2 : Nat.blt 0 z = true := by simpa using h0
    rw [h2]
    simp only [Bool.and_true, Bool.and_eq_true, decide_eq_true_eq]
    refine ⟨⟨⟨by omega, by omega⟩, by omega⟩, hm'⟩
  simp only [allocA, he, hz, hby, hzero, hc, Int.toNat_natCast]
end

/-- What a slice holds that is all of its block. -/
def Vec (h : T ABlk) (z : Nat) (v : AV) (l : List AV) : Prop := (v = .nils ∧ l = []) ∨ ∃ β n, v = .sl β 0 n n z ∧ l.length = n * z ∧ Row h β l

def AV.base : AV → Option Nat
  | .sl β _ _ _ _ => some β
  | _ => none

section
variable {z : Nat} {v s x : AV} {l new : List AV}
theorem Vec.of_eq (V : Vec h z v l) (e : ∀ β, v.base = some β → h'.get β = h.get β) : Vec h' z v l := by
  obtain hn | ⟨β, n, rfl, h1, h2⟩ := V
  · exact Or.inl hn
  · exact Or.inr ⟨β, n, rfl, h1, h2.of_eq (e β rfl)⟩

theorem elems_row {γ o k c z' : Nat} {lx : List AV} (R : Row h γ lx) (hk : o + k * z ≤ lx.length) : elemsA ⟨h, m⟩ z (.sl γ o k c z') k = some ((lx.drop o).take (k * z)) := by
  obtain ⟨cs, h1, h2⟩ := R
  simp only [elemsA, St.read, h1, Nat.ble_eq_true_of_le hk]
  exact readN_row _ _ _ h2 hk

theorem room_ok {k by_ : Nat} (hb : by_ ≤ 1000) (hk : k ≤ 1000000) : roomA k by_ = true := by
  unfold roomA
  have h1 : (2 * k + 768) * by_ ≤ (2 * 1000000 + 768) * 1000 := Nat.mul_le_mul (by omega) hb
  rw [Nat.ble_eq_true_of_le (by omega : (2 * k + 768) * by_ ≤ 281474976710656)]
  have : Nat.blt k 4611686018427387904 = true := by rw [Nat.blt_eq]; omega
  rw [this]; rfl

theorem appendC_vec {e by_ k : Nat} (V : Vec h z s l) (hz0 : 0 < z) (hb : by_ ≤ 1000) (hnl : new.length = k * z) (ho : new.all AV.one = true) (hzo : zeroOk P e z = true) (hn : l.length + new.length ≤ 1000000) :
    ∃ v' h' m', appendC P ⟨h, m⟩ e by_ z k new s = some (v', ⟨h', m'⟩) ∧ Vec h' z v' (l ++ new) ∧ m ≤ m' ∧ m' ≤ m + 1 ∧ (∀ γ, γ < m ∨ m' ≤ γ → s.base ≠ some γ → h'.get γ = h.get γ) ∧ (v'.base = s.base ∨ v'.base = some m) := by
  have hc : (Nat.beq new.length (k * z) && new.all AV.one && zeroOk P e z) = true := by rw [hnl, Nat.beq_refl, ho, hzo]; rfl
  have hle : ∀ j : Nat, j ≤ j * z := fun j => Nat.le_mul_of_pos_right j hz0
  obtain ⟨rfl, rfl⟩ | ⟨β, n, rfl, h1, R⟩ := V
  · cases k with
    | zero =>
      have : new = [] := by apply List.eq_nil_of_length_eq_zero; simpa using hnl
      subst this
      refine ⟨.nils, h, m, ?_, Or.inl ⟨rfl, rfl⟩, Nat.le_refl _, by omega, fun _ _ _ => rfl, Or.inl rfl⟩
      unfold appendC; rw [hc]
    | succ k =>
      refine ⟨.sl m 0 (k + 1) (k + 1) z, h.set m (blkOf new), m + 1, ?_, Or.inr ⟨m, k + 1, rfl, ?_, ?_⟩, by omega, by omega, fun γ hγ _ => get_set_ne (by omega), Or.inr rfl⟩
      · unfold appendC; rw [hc]
        have hr := room_ok (k := k + 1) hb (by have := hle (k + 1); simp at hn; omega)
        simp only [hr]; rfl
      · simpa using hnl
      · simpa using (Row.new : Row (h.set m (blkOf new)) m new)
  · have hbz : Nat.beq z z = true := Nat.beq_refl z
    have hrow := R
    obtain ⟨cs, g1, g2⟩ := R
    by_cases hfit : n + k ≤ n
    · have hk0 : k = 0 := by omega
      subst hk0
      have : new = [] := by apply List.eq_nil_of_length_eq_zero; simpa using hnl
      subst this
      refine ⟨.sl β 0 n n z, h.upd β (n * z) [], m, ?_, Or.inr ⟨β, n, rfl, by simpa using h1, ?_⟩, Nat.le_refl _, by omega, fun γ _ hγ => upd_ne (fun e => hγ (by subst e; rfl)), Or.inl rfl⟩
      · unfold appendC; rw [hc]
        have hw : St.write ⟨h, m⟩ β (0 + n * z) [] = some ⟨h.upd β (n * z) [], m⟩ := by
          unfold St.write T.upd
          rw [g1]
          have : (Nat.ble (0 + n * z + ([] : List AV).length) l.length && ([] : List AV).all AV.one) = true := by
            rw [ho, Bool.and_true]; exact Nat.ble_eq_true_of_le (by rw [h1]; simp)
          simp only [this]
          rw [Nat.zero_add]
        simp only [hbz, Nat.ble_eq_true_of_le (Nat.le_refl n), hw, Nat.add_zero]
      · have := hrow.upd (k := n * z) (vs := []) (by rw [h1]; simp)
        simpa using this
    · have hcf : Nat.ble (n + k) n = false := by
        cases hb' : Nat.ble (n + k) n with
        | false => rfl
        | true => exact absurd (Nat.le_of_ble_eq_true hb') hfit
      have hr := room_ok (k := n + k) hb (by have := hle n; have := hle k; omega)
      have hfit2 : Nat.ble (0 + n * z) l.length = true := Nat.ble_eq_true_of_le (by rw [h1]; omega)
      have hold : readN cs 0 (n * z) = some l := by
        rw [readN_row _ _ l g2 (by rw [h1]; omega), List.drop_zero, ← h1, List.take_length]
      have hlen : (l ++ new).length = (n + k) * z := by rw [List.length_append, h1, hnl, Nat.add_mul]
      refine ⟨.sl m 0 (n + k) (n + k) z, (h.del β).set m (.cells ((n + k) * z) (growT cs 0 (n * z) l new)), m + 1, ?_, Or.inr ⟨m, n + k, rfl, hlen, ?_⟩, by omega, by omega, fun γ h5 h6 => ?_, Or.inr rfl⟩
      · unfold appendC; rw [hc]
        simp only [hbz, hcf, hr, g1, hfit2, hold]
      · refine ⟨growT cs 0 (n * z) l new, by rw [hlen]; exact get_set_same, fun i v hi => ?_⟩
        show (writeL cs (n * z) new).get i = some v
        rw [writeL_get]
        by_cases hin : n * z ≤ i
        · rw [List.getElem?_append_right (by omega), h1] at hi
          have hlt := (List.getElem?_eq_some_iff.1 hi).1
          rw [if_pos ⟨hin, by omega⟩]; exact hi
        · rw [if_neg (by omega)]
          rw [List.getElem?_append_left (by omega)] at hi
          exact g2 i v hi
      · rw [get_set_ne (by omega), get_del_ne (fun e => h6 (by subst e; rfl))]

/-- The step: elements out of a slice, or a text. -/
theorem st_app {t e by_ t1 e1 k : Nat} {ao bo : Operand} (he : sliceElem P t = some e) (hz : sizeOfT P e = some z) (hby : bytesOfT P e = some by_) (he1 : sliceElem P t1 = some e1) (V : Vec h z s l) (hz0 : 0 < z) (hb : by_ ≤ 1000)
    (hx : lenA x = some k) (hel : elemsA ⟨h, m⟩ z x k = some new) (hnl : new.length = k * z) (ho : new.all AV.one = true) (hzo : zeroOk P e z = true) (hn : l.length + new.length ≤ 1000000) :
    ∃ v' h' m', stepA P call nm ⟨h, m⟩ (.call { callee := .builtin .append, args := #[ao, bo], argTypes := #[t, t1] }) [s, x] = some (v', ⟨h', m'⟩) ∧ Vec h' z v' (l ++ new) ∧ m ≤ m' ∧ m' ≤ m + 1 ∧ (∀ γ, γ < m ∨ m' ≤ γ → s.base ≠ some γ → h'.get γ = h.get γ) ∧ (v'.base = s.base ∨ v'.base = some m) := by
  obtain ⟨v', h', m', q1, q2⟩ := appendC_vec (P := P) (e := e) (by_ := by_) (m := m) V hz0 hb hnl ho hzo hn
  refine ⟨v', h', m', ?_, q2⟩
  have hu1 := sliceElem_under he1
  have h0 : (#[t, t1] : Array TypeId)[0]? = some t := rfl
  have h1 : (#[t, t1] : Array TypeId)[1]? = some t1 := rfl
  refine st_eff rfl ?_
  simp only [effA, h0, h1, hu1, appendA, he, hz, hby, hx, hel]
  exact q1
theorem st_lenV {t e n : Nat} {x : Operand} {st : St} (he : sliceElem P t = some e) (V : Vec h z v l) (hz0 : 0 < z) (hn : l.length = n * z) :
    stepA P call nm st (.call { callee := .builtin .len, args := #[x], argTypes := #[t] }) [v] = some (.int .i64 n, st) := by
  obtain ⟨rfl, rfl⟩ | ⟨β, k, rfl, h1, _⟩ := V
  · have : n = 0 := by
      cases n with
      | zero => rfl
      | succ n => rw [Nat.add_mul] at hn; simp at hn; omega
    subst this
    exact st_len_nil he
  · have : n = k := Nat.eq_of_mul_eq_mul_right hz0 (hn.symm.trans h1)
    subst this
    exact st_len he
end

/-- A map with whole numbers as keys, its entries in the order in which they came. -/
def MapI (h : T ABlk) (β : Nat) (kvs : List (Int × AV)) : Prop := ∃ es clock, h.get β = some (.map es clock) ∧ es.map (fun e => (e.1, e.2.1)) = kvs.map (fun p => (.int .i64 p.1, p.2)) ∧
  es.all (fun e => Nat.blt e.2.2 clock) = true ∧ (es.map (·.2.2)).Nodup ∧ (kvs.map (·.1)).Nodup

def getI (k : Int) : List (Int × AV) → Option AV
  | [] => none
  | p :: l => if p.1 = k then some p.2 else getI k l
def putI (k : Int) (v : AV) : List (Int × AV) → List (Int × AV)
  | [] => [(k, v)]
  | p :: l => if p.1 = k then (k, v) :: l else p :: putI k v l

section
variable {β γ : Nat} {kvs : List (Int × AV)}
theorem MapI.of_eq (M : MapI h β kvs) (e : h'.get β = h.get β) : MapI h' β kvs := by
  obtain ⟨es, clock, h1, h2⟩ := M
  exact ⟨es, clock, e.trans h1, h2⟩
theorem MapI.new : MapI (h.set β (.map [] 0)) β [] := ⟨[], 0, get_set_same, rfl, rfl, List.nodup_nil, List.nodup_nil⟩
theorem MapI.new_eq (e : β = γ) : MapI (h.set γ (.map [] 0)) β [] := by subst e; exact MapI.new

theorem findA_getI (k : Int) : ∀ (es : List (AV × AV × Nat)) (kvs : List (Int × AV)) (i : Nat), es.map (fun e => (e.1, e.2.1)) = kvs.map (fun p => (.int .i64 p.1, p.2)) →
    ∃ r, findA (.int .i64 k) es i = some r ∧ r.map (·.2) = getI k kvs
  | [], kvs, i, h => by
    cases kvs with
    | nil => exact ⟨none, rfl, rfl⟩
    | cons p l => simp at h
  | e :: es, kvs, i, h => by
    cases kvs with
    | nil => simp at h
    | cons p l =>
      simp only [List.map_cons, List.cons.injEq, Prod.mk.injEq] at h
      obtain ⟨⟨e1, e2⟩, e3⟩ := h
      have hk : keyEq (.int .i64 k) e.1 = some (k == p.1) := by rw [e1]; simp [keyEq]
      simp only [findA, hk, getI]
      by_cases hp : p.1 = k
      · rw [if_pos hp, show (k == p.1) = true by simp [hp]]
        exact ⟨_, rfl, by simp [e2]⟩
      · rw [if_neg hp, show (k == p.1) = false by simp; exact fun q => hp q.symm]
        exact findA_getI k es l (i + 1) e3

theorem findA_at (k : Int) : ∀ (es : List (AV × AV × Nat)) (i : Nat) (r : Nat × AV), findA (.int .i64 k) es i = some (some r) → ∃ j e, r.1 = i + j ∧ es[j]? = some e ∧ e.2.1 = r.2 ∧ keyEq (.int .i64 k) e.1 = some true
  | [], i, r, h => by simp [findA] at h
  | e :: es, i, r, h => by
    simp only [findA] at h
    split at h
    · rename_i hk
      injection h with h; injection h with h; subst h
      exact ⟨0, e, rfl, rfl, rfl, hk⟩
    · obtain ⟨j, e', h1, h2⟩ := findA_at k es (i + 1) r h
      exact ⟨j + 1, e', by omega, h2⟩
    · cases h

theorem st_lookup {t kt e : Nat} {x y : Operand} {k : Int} {v : AV} (ht : mapT P t = some (kt, e)) (hk : keyOk P kt (.int .i64 k) = true) (M : MapI h β kvs) (hg : getI k kvs = some v) :
    stepA P call nm ⟨h, m⟩ (.lookup t x y false) [.mp β, .int .i64 k] = some (v, ⟨h, m⟩) := by
  obtain ⟨es, clock, h1, h2, _⟩ := M
  obtain ⟨r, hr, hr2⟩ := findA_getI k es kvs 0 h2
  rw [hg] at hr2
  cases r with
  | none => cases hr2
  | some q =>
    have : q.2 = v := by simpa using hr2
    exact st_read rfl (by simp only [readA, ht, hk, h1, hr, giveA]; simp [this])
theorem st_lookup_ok {t kt e : Nat} {x y : Operand} {k : Int} {v : AV} (ht : mapT P t = some (kt, e)) (hk : keyOk P kt (.int .i64 k) = true) (M : MapI h β kvs) (hg : getI k kvs = some v) :
    stepA P call nm ⟨h, m⟩ (.lookup t x y true) [.mp β, .int .i64 k] = some (.tup [v, .bool true], ⟨h, m⟩) := by
  obtain ⟨es, clock, h1, h2, _⟩ := M
  obtain ⟨r, hr, hr2⟩ := findA_getI k es kvs 0 h2
  rw [hg] at hr2
  cases r with
  | none => cases hr2
  | some q =>
    have : q.2 = v := by simpa using hr2
    exact st_read rfl (by simp only [readA, ht, hk, h1, hr, giveA]; simp [this])
theorem st_lookup_no {t kt e : Nat} {x y : Operand} {k : Int} {z : AV} (ht : mapT P t = some (kt, e)) (hk : keyOk P kt (.int .i64 k) = true) (hz : zeroT P e = some z) (M : MapI h β kvs) (hg : getI k kvs = none) :
    stepA P call nm ⟨h, m⟩ (.lookup t x y true) [.mp β, .int .i64 k] = some (.tup [z, .bool false], ⟨h, m⟩) := by
  obtain ⟨es, clock, h1, h2, _⟩ := M
  obtain ⟨r, hr, hr2⟩ := findA_getI k es kvs 0 h2
  rw [hg] at hr2
  cases r with
  | none => exact st_read rfl (by simp only [readA, ht, hk, h1, hr, giveA, hz]; rfl)
  | some q => cases hr2

theorem getI_none {k : Int} : ∀ {kvs : List (Int × AV)}, getI k kvs = none ↔ k ∉ kvs.map (·.1)
  | [] => by simp [getI]
  | p :: l => by
    simp only [getI, List.map_cons, List.mem_cons, not_or]
    by_cases hp : p.1 = k
    · simp [hp]
    · rw [if_neg hp, getI_none (kvs := l)]
      exact ⟨fun q => ⟨fun e => hp e.symm, q⟩, fun q => q.2⟩
theorem putI_none {k : Int} {v : AV} : ∀ {kvs : List (Int × AV)}, getI k kvs = none → putI k v kvs = kvs ++ [(k, v)]
  | [], _ => rfl
  | p :: l, h => by
    simp only [getI] at h
    split at h
    · cases h
    · rename_i hp
      simp only [putI, if_neg hp, List.cons_append, putI_none h]
theorem putI_keys {k : Int} {v : AV} : ∀ {kvs : List (Int × AV)}, (getI k kvs).isSome → (putI k v kvs).map (·.1) = kvs.map (·.1)
  | [], h => by cases h
  | p :: l, h => by
    simp only [getI] at h
    simp only [putI]
    split at h
    · rename_i hp; rw [if_pos hp]; simp [hp]
    · rename_i hp; rw [if_neg hp]; simp [putI_keys h]

theorem modify_put (k : Int) (v : AV) : ∀ (es : List (AV × AV × Nat)) (kvs : List (Int × AV)) (i : Nat) (r : Nat × AV), es.map (fun e => (e.1, e.2.1)) = kvs.map (fun p => (.int .i64 p.1, p.2)) → findA (.int .i64 k) es i = some (some r) →
    ∃ j, r.1 = i + j ∧ (es.modify j fun e => (.int .i64 k, v, e.2.2)).map (fun e => (e.1, e.2.1)) = (putI k v kvs).map (fun p => (.int .i64 p.1, p.2)) ∧ (es.modify j fun e => (.int .i64 k, v, e.2.2)).map (·.2.2) = es.map (·.2.2)
  | [], kvs, i, r, _, h => by simp [findA] at h
  | e :: es, kvs, i, r, h, hf => by
    cases kvs with
    | nil => simp at h
    | cons p l =>
      simp only [List.map_cons, List.cons.injEq, Prod.mk.injEq] at h
      obtain ⟨⟨e1, e2⟩, e3⟩ := h
      have hk : keyEq (.int .i64 k) e.1 = some (k == p.1) := by rw [e1]; simp [keyEq]
      simp only [findA, hk] at hf
      by_cases hp : p.1 = k
      · rw [show (k == p.1) = true by simp [hp]] at hf
        injection hf with hf; injection hf with hf; subst hf
        refine ⟨0, rfl, ?_, by simp⟩
        simp [putI, hp, e3]
      · rw [show (k == p.1) = false by simp; exact fun q => hp q.symm] at hf
        obtain ⟨j, h1, h2, h3⟩ := modify_put k v es l (i + 1) r e3 hf
        refine ⟨j + 1, by omega, ?_, ?_⟩
        · simp only [putI, if_neg hp, List.modify_succ_cons, List.map_cons, h2, e1, e2]
        · simp only [List.modify_succ_cons, List.map_cons, h3]

theorem st_mapput {t kt e : Nat} {x y w : Operand} {k : Int} {v : AV} (ht : mapT P t = some (kt, e)) (hk : keyOk P kt (.int .i64 k) = true) (M : MapI h β kvs) :
    ∃ h', stepA P call nm ⟨h, m⟩ (.mapUpdate t x y w) [.mp β, .int .i64 k, v] = some (.undef, ⟨h', m⟩) ∧ MapI h' β (putI k v kvs) ∧ ∀ γ, γ ≠ β → h'.get γ = h.get γ := by
  obtain ⟨es, clock, h1, h2, h3, h4, h5⟩ := M
  obtain ⟨r, hr, hr2⟩ := findA_getI k es kvs 0 h2
  cases r with
  | none =>
    have hn : getI k kvs = none := hr2.symm
    refine ⟨h.set β (.map (es ++ [(.int .i64 k, v, clock)]) (clock + 1)), st_eff rfl (by simp only [effA, ht, hk, h1, hr]), ⟨_, _, get_set_same, ?_, ?_, ?_, ?_⟩, fun γ hγ => get_set_ne hγ⟩
    · rw [putI_none hn, List.map_append, List.map_append, h2]; rfl
    · rw [List.all_append, Bool.and_eq_true]
      refine ⟨List.all_eq_true.2 fun q hq => ?_, by simp⟩
      have := List.all_eq_true.1 h3 q hq
      simp only [Nat.blt_eq] at this ⊢; omega
    · rw [List.map_append]
      refine List.nodup_append.2 ⟨h4, by simp, ?_⟩
      intro a ha b hb e
      simp only [List.map_cons, List.map_nil, List.mem_singleton] at hb
      subst hb; subst e
      obtain ⟨q, hq, rfl⟩ := List.mem_map.1 ha
      have := List.all_eq_true.1 h3 q hq
      simp only [Nat.blt_eq] at this; omega
    · rw [putI_none hn, List.map_append]
      refine List.nodup_append.2 ⟨h5, by simp, ?_⟩
      intro a ha b hb e
      simp only [List.map_cons, List.map_nil, List.mem_singleton] at hb
      subst hb; subst e
      exact getI_none.1 hn ha
  | some q =>
    obtain ⟨j, g1, g2, g3⟩ := modify_put k v es kvs 0 q h2 hr
    refine ⟨h.set β (.map (es.modify q.1 fun e => (.int .i64 k, v, e.2.2)) clock), st_eff rfl (by simp only [effA, ht, hk, h1, hr]), ⟨_, _, get_set_same, ?_, ?_, ?_, ?_⟩, fun γ hγ => get_set_ne hγ⟩
    · rw [g1, Nat.zero_add]; exact g2
    · rw [g1, Nat.zero_add]
      have a1 : (es.map (·.2.2)).all (fun n => Nat.blt n clock) = true := by rw [List.all_map]; exact h3
      rw [← g3, List.all_map] at a1; exact a1
    · rw [g1, Nat.zero_add, g3]; exact h4
    · rw [putI_keys (by rw [← hr2]; rfl)]; exact h5
theorem st_lenmap {t k e : Nat} {x : Operand} (hu : P.underlying t = some (.map k e)) (M : MapI h β kvs) :
    stepA P call nm ⟨h, m⟩ (.call { callee := .builtin .len, args := #[x], argTypes := #[t] }) [.mp β] = some (.int .i64 kvs.length, ⟨h, m⟩) := by
  obtain ⟨es, clock, h1, h2, _⟩ := M
  have h0 : (#[t] : Array TypeId)[0]? = some t := rfl
  have hl : es.length = kvs.length := by have := congrArg List.length h2; simpa using this
  exact st_read (by simp only [kindOf, h0, hu]) (by simp only [readA, h0, hu, h1, hl])
end

section
theorem st_conv {src dst : Nat} {a b : IntKind} {k : IntKind} {n : Int} {x : Operand} {st : St} (hs : P.underlying src = some (.int a)) (hd : P.underlying dst = some (.int b)) : stepA P call nm st (.convert src dst x) [.int k n] = some (.int b (b.wrap n), st) :=
  st_pure (by simp only [kindOf, hs]) (by simp only [pureA, hs, hd])
end
end Go.Xec
