/- Bytes: lychgatelaw1.Full, zbyte.Put, zbyte.Get, by contract. -/
import Derived.Test.YtkmabheddbbndaaDoorXWd5
import Derived.Test.YtkmabheddbbndaaDoorXv
namespace Go.Xec
open Go.Proofs
section
variable {h h' hf : T ABlk} {d L N β m m' : Nat} {cv v : AV} {D : Dk} {own own' : Nat → Prop} {bs b : By}
/-- The bytes of a slice, wherever it lies. -/
def BV (h : T ABlk) (v : AV) (bs : By) : Prop := (v = .nils ∧ bs = []) ∨ ∃ β o n c l, v = .sl β o n c 1 ∧ Row h β l ∧ bs.length = n ∧ ∀ (i : Nat) b, bs[i]? = some b → l[o + i]? = some (.int .u8 b.toNat)
theorem BV.of_eq (V : BV h v bs) (e : ∀ β, v.base = some β → h'.get β = h.get β) : BV h' v bs := by
  obtain q | ⟨β, o, n, c, l, rfl, R, q⟩ := V
  · exact Or.inl q
  · exact Or.inr ⟨β, o, n, c, l, rfl, R.of_eq (e β rfl), q⟩
theorem BV.len {t e : Nat} {x : Operand} {st : St} {nm : Nat} {P : Program} {call : Callee} (V : BV h v bs) (he : sliceElem P t = some e) :
    stepA P call nm st (.call { callee := .builtin .len, args := #[x], argTypes := #[t] }) [v] = some (.int .i64 bs.length, st) := by
  obtain ⟨rfl, rfl⟩ | ⟨β, o, n, c, l, rfl, R, rfl, _⟩ := V
  · exact st_len_nil he
  · exact st_len he
theorem Bd.bv (B : Bd h m) (V : BV h v bs) {γ : Nat} (hγ : v.base = some γ) : γ < m := by
  obtain ⟨rfl, _⟩ | ⟨β, o, n, c, l, rfl, R, _⟩ := V
  · cases hγ
  · injection hγ with hγ; subst hγ; exact B.row R

def fullS (bs : By) (i : Nat) : By := bs.take i ++ List.replicate (512 - i) 0
theorem fullS_len {i : Nat} (h1 : i ≤ bs.length) (h2 : i ≤ 512) : (fullS bs i).length = 512 := by simp [fullS]; omega
theorem fullS_step {i : Nat} (h1 : i < bs.length) (h2 : i < 512) : (cellsB (fullS bs i)).set i (.int .u8 (bs[i].toNat : Int)) = cellsB (fullS bs (i + 1)) := by
  have e : fullS bs (i + 1) = (fullS bs i).set i bs[i] := by
    unfold fullS
    rw [List.take_add_one, List.getElem?_eq_getElem h1, Option.toList_some, List.append_assoc]
    have hi : (bs.take i).length = i := by simp; omega
    rw [List.set_append_right _ _ (by omega), hi, Nat.sub_self]
    congr 1
    rw [show 512 - i = (512 - (i + 1)) + 1 by omega, List.replicate_succ, List.set_cons_zero]
    rfl
  rw [e, cellsB, cellsB, List.map_set]
/-- The sector that Full makes. -/
def fullOf (bs : By) : By := fullS bs (min bs.length 512)
noncomputable def frU (v : AV) (out i : Nat) : Fr := ((T.nil.set 0 v).set 3 (.sl out 0 512 512 1)).set 4 (.int .i64 (i : Int))
theorem w_full (V : BV h v bs) (B : Bd h m) (hbl : bs.length < 1000000000) :
    ∃ v' h' m', TC 12 [v] ⟨h, m⟩ = some (v', ⟨h', m'⟩) ∧ (SecV h' v' (fullOf bs) ∧ Bd h' m' ∧ m ≤ m' ∧ ∀ γ, γ < m → h'.get γ = h.get γ) := by
  refine top_fn Tryd.func12 (by rfl) rfl rfl (by rfl) ?_
  refine Ek.seq ?_
  refine Ek.reg ?_
  refine SeqR.go rfl rfl rfl (st_pure rfl rfl) rfl ?_
  refine SeqR.nil ?_
  refine Ek.seq ?_
  refine Ek.reg ?_
  refine SeqR.go rfl rfl rfl (st_mkslice (n := 512) te33 tz5 tb5 tv5 rfl (by decide) (by decide) (by decide)) rfl ?_
  refine SeqR.go rfl rfl rfl (st_pure rfl rfl) rfl ?_
  refine SeqR.nil ?_
  refine Ek.seq ?_
  refine Ek.seq ?_
  generalize hout : m + 1 = out
  refine Ek.reg ?_
  refine SeqR.go rfl rfl rfl (st_pure rfl rfl) rfl ?_
  refine SeqR.nil ?_
  refine Ek.block ?_
  refine Ek.loop_inv (fun e fr st => ∃ i hk mk, i + e = bs.length ∧ i ≤ 512 ∧ Le (frU v out i) fr ∧ st = ⟨hk, mk⟩ ∧ out < mk ∧ Bd hk mk ∧ Row hk out (cellsB (fullS bs i)) ∧ ∀ γ, γ < m → hk.get γ = h.get γ) ?_ (bs.length) _ _ ⟨0, _, _, by omega, by omega, Le.put (Le.put (Le.put (Le.nil _) rfl) (by subst hout; rfl)) rfl, rfl, by omega, ?_⟩
  rotate_left
  · refine ⟨Bd.set (m' := out + 1) B (by omega) (by omega) |>.mono (by omega), ?_, fun γ hγ => by rw [get_set_ne (by omega)]⟩
    have e : (List.replicate 512 (AV.int .u8 0).cells).flatten = cellsB (fullS bs 0) := by rw [zeroS_cells]; unfold fullS zeroS; rw [List.take_zero, List.nil_append]
    rw [e]; exact Row.new_eq (by omega)
  rintro e fr st ⟨i, hk, mk, hi, hi5, hle, rfl, hom, Bk, Rk, samek⟩
  refine Ek.weaken hle ?_
  clear hle
  have Vk : BV hk v bs := V.of_eq fun γ hγ => samek γ (B.bv V hγ)
  have hcl : (cellsB (fullS bs i)).length = 512 := by rw [cellsB_len, fullS_len (by omega) hi5]
  by_cases hl1 : i < bs.length
  · skip
    refine Ek.seq ?_
    refine Ek.seq ?_
    refine Ek.reg ?_
    refine SeqR.go rfl rfl rfl (st_pure rfl rfl) rfl ?_
    refine SeqR.go rfl rfl rfl (st_pure rfl rfl) rfl ?_
    refine SeqR.go rfl rfl rfl (BV.len Vk te33) rfl ?_
    refine SeqR.go rfl rfl rfl (st_pure rfl rfl) rfl ?_
    refine SeqR.go rfl rfl rfl (st_pure rfl rfl) rfl ?_
    refine SeqR.go rfl (by simp [hl1]) rfl (st_pure rfl rfl) rfl ?_
    refine SeqR.go rfl (by simp [hl1]) rfl (st_pure rfl rfl) rfl ?_
    refine SeqR.go rfl rfl rfl (st_pickT (by simp [hl1])) rfl ?_
    refine SeqR.nil ?_
    by_cases hl2 : i < 512
    · refine Ek.condT rfl (by simp; omega) ?_
      refine Ek.skip ?_
      refine Ek.seq ?_
      refine Ek.block ?_
      obtain ⟨rfl, rfl⟩ | ⟨β, o, n, c, l, rfl, R, rfl, hget⟩ := Vk
      · simp at hl1
      have hb0 := hget i _ (List.getElem?_eq_getElem hl1)
      have hb1 : l[o + (i : Int).toNat * 1]? = some (.int .u8 (bs[i].toNat : Int)) := by simpa using hb0
      refine Ek.reg ?_
      refine SeqR.go rfl rfl rfl (st_pure rfl rfl) rfl ?_
      refine SeqR.go rfl rfl rfl (st_pure rfl rfl) rfl ?_
      refine SeqR.go rfl rfl rfl (st_pure rfl rfl) rfl ?_
      refine SeqR.go rfl rfl rfl (st_pure rfl rfl) rfl ?_
      refine SeqR.go rfl rfl rfl (idx te33 tz5) rfl ?_
      refine SeqR.go rfl rfl rfl (ld ta5) rfl ?_
      refine SeqR.go rfl rfl rfl (idx te33 tz5) rfl ?_
      refine SeqR.go rfl rfl rfl (strr tz5) rfl ?_
      refine SeqR.nil ?_
      refine Ek.reg ?_
      refine SeqR.go rfl rfl rfl (st_pure rfl rfl) rfl ?_
      refine SeqR.go rfl rfl rfl add1 rfl ?_
      refine SeqR.go rfl rfl rfl (st_pure rfl rfl) rfl ?_
      refine SeqR.nil ?_
      refine ⟨e - 1, by omega, i + 1, _, _, by omega, by omega, Le.put (Le.put (Le.put (Le.nil _) rfl) rfl) rfl, rfl, by omega, (Bk.upd).mono (by omega), ?_, fun γ hγ => by rw [upd_ne (by omega), samek γ hγ]⟩
      rw [← fullS_step hl1 (by omega)]
      simpa [AV.cells] using Rk.upd1 (k := 0 + (i : Int).toNat * 1) (v := .int .u8 (bs[i].toNat : Int)) (by rw [hcl]; simp; omega)
    · refine Ek.condF rfl (by simp; omega) ?_
      refine Ek.exit ?_
      simp only [AEx.then, AEx.inBlock, if_true]
      refine Ek.seq ?_
      have hstop : ¬ i < bs.length ∨ ¬ i < 512 := by omega
      have hif : fullS bs i = fullOf bs := by
        unfold fullOf
        rcases hstop with hs | hs
        · rw [Nat.min_eq_left (by omega), show i = bs.length by omega]
        · rw [Nat.min_eq_right (by omega), show i = 512 by omega]
      refine Ek.reg ?_
      refine SeqR.go rfl rfl rfl (st_pure rfl rfl) rfl ?_
      refine SeqR.go rfl rfl rfl (st_pure rfl rfl) rfl ?_
      refine SeqR.nil ?_
      refine Ek.ret ⟨Or.inr rfl, _, rfl, _, _, rfl, ⟨out, 512, rfl, ⟨[], by rw [List.append_nil, ← hif]; exact Rk, rfl⟩, by rw [← hif]; exact fullS_len (by omega) hi5, Nat.le_refl _⟩, Bk.mono (by omega), by omega, samek⟩
  · skip
    refine Ek.seq ?_
    refine Ek.seq ?_
    refine Ek.reg ?_
    refine SeqR.go rfl rfl rfl (st_pure rfl rfl) rfl ?_
    refine SeqR.go rfl rfl rfl (st_pure rfl rfl) rfl ?_
    refine SeqR.go rfl rfl rfl (BV.len Vk te33) rfl ?_
    refine SeqR.go rfl rfl rfl (st_pure rfl rfl) rfl ?_
    refine SeqR.go rfl rfl rfl (st_pure rfl rfl) rfl ?_
    refine SeqR.hop rfl (by simp [hl1]) rfl ?_
    refine SeqR.hop rfl (by simp [hl1]) rfl ?_
    refine SeqR.go rfl rfl rfl (st_pickF (by simp [hl1])) rfl ?_
    refine SeqR.nil ?_
    refine Ek.condF rfl (by simp) ?_
    refine Ek.exit ?_
    simp only [AEx.then, AEx.inBlock, if_true]
    refine Ek.seq ?_
    have hstop : ¬ i < bs.length ∨ ¬ i < 512 := by omega
    have hif : fullS bs i = fullOf bs := by
      unfold fullOf
      rcases hstop with hs | hs
      · rw [Nat.min_eq_left (by omega), show i = bs.length by omega]
      · rw [Nat.min_eq_right (by omega), show i = 512 by omega]
    refine Ek.reg ?_
    refine SeqR.go rfl rfl rfl (st_pure rfl rfl) rfl ?_
    refine SeqR.go rfl rfl rfl (st_pure rfl rfl) rfl ?_
    refine SeqR.nil ?_
    refine Ek.ret ⟨Or.inr rfl, _, rfl, _, _, rfl, ⟨out, 512, rfl, ⟨[], by rw [List.append_nil, ← hif]; exact Rk, rfl⟩, by rw [← hif]; exact fullS_len (by omega) hi5, Nat.le_refl _⟩, Bk.mono (by omega), by omega, samek⟩
end
end Go.Xec
