/- zbyte.Put, zbyte.Get, by contract. -/
import Derived.Test.YtkmabheddbbndaaDoorXWe1
namespace Go.Xec
open Go.Proofs
section
variable {P : Program} {call : Callee} {nm : Nat} {st : St}
theorem mulN {t a b : Nat} {x y : Operand} {yt : TypeId} (hb : a * b < 9223372036854775808) : stepA P call nm st (.binOp .mul t x y yt) [.int .i64 (a : Int), .int .i64 (b : Int)] = some (.int .i64 ((a * b : Nat) : Int), st) :=
  st_pure rfl (by
    have : IntKind.i64.wrap ((a : Int) * (b : Int)) = ((a * b : Nat) : Int) := by rw [← Int.natCast_mul, IntWalk.i64_in _ (by omega)]
    simp only [pureA, binA, arithA, decide_true, this])
theorem shrN {t a s : Nat} {j : IntKind} {x y : Operand} {yt : TypeId} (hs : s ≤ 64) : stepA P call nm st (.binOp .shr t x y yt) [.int .u64 (a : Int), .int j (s : Int)] = some (.int .u64 ((a / 2 ^ s : Nat) : Int), st) :=
  st_pure rfl (by
    have h1 : decide ((s : Int) < 0) = false := by simp
    have h2 : min ((s : Int)).toNat IntKind.u64.bits = s := by simp [IntKind.bits]; omega
    simp only [pureA, binA, shiftA, h1, h2]
    rw [Int.fdiv_eq_ediv_of_nonneg _ (by exact Int.le_of_lt (Int.pow_pos (by decide)))]
    congr 2)
theorem shlN {t a s : Nat} {j : IntKind} {x y : Operand} {yt : TypeId} (hs : s ≤ 64) (hb : a * 2 ^ s < 18446744073709551616) : stepA P call nm st (.binOp .shl t x y yt) [.int .u64 (a : Int), .int j (s : Int)] = some (.int .u64 ((a * 2 ^ s : Nat) : Int), st) :=
  st_pure rfl (by
    have h1 : decide ((s : Int) < 0) = false := by simp
    have h2 : min ((s : Int)).toNat IntKind.u64.bits = s := by simp [IntKind.bits]; omega
    have h3 : IntKind.u64.wrap ((a : Int) * 2 ^ s) = ((a * 2 ^ s : Nat) : Int) := by
      have e : (a : Int) * 2 ^ s = ((a * 2 ^ s : Nat) : Int) := by rw [Int.natCast_mul, Int.natCast_pow]; rfl
      rw [e, IntWalk.u64_in _ (by omega)]
    simp only [pureA, binA, shiftA, h1, h2, h3])
theorem orN {t a b : Nat} {x y : Operand} {yt : TypeId} (ha : a < 18446744073709551616) (hb : b < 18446744073709551616) : stepA P call nm st (.binOp .or t x y yt) [.int .u64 (a : Int), .int .u64 (b : Int)] = some (.int .u64 ((a ||| b : Nat) : Int), st) :=
  st_pure rfl (by
    have h1 : (BitVec.ofInt IntKind.u64.bits (a : Int) ||| BitVec.ofInt IntKind.u64.bits (b : Int)).toNat = a ||| b := by
      rw [BitVec.toNat_or, BitVec.ofInt_natCast, BitVec.ofInt_natCast, BitVec.toNat_ofNat, BitVec.toNat_ofNat, Nat.mod_eq_of_lt (by simpa [IntKind.bits] using ha), Nat.mod_eq_of_lt (by simpa [IntKind.bits] using hb)]
    have h2 : a ||| b < 18446744073709551616 := Nat.or_lt_two_pow (n := 64) ha hb
    have h3 : IntKind.u64.wrap ((a ||| b : Nat) : Int) = ((a ||| b : Nat) : Int) := IntWalk.u64_in _ (by omega)
    simp only [pureA, binA, arithA, bitsA, decide_true, h1, h3])
end
section
variable {h h' hf : T ABlk} {d L N β m m' : Nat} {cv v : AV} {D : Dk} {own own' : Nat → Prop} {bs b : By}
def putB (n i : Nat) : UInt8 := UInt8.ofNat (n / 2 ^ (8 * i))
def put4 (n : Nat) : By := (List.range 4).map (putB n)
theorem put_wrap (n i : Nat) : IntKind.u8.wrap ((n / 2 ^ (8 * i) : Nat) : Int) = ((putB n i).toNat : Int) := by
  rw [IntKind.wrap_u8]
  unfold putB
  rw [UInt8.toNat_ofNat']
  omega
noncomputable def frP (v : AV) (n i : Nat) : Fr := (((T.nil.set 0 v).set 1 (.int .u64 (n : Int))).set 8 (.int .i64 4)).set 9 (.int .i64 (i : Int))
theorem w_put4 (V : Vec h 1 v (cellsB bs)) (B : Bd h m) {n : Nat} (hl : bs.length ≤ 600) :
    ∃ v' h' m', TC 50 [v, .int .u64 (n : Int), .int .i64 4] ⟨h, m⟩ = some (v', ⟨h', m'⟩) ∧ (Vec h' 1 v' (cellsB (bs ++ put4 n)) ∧ Bd h' m' ∧ m ≤ m' ∧ (∀ γ, γ < m → v.base ≠ some γ → h'.get γ = h.get γ) ∧ (v'.base = v.base ∨ ∃ q, v'.base = some q ∧ m ≤ q)) := by
  refine top_fn Tryd.func50 (by rfl) rfl rfl (by rfl) ?_
  refine Ek.seq ?_
  refine Ek.reg ?_
  refine SeqR.go rfl rfl rfl (st_pure rfl rfl) rfl ?_
  refine SeqR.nil ?_
  refine Ek.seq ?_
  refine Ek.seq ?_
  refine Ek.reg ?_
  refine SeqR.go rfl rfl rfl (st_pure rfl rfl) rfl ?_
  refine SeqR.go rfl rfl rfl (st_pure rfl rfl) rfl ?_
  refine SeqR.nil ?_
  refine Ek.block ?_
  refine Ek.loop_inv (fun e fr st => ∃ i hk mk vk, i + e = 4 ∧ Le (frP vk n i) fr ∧ st = ⟨hk, mk⟩ ∧ m ≤ mk ∧ Bd hk mk ∧ Vec hk 1 vk (cellsB (bs ++ (List.range i).map (putB n))) ∧ (∀ γ, γ < m → v.base ≠ some γ → hk.get γ = h.get γ) ∧ (vk.base = v.base ∨ ∃ q, vk.base = some q ∧ m ≤ q)) ?_ (4) _ _ ⟨0, _, _, v, by omega, Le.put (Le.put (Le.put (Le.put (Le.nil _) rfl) rfl) rfl) rfl, rfl, by omega, B.mono (by omega), by simpa using V, fun _ _ _ => rfl, Or.inl rfl⟩
  rintro e fr st ⟨i, hk, mk, vk, hi, hle, rfl, hmk, Bk, Vk, samek, hbk⟩
  refine Ek.weaken hle ?_
  clear hle
  refine Ek.seq ?_
  refine Ek.reg ?_
  refine SeqR.go rfl rfl rfl (st_pure rfl rfl) rfl ?_
  refine SeqR.nil ?_
  refine Ek.seq ?_
  by_cases hi4 : i < 4
  · refine Ek.condT rfl (by simp; omega) ?_
    refine Ek.skip ?_
    refine Ek.seq ?_
    refine Ek.block ?_
    refine Ek.seq ?_
    refine Ek.reg ?_
    refine SeqR.go rfl rfl rfl (st_pure rfl rfl) rfl ?_
    refine SeqR.go rfl rfl rfl (st_pure rfl rfl) rfl ?_
    refine SeqR.nil ?_
    refine Ek.reg ?_
    refine SeqR.go rfl rfl rfl (st_pure rfl rfl) rfl ?_
    refine SeqR.go rfl rfl rfl (st_pure rfl rfl) rfl ?_
    refine SeqR.go rfl rfl rfl (st_pure rfl rfl) rfl ?_
    refine SeqR.go rfl rfl rfl (mulN (a := 8) (by omega)) rfl ?_
    refine SeqR.go rfl rfl rfl (shrN (by omega)) rfl ?_
    refine SeqR.go rfl rfl rfl (cv tu89 tu5) rfl ?_
    rw [put_wrap]
    refine SeqR.go rfl rfl rfl (bs1 te33 tz5 tzo5) rfl ?_
    refine SeqR.ex rfl rfl rfl (st_app (new := [.int .u8 ((putB n i).toNat : Int)]) (k := 1) te33 tz5 tb5 te33 (Vk.of_eq fun γ hγ => get_set_ne (by have := Bk.base Vk hγ; omega)) (by decide) (by decide) rfl (elems_row (Row.new) (Nat.le_refl 1)) rfl rfl tzo5 (by rw [cellsB_len]; simp; omega)) ?_
    rintro v2 h2 m3 ⟨V2, p1, p2, p3, p4⟩
    refine ⟨_, rfl, ?_⟩
    refine SeqR.go rfl rfl rfl (st_pure rfl rfl) rfl ?_
    refine SeqR.nil ?_
    refine Ek.reg ?_
    refine SeqR.go rfl rfl rfl add1 rfl ?_
    refine SeqR.go rfl rfl rfl (st_pure rfl rfl) rfl ?_
    refine SeqR.nil ?_
    refine ⟨e - 1, by omega, i + 1, h2, _, v2, by omega, Le.put (Le.put (Le.put (Le.put (Le.nil _) rfl) rfl) rfl) rfl, rfl, by omega, ?_, ?_, fun γ g1 g2 => ?_, ?_⟩
    · have hB2 : Bd h2 m3 := ((Bd.set (m' := mk + 1 + 1 + 1 + 1 + 1 + 1 + 1 + 1 + 1 + 1 + 1) Bk (by omega) (by omega)).mono (by omega)).of p1 (fun γ hγ => p3 γ (Or.inr hγ) (fun e => by have := Bk.base Vk e; omega))
      exact hB2.mono (by omega)
    · have e1 : cellsB (bs ++ (List.range i).map (putB n)) ++ [.int .u8 ((putB n i).toNat : Int)] = cellsB (bs ++ (List.range (i + 1)).map (putB n)) := by
        simp [cellsB, List.range_succ]
      rw [← e1]; exact V2
    · rw [p3 γ (Or.inl (by omega)) (fun e => by rcases hbk with q | ⟨q, q1, q2⟩; exact g2 (q ▸ e); rw [q1] at e; injection e; omega), get_set_ne (by omega), samek γ g1 g2]
    · rcases p4 with q | q
      · rw [q]; exact hbk
      · exact Or.inr ⟨_, q, by omega⟩
  · refine Ek.condF rfl (by simp; omega) ?_
    refine Ek.exit ?_
    simp only [AEx.then, AEx.inBlock, if_true]
    refine Ek.seq ?_
    refine Ek.reg ?_
    refine SeqR.go rfl rfl rfl (st_pure rfl rfl) rfl ?_
    refine SeqR.go rfl rfl rfl (st_pure rfl rfl) rfl ?_
    refine SeqR.nil ?_
    have hi' : i = 4 := by omega
    subst hi'
    exact Ek.ret ⟨Or.inr rfl, _, rfl, _, _, rfl, Vk, Bk.mono (by omega), by omega, samek, hbk⟩

def getN (bs : By) : Nat → Nat
  | 0 => 0
  | i + 1 => getN bs i + (bs.getD i 0).toNat * 2 ^ (8 * i)
def get4 (bs : By) : Nat := getN bs 4
theorem getN_lt (bs : By) : ∀ i, getN bs i < 2 ^ (8 * i)
  | 0 => by simp [getN]
  | i + 1 => by
    have ih := getN_lt bs i
    have hb : (bs.getD i 0).toNat ≤ 255 := by have := (bs.getD i 0).toNat_lt; omega
    have : (bs.getD i 0).toNat * 2 ^ (8 * i) ≤ 255 * 2 ^ (8 * i) := Nat.mul_le_mul_right _ hb
    have e : 2 ^ (8 * (i + 1)) = 256 * 2 ^ (8 * i) := by rw [show 8 * (i + 1) = 8 + 8 * i by omega, Nat.pow_add]
    simp only [getN, e]; omega
theorem getN_or (bs : By) (i : Nat) : getN bs i ||| ((bs.getD i 0).toNat * 2 ^ (8 * i)) = getN bs (i + 1) := by
  have h := Nat.shiftLeft_add_eq_or_of_lt (getN_lt bs i) (bs.getD i 0).toNat
  rw [Nat.shiftLeft_eq] at h
  rw [Nat.or_comm, ← h, getN, Nat.add_comm]
noncomputable def frG (v : AV) (n i : Nat) : Fr := (((T.nil.set 0 v).set 5 (.int .u64 (n : Int))).set 7 (.int .i64 4)).set 8 (.int .i64 (i : Int))
theorem w_get4 {l : List AV} {o n c : Nat} (R : Row h β l) (hg : ∀ (i : Nat) b, bs[i]? = some b → l[o + i]? = some (.int .u8 b.toNat)) (h4 : 4 ≤ n) (hbl : 4 ≤ bs.length) :
    ∃ v' h' m', TC 43 [.sl β o n c 1, .int .i64 4] ⟨h, m⟩ = some (v', ⟨h', m'⟩) ∧ (v' = .int .u64 (get4 bs : Int) ∧ h = h' ∧ m ≤ m') := by
  refine top_fn Tryd.func43 (by rfl) rfl rfl (by rfl) ?_
  refine Ek.seq ?_
  refine Ek.reg ?_
  refine SeqR.go rfl rfl rfl (st_pure rfl rfl) rfl ?_
  refine SeqR.nil ?_
  refine Ek.seq ?_
  refine Ek.reg ?_
  refine SeqR.go rfl rfl rfl (st_pure rfl rfl) rfl ?_
  refine SeqR.nil ?_
  refine Ek.seq ?_
  refine Ek.seq ?_
  refine Ek.reg ?_
  refine SeqR.go rfl rfl rfl (st_pure rfl rfl) rfl ?_
  refine SeqR.go rfl rfl rfl (st_pure rfl rfl) rfl ?_
  refine SeqR.nil ?_
  refine Ek.block ?_
  refine Ek.loop_inv (fun e fr st => ∃ i mk, i + e = 4 ∧ Le (frG (.sl β o n c 1) (getN bs i) i) fr ∧ st = ⟨h, mk⟩ ∧ m ≤ mk) ?_ (4) _ _ ⟨0, _, by omega, Le.put (Le.put (Le.put (Le.put (Le.nil _) rfl) rfl) rfl) rfl, rfl, by omega⟩
  rintro e fr st ⟨i, mk, hi, hle, rfl, hmk⟩
  refine Ek.weaken hle ?_
  clear hle
  refine Ek.seq ?_
  refine Ek.reg ?_
  refine SeqR.go rfl rfl rfl (st_pure rfl rfl) rfl ?_
  refine SeqR.nil ?_
  refine Ek.seq ?_
  by_cases hi4 : i < 4
  · refine Ek.condT rfl (by simp; omega) ?_
    refine Ek.skip ?_
    refine Ek.seq ?_
    refine Ek.block ?_
    refine Ek.seq ?_
    refine Ek.reg ?_
    refine SeqR.go rfl rfl rfl (st_pure rfl rfl) rfl ?_
    refine SeqR.go rfl rfl rfl (st_pure rfl rfl) rfl ?_
    refine SeqR.nil ?_
    refine Ek.reg ?_
    refine SeqR.go rfl rfl rfl (st_pure rfl rfl) rfl ?_
    refine SeqR.go rfl rfl rfl (st_pure rfl rfl) rfl ?_
    refine SeqR.go rfl rfl rfl (st_pure rfl rfl) rfl ?_
    have hbi : bs[i]? = some (bs.getD i 0) := by rw [List.getD_eq_getElem?_getD, List.getElem?_eq_getElem (by omega)]; rfl
    have hb0 := hg i _ hbi
    have hb1 : l[o + (i : Int).toNat * 1]? = some (.int .u8 ((bs.getD i 0).toNat : Int)) := by simpa using hb0
    have hlt := (bs.getD i 0).toNat_lt
    have hgl := getN_lt bs i
    have h48 : 2 ^ (8 * i) ≤ 2 ^ 24 := Nat.pow_le_pow_right (by decide) (by omega)
    have hmul : (bs.getD i 0).toNat * 2 ^ (8 * i) ≤ 255 * 2 ^ 24 := Nat.mul_le_mul (by omega) h48
    refine SeqR.go rfl rfl rfl (idx te33 tz5) rfl ?_
    refine SeqR.go rfl rfl rfl (ld ta5) rfl ?_
    refine SeqR.go rfl rfl rfl (cv tu5 tu89) rfl ?_
    rw [IntWalk.u64_in _ (by omega)]
    refine SeqR.go rfl rfl rfl (st_pure rfl rfl) rfl ?_
    refine SeqR.go rfl rfl rfl (mulN (a := 8) (by omega)) rfl ?_
    refine SeqR.go rfl rfl rfl (shlN (by omega) (by omega)) rfl ?_
    refine SeqR.go rfl rfl rfl (orN (by omega) (by omega)) rfl ?_
    refine SeqR.go rfl rfl rfl (st_pure rfl rfl) rfl ?_
    refine SeqR.nil ?_
    refine Ek.reg ?_
    rw [getN_or]
    refine SeqR.go rfl rfl rfl add1 rfl ?_
    refine SeqR.go rfl rfl rfl (st_pure rfl rfl) rfl ?_
    refine SeqR.nil ?_
    refine ⟨e - 1, by omega, i + 1, _, by omega, Le.put (Le.put (Le.put (Le.put (Le.nil _) rfl) rfl) rfl) rfl, rfl, by omega⟩
  · refine Ek.condF rfl (by simp; omega) ?_
    refine Ek.exit ?_
    simp only [AEx.then, AEx.inBlock, if_true]
    refine Ek.seq ?_
    refine Ek.reg ?_
    refine SeqR.go rfl rfl rfl (st_pure rfl rfl) rfl ?_
    refine SeqR.go rfl rfl rfl (st_pure rfl rfl) rfl ?_
    refine SeqR.nil ?_
    have hi' : i = 4 := by omega
    subst hi'
    exact Ek.ret ⟨Or.inr rfl, _, rfl, _, _, rfl, rfl, rfl, by omega⟩
end
end Go.Xec
