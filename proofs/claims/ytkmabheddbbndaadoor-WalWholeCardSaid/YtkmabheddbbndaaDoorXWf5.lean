/- wal's header, by contract. -/
import Derived.Test.YtkmabheddbbndaaDoorXWf4
namespace Go.Xec
open Go.Proofs
section
variable {h h' hf : T ABlk} {l d W M β m m' : Nat} {v : AV} {D : Dk} {G : Lg} {own own' od : Nat → Prop} {bs b : By}
theorem st_appZ {P : Program} {call : Callee} {nm t e t1 by_ k z : Nat} {kd kk : IntKind} {ao bo : Operand} {s zero : AV} {l : List AV} (he : sliceElem P t = some e) (hz : sizeOfT P e = some z) (hz0 : 0 < z) (hby : bytesOfT P e = some by_) (hzero : zeroT P e = some zero) (hzl : zero.cells.length = z) (hzo1 : zero.cells.all AV.one = true)
    (hu1 : P.underlying t1 = some (.int kd)) (V : Vec h z s l) (hb : by_ ≤ 1000) (hk : k ≤ 1000000) (hn : l.length + k * z ≤ 1000000) (hzo : zeroOk P e z = true) :
    ∃ v' h' m', stepA P call nm ⟨h, m⟩ (.call { callee := .builtin .append, args := #[ao, bo], argTypes := #[t, t1] }) [s, .int kk (k : Int)] = some (v', ⟨h', m'⟩) ∧ Vec h' z v' (l ++ (List.replicate k zero.cells).flatten) ∧ m ≤ m' ∧ m' ≤ m + 1 ∧ (∀ γ, γ < m ∨ m' ≤ γ → s.base ≠ some γ → h'.get γ = h.get γ) ∧ (v'.base = s.base ∨ v'.base = some m) := by
  have hlen : (List.replicate k zero.cells).flatten.length = k * z := by simp [hzl]
  obtain ⟨v', h', m', q1, q2⟩ := appendC_vec (P := P) (e := e) (by_ := by_) (m := m) (k := k) (new := (List.replicate k zero.cells).flatten) V hz0 hb hlen (by
    rw [List.all_eq_true]; intro a ha
    obtain ⟨c, hc, hac⟩ := List.mem_flatten.1 ha
    rw [(List.mem_replicate.1 hc).2] at hac
    exact List.all_eq_true.1 hzo1 a hac) hzo (by rw [hlen]; omega)
  refine ⟨v', h', m', ?_, q2⟩
  have h0 : (#[t, t1] : Array TypeId)[0]? = some t := rfl
  have h1 : (#[t, t1] : Array TypeId)[1]? = some t1 := rfl
  have hm' : (k : Int) * (by_ : Int) ≤ 281474976710656 := by
    have h1 : (k : Int) * (by_ : Int) ≤ (k : Int) * 1000 := Int.mul_le_mul_of_nonneg_left (by omega) (by omega)
    omega
  have hc : zcond (k : Int) by_ zero.cells.length z = true := by
    rw [hzl]
    simp only [zcond, Bool.and_eq_true, decide_eq_true_eq]
    exact ⟨⟨⟨⟨by omega, by omega⟩, hm'⟩, Nat.beq_refl z⟩, by simpa using hz0⟩
  have e0 : ∀ κ : Int, zcond κ by_ zero.cells.length z = true → appendZ P ⟨h, m⟩ t s (.int kk κ) = appendC P ⟨h, m⟩ e by_ z κ.toNat (List.replicate κ.toNat zero.cells).flatten s := by
    intro κ hκ
    simp only [appendZ, he, hz, hby, hzero, hκ]
  have e1 : appendZ P ⟨h, m⟩ t s (.int kk (k : Int)) = appendC P ⟨h, m⟩ e by_ z k (List.replicate k zero.cells).flatten s := by
    rw [e0 _ hc, Int.toNat_natCast]
  refine st_eff rfl ?_
  simp only [effA, h0, h1, hu1]
  rw [e1]
  exact q1
theorem zeros_cells (k : Nat) : (List.replicate k (AV.int .u8 0).cells).flatten = cellsB (List.replicate k 0) := by
  show (List.replicate k [AV.int .u8 0]).flatten = _
  rw [List.flatten_replicate_singleton, cellsB, List.map_replicate]; rfl
theorem cellsB_app (a b : By) : cellsB a ++ cellsB b = cellsB (a ++ b) := by simp [cellsB]

def crcF (cs : List By) : Int := cs.foldl crcM 0
theorem crcF_snoc (cs : List By) (b : By) : crcF (cs ++ [b]) = crcM (crcF cs) b := by simp [crcF]
theorem crcF_rng (cs : List By) : 0 ≤ crcF cs ∧ crcF cs < 4294967296 := by
  rcases List.eq_nil_or_concat cs with rfl | ⟨l, b, rfl⟩
  · exact ⟨by decide, by decide⟩
  · rw [List.concat_eq_append, crcF_snoc]; exact crcM_rng _ _
def hdr0 (is : List Nat) (cs : List By) : By := put4 1819894636 ++ put4 is.length ++ put4 (crcF cs).toNat ++ is.flatMap put4
def hdr1 (is : List Nat) (cs : List By) : By := hdr0 is cs ++ List.replicate (508 - (hdr0 is cs).length) 0
def hdrB (is : List Nat) (cs : List By) : By := hdr1 is cs ++ put4 (crcM 0 (hdr1 is cs)).toNat
theorem put4_len (n : Nat) : (put4 n).length = 4 := rfl
theorem flatMap_len (is : List Nat) : (is.flatMap put4).length = 4 * is.length := by
  induction is with
  | nil => rfl
  | cons i l ih => rw [List.flatMap_cons, List.length_append, ih, put4_len, List.length_cons]; omega
theorem hdr0_len (is : List Nat) (cs : List By) : (hdr0 is cs).length = 12 + 4 * is.length := by
  simp only [hdr0, List.length_append, put4_len, flatMap_len]
theorem hdr1_len {is : List Nat} {cs : List By} (h : is.length ≤ 40) : (hdr1 is cs).length = 508 := by
  have := hdr0_len is cs
  simp only [hdr1, List.length_append, List.length_replicate]; omega
theorem hdrB_len {is : List Nat} {cs : List By} (h : is.length ≤ 40) : (hdrB is cs).length = 512 := by
  simp only [hdrB, List.length_append, hdr1_len h, put4_len]

/-- The contents that wait, of some numbers. -/
def conts (ws : List (Nat × By)) (is : List Nat) : List By := is.map fun i => (getW i ws).getD []
noncomputable def frH1 (l : Nat) (v hv : AV) (n k : Nat) (s : Int) : Fr := (((((((T.nil.set 0 (.ptr l 0)).set 1 v).set 5 hv).set 6 (.int .u32 s)).set 16 v).set 17 (.int .i64 (n : Int))).set 18 (.int .i64 (k : Int)))
noncomputable def frH2 (v hv : AV) (n k : Nat) : Fr := (((T.nil.set 5 hv).set 35 v).set 36 (.int .i64 (n : Int))).set 37 (.int .i64 (k : Int))
theorem Vec.keep {z : Nat} {l : List AV} (V : Vec h z v l) (B : Bd h m) (hs : ∀ γ, γ < m → h'.get γ = h.get γ) : Vec h' z v l := V.of_eq fun γ hγ => hs γ (B.base V hγ)

theorem w_header {ws : List (Nat × By)} {kw : List (Int × AV)} {a0 a2 : AV} {is : List Nat} (R : Row h l [a0, .mp W, a2]) (X : MapI h W kw) (Xw : WV h kw ws) (B : Bd h m) (V : Vec h 1 v (intsV is)) (hin : ∀ i ∈ is, (getW i ws).isSome = true) (his : is.length ≤ 40) (hi40 : ∀ i ∈ is, i < 4294967296) :
    ∃ v' h' m', TC 38 [.ptr l 0, v] ⟨h, m⟩ = some (v', ⟨h', m'⟩) ∧ (SecV h' v' (hdrB is (conts ws is)) ∧ Bd h' m' ∧ m ≤ m' ∧ ∀ γ, γ < m → h'.get γ = h.get γ) := by
  have hil : (intsV is).length = is.length := by simp [intsV]
  have hlm := B.row R
  refine top_fn Tryd.func38 (by rfl) rfl rfl (by rfl) ?_
  refine Ek.seq ?_
  refine Ek.reg ?_
  refine SeqR.go rfl rfl rfl (st_pure rfl rfl) rfl ?_
  refine SeqR.nil ?_
  refine Ek.seq ?_
  refine Ek.reg ?_
  refine SeqR.cal rfl rfl rfl rfl rfl (w_put4 (bs := []) (n := 1819894636) (Or.inl ⟨rfl, rfl⟩) (B.mono (by omega)) (by simp)) ?_
  rintro v1 h1 m1 ⟨V1, B1, hm1, same1, hb1⟩
  refine ⟨_, rfl, ?_⟩
  have q1s : ∀ γ, γ < m → h1.get γ = h.get γ := fun γ hγ => same1 γ (by omega) (fun e => by cases e)
  have hil1 : (intsV is).length = is.length * 1 := by rw [hil]; omega
  refine SeqR.go rfl rfl rfl (st_pure rfl rfl) rfl ?_
  refine SeqR.go rfl rfl rfl (st_lenV (n := is.length) te23 (V.keep B (fun γ hγ => q1s γ (by omega))) (by decide) hil1) rfl ?_
  refine SeqR.go rfl rfl rfl (cv tu3 tu89) rfl ?_
  rw [IntWalk.u64_in _ (by omega)]
  refine SeqR.cal rfl rfl rfl rfl rfl (w_put4 (n := is.length) V1 (B1.mono (by omega)) (by simp [put4_len])) ?_
  rintro v2 h2 m2 ⟨V2, B2, hm2, s2, hb2⟩
  refine ⟨_, rfl, ?_⟩
  refine SeqR.go rfl rfl rfl (st_pure rfl rfl) rfl ?_
  refine SeqR.nil ?_
  refine Ek.seq ?_
  have hb1m : ∀ γ, v1.base = some γ → m ≤ γ := fun γ hγ => by rcases hb1 with q | ⟨q, q1, q2⟩; (rw [q] at hγ; cases hγ); (rw [q1] at hγ; injection hγ; omega)
  have same2 : ∀ γ, γ < m → h2.get γ = h.get γ := fun γ hγ => (s2 γ (by omega) (fun e => by have := hb1m γ e; omega)).trans (q1s γ hγ)
  have hb2m : ∀ γ, v2.base = some γ → m ≤ γ := fun γ hγ => by rcases hb2 with q | ⟨q, q1, q2⟩; exact hb1m γ (q ▸ hγ); (rw [q1] at hγ; injection hγ; omega)
  refine Ek.reg ?_
  refine SeqR.go rfl rfl rfl (st_pure rfl rfl) rfl ?_
  refine SeqR.nil ?_
  refine Ek.seq ?_
  refine Ek.seq ?_
  refine Ek.reg ?_
  refine SeqR.go rfl rfl rfl (st_pure rfl rfl) rfl ?_
  refine SeqR.go rfl rfl rfl (st_lenV (n := is.length) te23 (V.keep B same2) (by decide) hil1) rfl ?_
  refine SeqR.go rfl rfl rfl (st_pure rfl rfl) rfl ?_
  refine SeqR.nil ?_
  refine Ek.block ?_
  refine Ek.loop_inv (fun e fr st => ∃ k mk s, k + e = is.length ∧ Le (frH1 l v v2 is.length k s) fr ∧ st = ⟨h2, mk⟩ ∧ m2 ≤ mk ∧ s = crcF ((conts ws is).take k)) ?_ (is.length) _ _ ⟨0, _, 0, by omega, Le.put (Le.put (Le.put (Le.put (Le.put (Le.put (Le.put (Le.nil _) rfl) rfl) rfl) rfl) rfl) rfl) rfl, rfl, by omega, rfl⟩
  rintro e fr st ⟨k, mk, s, hi, hle, rfl, hmk, hsk⟩
  refine Ek.weaken hle ?_
  clear hle
  refine Ek.seq ?_
  refine Ek.reg ?_
  refine SeqR.go rfl rfl rfl (st_pure rfl rfl) rfl ?_
  refine SeqR.nil ?_
  refine Ek.seq ?_
  by_cases hkn : k < is.length
  · refine Ek.condT rfl (by simp; omega) ?_
    refine Ek.skip ?_
    refine Ek.seq ?_
    refine Ek.block ?_
    refine Ek.seq ?_
    obtain ⟨i, hci⟩ : ∃ i, is[k]? = some i := ⟨is[k], List.getElem?_eq_getElem hkn⟩
    have hmem := List.mem_of_getElem? hci
    have hi4 := hi40 i hmem
    have hvk : (intsV is)[0 + (k : Int).toNat * 1]? = some (.int .i64 (i : Int)) := by simpa using intsV_at hci
    obtain ⟨γ, n2, rfl, hn2, Rv⟩ := (V.keep B same2).sl_of (by intro e; rw [e] at hil; simp at hil; omega)
    have hn2k : k < n2 := by omega
    have X2 := X.of_eq (same2 W (B.mapI X))
    have R2 := R.of_eq (same2 l hlm)
    obtain ⟨b1, hb1i⟩ := Option.isSome_iff_exists.1 (hin i hmem)
    obtain ⟨g1, g2⟩ | ⟨sv, b2, hg1, hg2, hsec0⟩ := Xw.get i
    · rw [g2] at hb1i; cases hb1i
    have hsec : SecV h2 sv b2 := hsec0.keep B same2
    refine Ek.reg ?_
    refine SeqR.go rfl rfl rfl (idx te23 tz3) rfl ?_
    refine SeqR.go rfl rfl rfl (ld ta3) rfl ?_
    refine SeqR.go rfl rfl rfl (st_pure rfl rfl) rfl ?_
    refine SeqR.nil ?_
    refine Ek.reg ?_
    refine SeqR.go rfl rfl rfl (st_pure rfl rfl) rfl ?_
    refine SeqR.go rfl rfl rfl (st_pure rfl rfl) rfl ?_
    refine SeqR.go rfl rfl rfl (st_pure rfl rfl) rfl ?_
    refine SeqR.go rfl rfl rfl (fld tF67_1) rfl ?_
    refine SeqR.go rfl rfl rfl (ld ta65) rfl ?_
    refine SeqR.go rfl rfl rfl (st_pure rfl rfl) rfl ?_
    refine SeqR.go rfl rfl rfl (st_lookup tm65 (tk3 _) X2 hg1) rfl ?_
    refine SeqR.cal rfl rfl rfl rfl rfl (w_moreS hsec) ?_
    rintro _ _ m3 ⟨rfl, rfl, hm3⟩
    refine ⟨_, rfl, ?_⟩
    refine SeqR.go rfl rfl rfl (st_pure rfl rfl) rfl ?_
    refine SeqR.nil ?_
    refine Ek.reg ?_
    refine SeqR.go rfl rfl rfl add1 rfl ?_
    refine SeqR.go rfl rfl rfl (st_pure rfl rfl) rfl ?_
    refine SeqR.nil ?_
    refine ⟨e - 1, by omega, k + 1, _, _, by omega, Le.put (Le.put (Le.put (Le.put (Le.put (Le.put (Le.put (Le.nil _) rfl) rfl) rfl) rfl) rfl) rfl) rfl, rfl, by omega, ?_⟩
    have e7 : (conts ws is)[k]? = some b2 := by simp [conts, hci, hg2]
    rw [List.take_add_one, e7, Option.toList_some, crcF_snoc, hsk]
  · refine Ek.condF rfl (by simp; omega) ?_
    refine Ek.exit ?_
    simp only [AEx.then, AEx.inBlock, if_true]
    refine Ek.seq ?_
    have hkn2 : k = is.length := by omega
    subst hkn2
    have hcl : (conts ws is).take is.length = conts ws is := List.take_of_length_le (by simp [conts])
    rw [hcl] at hsk
    subst hsk
    have hcr := crcF_rng (conts ws is)
    refine Ek.reg ?_
    refine SeqR.go rfl rfl rfl (st_pure rfl rfl) rfl ?_
    refine SeqR.go rfl rfl rfl (st_pure rfl rfl) rfl ?_
    refine SeqR.go rfl rfl rfl (cv tu91 tu89) rfl ?_
    rw [IntWalk.u64_in _ (by omega), show crcF (conts ws is) = (((crcF (conts ws is)).toNat : Nat) : Int) by omega]
    refine SeqR.cal rfl rfl rfl rfl rfl (w_put4 (n := (crcF (conts ws is)).toNat) V2 (B2.mono (by omega)) (by simp [put4_len])) ?_
    rintro v3 h3 m3 ⟨V3, B3, hm3, s3, hb3⟩
    refine ⟨_, rfl, ?_⟩
    refine SeqR.go rfl rfl rfl (st_pure rfl rfl) rfl ?_
    refine SeqR.nil ?_
    refine Ek.seq ?_
    refine Ek.seq ?_
    have same3 : ∀ γ, γ < m → h3.get γ = h.get γ := fun γ hγ => (s3 γ (by omega) (fun e => by have := hb2m γ e; omega)).trans (same2 γ hγ)
    have hb3m : ∀ γ, v3.base = some γ → m ≤ γ := fun γ hγ => by rcases hb3 with q | ⟨q, q1, q2⟩; exact hb2m γ (q ▸ hγ); (rw [q1] at hγ; injection hγ; omega)
    refine Ek.reg ?_
    refine SeqR.go rfl rfl rfl (st_pure rfl rfl) rfl ?_
    refine SeqR.go rfl rfl rfl (st_lenV (n := is.length) te23 (V.keep B same3) (by decide) hil1) rfl ?_
    refine SeqR.go rfl rfl rfl (st_pure rfl rfl) rfl ?_
    refine SeqR.nil ?_
    refine Ek.block ?_
    refine Ek.loop_inv (fun e fr st => ∃ k hk mk hv, k + e = is.length ∧ Le (frH2 v hv is.length k) fr ∧ st = ⟨hk, mk⟩ ∧ m ≤ mk ∧ Bd hk mk ∧ (∀ γ, γ < m → hk.get γ = h.get γ) ∧ Vec hk 1 hv (cellsB (put4 1819894636 ++ put4 is.length ++ put4 (crcF (conts ws is)).toNat ++ (is.take k).flatMap put4)) ∧ (∀ γ, hv.base = some γ → m ≤ γ)) ?_ (is.length) _ _ ⟨0, h3, _, v3, by omega, Le.put (Le.put (Le.put (Le.put (Le.nil _) rfl) rfl) rfl) rfl, rfl, by omega, B3.mono (by omega), same3, by simpa using V3, hb3m⟩
    rintro e fr st ⟨k, hk, mk, hv, hi, hle, rfl, hmk, Bk, samek, Vk, hbk⟩
    refine Ek.weaken hle ?_
    clear hle
    refine Ek.seq ?_
    refine Ek.reg ?_
    refine SeqR.go rfl rfl rfl (st_pure rfl rfl) rfl ?_
    refine SeqR.nil ?_
    refine Ek.seq ?_
    by_cases hkn : k < is.length
    · refine Ek.condT rfl (by simp; omega) ?_
      refine Ek.skip ?_
      refine Ek.seq ?_
      refine Ek.block ?_
      refine Ek.seq ?_
      obtain ⟨i, hci⟩ : ∃ i, is[k]? = some i := ⟨is[k], List.getElem?_eq_getElem hkn⟩
      have hmem := List.mem_of_getElem? hci
      have hi4 := hi40 i hmem
      have hvk : (intsV is)[0 + (k : Int).toNat * 1]? = some (.int .i64 (i : Int)) := by simpa using intsV_at hci
      obtain ⟨γ, n2, rfl, hn2, Rv⟩ := (V.keep B samek).sl_of (by intro e; rw [e] at hil; simp at hil; omega)
      have hn2k : k < n2 := by omega
      refine Ek.reg ?_
      refine SeqR.go rfl rfl rfl (idx te23 tz3) rfl ?_
      refine SeqR.go rfl rfl rfl (ld ta3) rfl ?_
      refine SeqR.go rfl rfl rfl (st_pure rfl rfl) rfl ?_
      refine SeqR.nil ?_
      refine Ek.reg ?_
      refine SeqR.go rfl rfl rfl (st_pure rfl rfl) rfl ?_
      refine SeqR.go rfl rfl rfl (st_pure rfl rfl) rfl ?_
      refine SeqR.go rfl rfl rfl (cv tu3 tu89) rfl ?_
      rw [IntWalk.u64_in _ (by omega)]
      refine SeqR.cal rfl rfl rfl rfl rfl (w_put4 (n := i) Vk (Bk.mono (by omega)) (by simp only [List.length_append, put4_len, flatMap_len, List.length_take]; omega)) ?_
      rintro v4 h4 m4 ⟨V4, B4, hm4, s4, hb4⟩
      refine ⟨_, rfl, ?_⟩
      refine SeqR.go rfl rfl rfl (st_pure rfl rfl) rfl ?_
      refine SeqR.nil ?_
      refine Ek.reg ?_
      refine SeqR.go rfl rfl rfl add1 rfl ?_
      refine SeqR.go rfl rfl rfl (st_pure rfl rfl) rfl ?_
      refine SeqR.nil ?_
      refine ⟨e - 1, by omega, k + 1, h4, _, v4, by omega, Le.put (Le.put (Le.put (Le.put (Le.nil _) rfl) rfl) rfl) rfl, rfl, by omega, B4.mono (by omega), fun γ hγ => (s4 γ (by omega) (fun e => by have := hbk γ e; omega)).trans (samek γ hγ), ?_, fun γ hγ => ?_⟩
      · rw [List.take_add_one, hci, Option.toList_some, List.flatMap_append, List.flatMap_singleton, ← List.append_assoc]; exact V4
      · rcases hb4 with q | ⟨q, q1, q2⟩
        · exact hbk γ (q ▸ hγ)
        · rw [q1] at hγ; injection hγ; omega
    · refine Ek.condF rfl (by simp; omega) ?_
      refine Ek.exit ?_
      simp only [AEx.then, AEx.inBlock, if_true]
      refine Ek.seq ?_
      have hkn2 : k = is.length := by omega
      subst hkn2
      rw [List.take_length] at Vk
      have hlen0 : (cellsB (put4 1819894636 ++ put4 is.length ++ put4 (crcF (conts ws is)).toNat ++ is.flatMap put4)).length = (12 + 4 * is.length) * 1 := by rw [cellsB_len]; have := hdr0_len is (conts ws is); unfold hdr0 at this; omega
      refine Ek.reg ?_
      refine SeqR.go rfl rfl rfl (st_pure rfl rfl) rfl ?_
      refine SeqR.go rfl rfl rfl (st_pure rfl rfl) rfl ?_
      refine SeqR.go rfl rfl rfl (st_lenV (n := 12 + 4 * is.length) te33 Vk (by decide) hlen0) rfl ?_
      refine SeqR.go rfl rfl rfl (st_sub (r := ((508 - (12 + 4 * is.length) : Nat) : Int)) (by rw [IntWalk.i64_in _ (by omega)]; omega)) rfl ?_
      refine SeqR.ex rfl rfl rfl (st_appZ te33 tz5 (by decide) tb5 tv5 rfl rfl tu3 Vk (by decide) (by omega) (by rw [hlen0]; omega) tzo5) ?_
      rintro v5 h5 m5 ⟨V5, p1, p2, p3, p4⟩
      refine ⟨_, rfl, ?_⟩
      refine SeqR.go rfl rfl rfl (st_pure rfl rfl) rfl ?_
      refine SeqR.nil ?_
      refine Ek.seq ?_
      rw [zeros_cells, cellsB_app] at V5
      have e5 : put4 1819894636 ++ put4 is.length ++ put4 (crcF (conts ws is)).toNat ++ is.flatMap put4 ++ List.replicate (508 - (12 + 4 * is.length)) 0 = hdr1 is (conts ws is) := by unfold hdr1; rw [hdr0_len]; rfl
      rw [e5] at V5
      have B5 : Bd h5 m5 := Bd.of (m := mk + 1 + 1 + 1 + 1 + 1 + 1) (Bk.mono (by omega)) p1 (fun γ hγ => p3 γ (Or.inr hγ) (fun e => by have := Bk.base Vk e; omega))
      have hb5 : ∀ γ, v5.base = some γ → m ≤ γ := fun γ hγ => by rcases p4 with q | q; exact hbk γ (q ▸ hγ); (rw [q] at hγ; injection hγ; omega)
      have same5 : ∀ γ, γ < m → h5.get γ = h.get γ := fun γ hγ => (p3 γ (Or.inl (by omega)) (fun e => by have := hbk γ e; omega)).trans (samek γ hγ)
      obtain ⟨β5, n5, rfl, hn5, R5⟩ := V5.sl_of (by intro e; have := congrArg List.length e; rw [cellsB_len, hdr1_len his] at this; cases this)
      rw [cellsB_len, hdr1_len his] at hn5
      obtain rfl : n5 = 508 := by omega
      have hβ5 := B5.row R5
      have hcr5 := crcM_rng 0 (hdr1 is (conts ws is))
      refine Ek.reg ?_
      refine SeqR.go rfl rfl rfl (st_pure rfl rfl) rfl ?_
      refine SeqR.go rfl rfl rfl (st_pure rfl rfl) rfl ?_
      refine SeqR.go rfl rfl rfl (bs1 te22 tz33 tzo33) rfl ?_
      refine SeqR.cal rfl rfl rfl rfl rfl (w_sum (bs := hdr1 is (conts ws is)) (o := 0) (c := 508) (by rw [hdr1_len his]; exact Row.new_eq rfl) (R5.set_ne (by omega)) (fun i b q => by rw [Nat.zero_add, cellsB, List.getElem?_map, q]; rfl) (by rw [cellsB_len]; omega) (by rw [hdr1_len his]; decide)) ?_
      rintro _ _ m6 ⟨rfl, rfl, hm6⟩
      refine ⟨_, rfl, ?_⟩
      refine SeqR.go rfl rfl rfl (cv tu91 tu89) rfl ?_
      rw [IntWalk.u64_in _ (by omega), show crcM 0 (hdr1 is (conts ws is)) = (((crcM 0 (hdr1 is (conts ws is))).toNat : Nat) : Int) by omega]
      refine SeqR.cal rfl rfl rfl rfl rfl (w_put4 (n := (crcM 0 (hdr1 is (conts ws is))).toNat) (Vec.of_eq V5 (fun γ hγ => get_set_ne (by have := B5.base V5 hγ; omega))) (Bd.set B5 (by omega) (by omega)) (by rw [hdr1_len his]; decide)) ?_
      rintro v7 h7 m7 ⟨V7, B7, hm7, s7, hb7⟩
      refine ⟨_, rfl, ?_⟩
      refine SeqR.go rfl rfl rfl (st_pure rfl rfl) rfl ?_
      refine SeqR.nil ?_
      refine Ek.ret ⟨Or.inr rfl, _, rfl, _, _, rfl, SecV.of_vec V7 (hdrB_len his), B7.mono (by omega), by omega, fun γ hγ => ?_⟩
      rw [s7 γ (by omega) (fun e => by have := hb5 γ e; omega), get_set_ne (by omega)]; exact same5 γ hγ
end
end Go.Xec
