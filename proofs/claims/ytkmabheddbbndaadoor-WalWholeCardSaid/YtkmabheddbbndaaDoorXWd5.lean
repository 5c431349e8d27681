/- The disk's functions, by contract: Flush, Crash; lychgatelaw1.Full. -/
import Derived.Test.YtkmabheddbbndaaDoorXWd4
namespace Go.Xec
open Go.Proofs
section
variable {h h' hf : T ABlk} {d L N β m m' : Nat} {cv v : AV} {D : Dk} {own own' : Nat → Prop} {bs b : By}
theorem sec_ne_list {vs : List AV} {bss : List By} {c γ : Nat} (R : Row h γ vs) (S : SecVs h vs bss) (hp : 0 < bss.length) (s : Sec h β c bs) : β ≠ γ := by
  rintro rfl
  obtain ⟨r, hR, _⟩ := s.row
  have e := hR.uniq R
  obtain ⟨v, hv, γ, c, rfl, _⟩ := S.get (i := 0) (b := bss[0]) (List.getElem?_eq_getElem hp)
  rw [← e, List.getElem?_append_left (by rw [cellsB_len, s.len]; decide)] at hv
  simp only [cellsB, List.getElem?_map, Option.map_eq_some_iff] at hv
  obtain ⟨a, _, ha⟩ := hv
  cases ha

theorem DiskAt.setL (A : DiskAt h d L N cv D) (B : Bd h m) {vl : List AV} {i : Nat} (Rl : Row h L vl) (Sl : SecVs h vl D.lasts) (s : SecV h v b) (hfe : ∀ γ, γ < m → γ ≠ L → hf.get γ = h.get γ) (R : Row hf L (vl.set i v)) :
    DiskAt hf d L N cv { D with lasts := D.lasts.set i b } := by
  have sm : ∀ v b, SecV h v b → SecV hf v b := fun v b s => by
    obtain ⟨β, c, rfl, s⟩ := s
    obtain ⟨r, hr, _⟩ := s.row
    exact ⟨β, c, rfl, s.of_eq (hfe β (B.row hr) (sec_ne_list Rl Sl (by rw [A.len]; exact A.pos) s))⟩
  obtain ⟨vn, Rn, Sn⟩ := A.now
  obtain ⟨cs, V, C⟩ := A.cac
  have hR := A.row.of_eq (hfe d (B.row A.row) A.dL)
  refine ⟨by simpa using hR, ⟨_, R, (Sl.mono sm).set (sm _ _ s)⟩, ⟨vn, Rn.of_eq (hfe N (B.row Rn) (Ne.symm A.LN)), Sn.mono sm⟩, ⟨cs, V.of_eq fun γ hγ => hfe γ (B.base V hγ) fun q => A.cL (q ▸ hγ), C.mono sm⟩,
    A.cne, A.dL, A.dN, A.LN, A.cd, A.cL, A.cN, by simpa using A.len, A.pos, A.big, A.idx, A.few, A.lim⟩

def setAll (l : List By) : List (Nat × By) → List By
  | [] => l
  | p :: r => setAll (l.set p.1 p.2) r
theorem setAll_snoc : ∀ (r : List (Nat × By)) (l : List By) (p : Nat × By), setAll l (r ++ [p]) = (setAll l r).set p.1 p.2
  | [], l, p => rfl
  | q :: r, l, p => by
    show setAll (l.set q.1 q.2) (r ++ [p]) = _
    rw [setAll_snoc r]; rfl
theorem setAll_len : ∀ (r : List (Nat × By)) (l : List By), (setAll l r).length = l.length
  | [], l => rfl
  | q :: r, l => by
    show (setAll (l.set q.1 q.2) r).length = _
    rw [setAll_len r, List.length_set]
def Dk.flush (D : Dk) : Dk := match D.dead with
  | true => D
  | false => { D with lasts := setAll D.lasts D.cache, cache := [] }

theorem flat2_at : ∀ (cc : List (Nat × AV)) (k : Nat) (i : Nat) (s : AV), cc[k]? = some (i, s) → ((flat2 cc).drop (k * 2)).take 2 = [.int .i64 (i : Int), s]
  | [], k, i, s, h => by simp at h
  | p :: l, 0, i, s, h => by
    simp at h; subst h; rfl
  | p :: l, k + 1, i, s, h => by
    have e : flat2 (p :: l) = .int .i64 p.1 :: p.2 :: flat2 l := rfl
    rw [e, show (k + 1) * 2 = k * 2 + 1 + 1 by omega, List.drop_succ_cons, List.drop_succ_cons]
    exact flat2_at l k i s (by simpa using h)
theorem CacV.at {cs : List AV} {cache : List (Nat × By)} {k : Nat} (C : CacV h cs cache) (hk : k < cache.length) : ∃ i s bs, cache[k]? = some (i, bs) ∧ SecV h s bs ∧ (cs.drop (k * 2)).take 2 = [.int .i64 (i : Int), s] := by
  obtain ⟨cc, rfl, e, S⟩ := C
  have hl : cc.length = cache.length := by have := congrArg List.length e; simpa using this
  have hk' : k < cc.length := by omega
  have e1 : cc[k].1 = cache[k].1 := by
    have := congrArg (fun l => l[k]?) e
    simp only [List.getElem?_map, List.getElem?_eq_getElem hk, List.getElem?_eq_getElem hk', Option.map_some] at this
    injection this
  refine ⟨cache[k].1, cc[k].2, cache[k].2, List.getElem?_eq_getElem hk, S.2 k _ _ (by rw [List.getElem?_map, List.getElem?_eq_getElem hk']; rfl) (by rw [List.getElem?_map, List.getElem?_eq_getElem hk]; rfl), flat2_at cc k _ _ ?_⟩
  rw [List.getElem?_eq_getElem hk', ← e1]
theorem tv81 : zeroT Tryd.prog 81 = some (.agg [.int .i64 0, .nils]) := by kernel_rfl

noncomputable def frF (d : Nat) (cv : AV) (n k : Nat) : Fr := (((T.nil.set 0 (.ptr d 0)).set 15 cv).set 16 (.int .i64 (n : Int))).set 17 (.int .i64 (k : Int))
theorem w_flush (A : Disk h d D own) (B : Bd h m) (hw : D.writes < 100000) :
    ∃ v' h' m', TC 16 [.ptr d 0] ⟨h, m⟩ = some (v', ⟨h', m'⟩) ∧ (v' = .tup [] ∧ ∃ own', Disk h' d D.flush own' ∧ Bd h' m' ∧ Stp own h m own' h' m') := by
  have A0 := A
  obtain ⟨L, N, cv, A, rfl⟩ := A
  have R := A.row
  obtain ⟨cs0, V0, C0⟩ := A.cac
  have hcl := C0.len
  have hfew := A.few
  refine top_fn Tryd.func16 (by rfl) rfl rfl (by rfl) ?_
  refine Ek.seq ?_
  refine Ek.seq ?_
  refine Ek.reg ?_
  refine SeqR.go rfl rfl rfl (st_pure rfl rfl) rfl ?_
  refine SeqR.go rfl rfl rfl (st_eqnil tu25) rfl ?_
  refine SeqR.go rfl rfl rfl (st_pure rfl rfl) rfl ?_
  refine SeqR.go rfl rfl rfl (st_pure rfl rfl) rfl ?_
  refine SeqR.go rfl rfl rfl (st_pure rfl rfl) rfl ?_
  refine SeqR.go rfl rfl rfl (fld tF61_5) rfl ?_
  refine SeqR.go rfl rfl rfl (ld ta4) rfl ?_
  refine SeqR.go rfl rfl rfl (st_pickF rfl) rfl ?_
  refine SeqR.nil ?_
  by_cases hdead : D.dead = true
  · refine Ek.condT rfl (by simp [hdead]) ?_
    refine Ek.ret ⟨Or.inr rfl, _, rfl, _, _, rfl, rfl, ⟨_, by unfold Dk.flush; rw [hdead]; exact A0, B.mono (by omega), Stp.refl (by omega)⟩⟩
  · refine Ek.condF rfl (by simp [hdead]) ?_
    refine Ek.skip ?_
    refine Ek.seq ?_
    refine Ek.seq ?_
    refine Ek.reg ?_
    refine SeqR.go rfl rfl rfl (st_pure rfl rfl) rfl ?_
    refine SeqR.go rfl rfl rfl (st_pure rfl rfl) rfl ?_
    refine SeqR.go rfl rfl rfl (fld tF61_2) rfl ?_
    refine SeqR.go rfl rfl rfl (ld ta59) rfl ?_
    refine SeqR.go rfl rfl rfl (st_lenV te59 V0 (by decide) hcl) rfl ?_
    refine SeqR.go rfl rfl rfl (st_pure rfl rfl) rfl ?_
    refine SeqR.nil ?_
    refine Ek.block ?_
    refine Ek.loop_inv (fun e fr st => ∃ k hk mk, k + e = D.cache.length ∧ Le (frF d cv D.cache.length k) fr ∧ st = ⟨hk, mk⟩ ∧ m ≤ mk ∧ Bd hk mk ∧ DiskAt hk d L N cv { D with lasts := setAll D.lasts (D.cache.take k) } ∧ ∀ γ, γ < m → γ ≠ L → hk.get γ = h.get γ) ?_ (D.cache.length) _ _ ⟨0, _, _, by omega, Le.put (Le.put (Le.put (Le.put (Le.nil _) rfl) rfl) rfl) rfl, rfl, by omega, B.mono (by omega), by simpa [setAll] using A, fun _ _ _ => rfl⟩
    rintro e fr st ⟨k, hk, mk, hi, hle, rfl, hmk, Bk, Ak, samek⟩
    refine Ek.weaken hle ?_
    clear hle
    have Rk := Ak.row
    simp only at Rk
    have hdk := Bk.row Rk
    refine Ek.seq ?_
    refine Ek.reg ?_
    refine SeqR.go rfl rfl rfl (st_pure rfl rfl) rfl ?_
    refine SeqR.nil ?_
    refine Ek.seq ?_
    by_cases hkK : k < D.cache.length
    · refine Ek.condT rfl (by simp [hkK]) ?_
      refine Ek.skip ?_
      refine Ek.seq ?_
      refine Ek.block ?_
      refine Ek.seq ?_
      refine Ek.reg ?_
      obtain ⟨csk, Vk, Ck⟩ := Ak.cac
      obtain ⟨i, s1, bs1, hci, hs, hat⟩ := Ck.at hkK
      have hclk := Ck.len
      obtain ⟨C, n2, rfl, hn2, hCk⟩ := Vk.sl_of (by rintro rfl; simp only [List.length_nil] at hclk; omega)
      have hn2k : k < n2 := by simp only at hclk; omega
      have hld : ∀ nm x m2, stepA Tryd.prog TC nm ⟨hk, m2⟩ (.load 81 x) [.ptr C (0 + (k : Int).toNat * 2)] = some (.agg [.int .i64 (i : Int), s1], ⟨hk, m2⟩) := by
        intro nm x m2
        have q := st_lds (P := Tryd.prog) (call := TC) (nm := nm) (m := m2) (x := x) ta81 tz81 hCk (k := 0 + (k : Int).toNat * 2) (by simp; omega)
        rw [show 0 + (k : Int).toNat * 2 = k * 2 by simp] at q ⊢
        rw [hat] at q; exact q
      obtain ⟨vl, Rl, Sl⟩ := Ak.lasts
      have hvl := Sl.1
      have hlk := Bk.row Rl
      have hlen := Ak.len
      simp only at hlen hvl
      have hin := Ak.idx (i, bs1) (List.mem_of_getElem? hci)
      simp only at hin
      obtain ⟨β1, c1, rfl, hs1⟩ := id hs
      have hdL := Ak.dL
      refine SeqR.go rfl rfl rfl (idx te59 tz81) rfl ?_
      refine SeqR.go rfl rfl rfl (hld _ _ _) rfl ?_
      refine SeqR.go rfl rfl rfl (st_allocZ tv81 rfl) rfl ?_
      refine SeqR.go rfl rfl rfl (strr tz81) rfl ?_
      refine SeqR.nil ?_
      refine Ek.drw (by kernel_rfl) ?_
      refine SeqD.go rfl rfl rfl (st_pure rfl rfl) rfl ?_
      refine SeqD.go rfl rfl rfl (st_pure rfl rfl) rfl ?_
      refine SeqD.go rfl rfl rfl (fld tF61_0) rfl ?_
      refine SeqD.go rfl rfl rfl (ld ta22) rfl ?_
      refine SeqD.go rfl rfl rfl (fld tF81_0) rfl ?_
      refine SeqD.go rfl rfl rfl (ld ta3 (R := by exact Row.upd Row.new (by simp [AV.cells]))) rfl ?_
      refine SeqD.go rfl rfl rfl (fld tF81_1) rfl ?_
      refine SeqD.go rfl rfl rfl (ld ta33 (R := by exact Row.upd Row.new (by simp [AV.cells]))) rfl ?_
      refine SeqD.go rfl rfl rfl (idx te22 tz33) rfl ?_
      refine SeqD.go rfl rfl rfl (strr tz33) rfl ?_
      refine SeqD.nil ?_
      refine Ek.reg ?_
      refine SeqR.go rfl rfl rfl add1 rfl ?_
      refine SeqR.go rfl rfl rfl (st_pure rfl rfl) rfl ?_
      refine SeqR.nil ?_
      refine ⟨e - 1, by omega, k + 1, _, _, by omega, Le.put (Le.put (Le.put (Le.put (Le.nil _) rfl) rfl) rfl) rfl, rfl, by omega, ((Bd.set (m' := mk + 1 + 1 + 1 + 1) Bk (by omega) (by omega)).upd.upd).mono (by omega), ?_, fun γ g1 g2 => by rw [upd_ne g2, upd_ne (by omega), get_set_ne (by omega), samek γ g1 g2]⟩
      have A2 := Ak.setL Bk (i := i) Rl Sl hs (hf := ((hk.set (mk + 1 + 1 + 1) (blkOf (AV.agg [.int .i64 0, .nils]).cells)).upd (mk + 1 + 1 + 1) 0 (AV.agg [.int .i64 (i : Int), secV β1 c1]).cells).upd L (0 + (i : Int).toNat * 1) (secV β1 c1).cells) (fun γ g1 g2 => by rw [upd_ne g2, upd_ne (by omega), get_set_ne (by omega)])
        (by simpa [AV.cells, secV] using (((Rl.set_ne (γ := mk + 1 + 1 + 1) (b := blkOf (AV.agg [.int .i64 0, .nils]).cells) (by omega)).upd_ne (γ := mk + 1 + 1 + 1) (k := 0) (vs := (AV.agg [.int .i64 (i : Int), secV β1 c1]).cells) (by omega)).upd1 (k := 0 + (i : Int).toNat * 1) (v := secV β1 c1) (by simp; omega)))
      have e1 : setAll D.lasts (D.cache.take (k + 1)) = (setAll D.lasts (D.cache.take k)).set i bs1 := by
        rw [List.take_add_one, hci]; exact setAll_snoc _ _ (i, bs1)
      rw [e1]
      exact A2
    · refine Ek.condF rfl (by simp [hkK]) ?_
      refine Ek.exit ?_
      simp only [AEx.then, AEx.inBlock, if_true]
      refine Ek.reg ?_
      refine SeqR.go rfl rfl rfl (st_pure rfl rfl) rfl ?_
      refine SeqR.go rfl rfl rfl (st_pure rfl rfl) rfl ?_
      refine SeqR.go rfl rfl rfl (fld tF61_2) rfl ?_
      refine SeqR.go rfl rfl rfl (strr tz59) rfl ?_
      refine SeqR.nil ?_
      have hkn : k = D.cache.length := by omega
      subst hkn
      rw [List.take_length] at Ak Rk
      have e2 : D.flush = { D with lasts := setAll D.lasts D.cache, cache := [] } := by unfold Dk.flush; rw [show D.dead = false by simpa using hdead]
      have hfe : ∀ γ, γ ≠ d → (hk.upd d (0 + 2) AV.nils.cells).get γ = hk.get γ := fun γ g => upd_ne g
      have A3 : Disk hk d _ (Ow d L N cv) := ⟨L, N, cv, Ak, rfl⟩
      have sm : ∀ v b, SecV hk v b → SecV (hk.upd d (0 + 2) AV.nils.cells) v b := fun v b s => by
        obtain ⟨β, c, rfl, s⟩ := s
        exact ⟨β, c, rfl, s.of_eq (hfe β fun q => A3.sec s (Or.inl q))⟩
      obtain ⟨vl, Rl, Sl⟩ := Ak.lasts
      obtain ⟨vn, Rn, Sn⟩ := Ak.now
      refine ⟨Or.inl rfl, _, rfl, _, _, rfl, rfl, Ow d L N .nils, ⟨L, N, .nils, ?_, rfl⟩, (Bk.upd).mono (by omega), by omega, fun γ g1 g2 => ?_, ?_⟩
      · rw [e2]
        exact ⟨Rk.upd1 (by simp), ⟨vl, Rl.upd_ne (Ne.symm Ak.dL), Sl.mono sm⟩, ⟨vn, Rn.upd_ne (Ne.symm Ak.dN), Sn.mono sm⟩, ⟨[], Or.inl ⟨rfl, rfl⟩, [], rfl, rfl, SecVs.nil⟩, Or.inl rfl, Ak.dL, Ak.dN, Ak.LN, fun e => (by cases e), fun e => (by cases e), fun e => (by cases e), Ak.len, Ak.pos, Ak.big, fun p hp => (by simp at hp), by simp, Ak.lim⟩
      · rw [upd_ne (fun e => g2 (Or.inl e)), samek γ g1 (fun e => g2 (Or.inr (Or.inl e)))]
      · rintro γ (e | e | e | e)
        · exact Or.inl (Or.inl e)
        · exact Or.inl (Or.inr (Or.inl e))
        · exact Or.inl (Or.inr (Or.inr (Or.inl e)))
        · cases e
end
end Go.Xec
