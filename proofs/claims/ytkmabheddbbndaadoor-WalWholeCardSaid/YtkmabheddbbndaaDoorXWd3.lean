/- The disk's functions, by contract: Read, Write, Limit. -/
import Derived.Test.YtkmabheddbbndaaDoorXWd2
namespace Go.Xec
open Go.Proofs
section
variable {h h' : T ABlk} {d L N β m m' : Nat} {cv v : AV} {D : Dk} {own own' : Nat → Prop} {bs b : By}
theorem Disk.keep (A : Disk h d D own) (B : Bd h m) (hs : ∀ γ, γ < m → h'.get γ = h.get γ) : Disk h' d D own := by
  obtain ⟨L, N, cv, A, rfl⟩ := A
  have sm : ∀ v b, SecV h v b → SecV h' v b := fun v b s => s.keep B hs
  obtain ⟨vl, Rl, Sl⟩ := A.lasts
  obtain ⟨vn, Rn, Sn⟩ := A.now
  obtain ⟨cs, V, cc, e1, e2, S⟩ := A.cac
  refine ⟨L, N, cv, { A with row := A.row.of_eq (hs _ (B.row A.row)), lasts := ⟨vl, Rl.of_eq (hs _ (B.row Rl)), Sl.mono sm⟩, now := ⟨vn, Rn.of_eq (hs _ (B.row Rn)), Sn.mono sm⟩, cac := ⟨cs, V.of_eq fun β hβ => ?_, cc, e1, e2, S.mono sm⟩ }, rfl⟩
  obtain ⟨rfl, _⟩ | ⟨γ, n, rfl, _, R⟩ := V
  · cases hβ
  · injection hβ with hβ; subst hβ; exact hs _ (B.row R)
theorem Disk.own_lt (A : Disk h d D own) (B : Bd h m) {γ : Nat} (hγ : own γ) : γ < m := by
  obtain ⟨L, N, cv, A, rfl⟩ := A
  obtain rfl | rfl | rfl | hc := hγ
  · exact B.row A.row
  · obtain ⟨_, R, _⟩ := A.lasts; exact B.row R
  · obtain ⟨_, R, _⟩ := A.now; exact B.row R
  · obtain ⟨cs, V, _⟩ := A.cac
    obtain ⟨rfl, _⟩ | ⟨β, n, rfl, _, R⟩ := V
    · cases hc
    · injection hc with hc; subst hc; exact B.row R

theorem w_read (A : Disk h d D own) (B : Bd h m) {i : Nat} (hi : D.now[i]? = some bs) : ∃ v h' m', TC 14 [.ptr d 0, .int .i64 (i : Int)] ⟨h, m⟩ = some (v, ⟨h', m'⟩) ∧ (∃ s, v = .tup [s, .nili] ∧ SecV h' s bs ∧ Bd h' m' ∧ m ≤ m' ∧ ∀ γ, γ < m → h'.get γ = h.get γ) := by
  have A0 := A
  obtain ⟨L, N, cv, A, rfl⟩ := A
  have R := A.row
  obtain ⟨vn, Rn, Sn⟩ := A.now
  obtain ⟨s, hs, hsec⟩ := Sn.get hi
  have hlt := (List.getElem?_eq_some_iff.1 hi).1
  refine top_fn Tryd.func14 (by rfl) rfl rfl (by rfl) ?_
  refine Ek.seq ?_
  refine Ek.reg ?_
  refine SeqR.go rfl rfl rfl (st_pure rfl rfl) rfl ?_
  refine SeqR.go rfl rfl rfl (st_pure rfl rfl) rfl ?_
  refine SeqR.nil ?_
  refine Ek.seq ?_
  refine Ek.seq ?_
  refine Ek.reg ?_
  refine SeqR.go rfl rfl rfl (st_pure rfl rfl) rfl ?_
  refine SeqR.go rfl rfl rfl (st_pure rfl rfl) rfl ?_
  refine SeqR.cal rfl rfl rfl rfl rfl (w_is A0) ?_
  rintro _ _ m1 ⟨rfl, rfl, hm1⟩
  refine ⟨_, rfl, ?_⟩
  refine SeqR.go rfl rfl rfl (st_pure rfl rfl) rfl ?_
  refine SeqR.nil ?_
  refine Ek.condF rfl (by simp; omega) ?_
  refine Ek.skip ?_
  refine Ek.seq ?_
  refine Ek.reg ?_
  refine SeqR.go rfl rfl rfl (st_pure rfl rfl) rfl ?_
  refine SeqR.go rfl rfl rfl (st_pure rfl rfl) rfl ?_
  refine SeqR.go rfl rfl rfl (fld tF61_1) rfl ?_
  refine SeqR.go rfl rfl rfl (ld ta22) rfl ?_
  refine SeqR.go rfl rfl rfl (st_pure rfl rfl) rfl ?_
  refine SeqR.go rfl rfl rfl (idx te22 tz33) rfl ?_
  have hx : vn[0 + (i : Int).toNat * 1]? = some s := by simpa using hs
  refine SeqR.go rfl rfl rfl (ld ta33) rfl ?_
  refine SeqR.cal rfl rfl rfl rfl rfl (w_clone hsec (B.mono (by omega))) ?_
  rintro s1 h1 m2 ⟨q1, q2, q3, q4⟩
  refine ⟨_, rfl, ?_⟩
  refine SeqR.go rfl rfl rfl (st_pure rfl rfl) rfl ?_
  refine SeqR.go rfl rfl rfl (st_pure rfl rfl) rfl ?_
  refine SeqR.nil ?_
  exact Ek.ret ⟨Or.inr rfl, _, rfl, _, _, rfl, s1, rfl, q1, q2.mono (by omega), by omega, fun γ hγ => q4 γ (by omega)⟩

def Dk.write (D : Dk) (i : Nat) (bs : By) : Dk := match D.dead with
  | true => D
  | false => { D with now := D.now.set i bs, cache := D.cache ++ [(i, bs)], writes := D.writes + 1, limit := if 0 < D.limit then D.limit - 1 else D.limit, dead := decide ((if 0 < D.limit then D.limit - 1 else D.limit) = 0) }

theorem wr_build (i : Int) (β c : Nat) : pureA Tryd.prog (.build 81 #[(0, .tmp 45), (1, .tmp 46)]) [.int .i64 i, secV β c] = some (.agg [.int .i64 i, secV β c]) := by kernel_rfl
theorem flat2_len (cc : List (Nat × AV)) : (flat2 cc).length = cc.length * 2 := by
  induction cc with
  | nil => rfl
  | cons p l ih =>
    have : flat2 (p :: l) = .int .i64 p.1 :: p.2 :: flat2 l := rfl
    rw [this, List.length_cons, List.length_cons, ih, List.length_cons]; omega
theorem CacV.len {cs : List AV} {cache : List (Nat × By)} (C : CacV h cs cache) : cs.length = cache.length * 2 := by
  obtain ⟨cc, rfl, e, _⟩ := C
  rw [flat2_len, ← List.length_map (f := (·.1)), e, List.length_map]
theorem CacV.mono {cs : List AV} {cache : List (Nat × By)} (C : CacV h cs cache) (hm : ∀ v b, SecV h v b → SecV h' v b) : CacV h' cs cache := by
  obtain ⟨cc, e1, e2, S⟩ := C
  exact ⟨cc, e1, e2, S.mono hm⟩
theorem CacV.snoc {cs : List AV} {cache : List (Nat × By)} {i : Nat} (C : CacV h cs cache) (s : SecV h v b) : CacV h (cs ++ [.int .i64 i, v]) (cache ++ [(i, b)]) := by
  obtain ⟨cc, rfl, e2, S⟩ := C
  refine ⟨cc ++ [(i, v)], by simp [flat2], by simp [e2], ?_⟩
  rw [List.map_append, List.map_append]
  exact S.append (SecVs.one s)


theorem wr_fin (A : DiskAt h d L N cv D) (B : Bd h m) {i mf : Nat} {hf : T ABlk} {v2 s1 : AV} {vn cs : List AV} {lim : Int} {dd : Bool} (hi : i < D.now.length) (hdead : D.dead = false)
    (R : Row hf d [.sl L 0 D.lasts.length D.lasts.length 1, .sl N 0 D.now.length D.now.length 1, v2, .int .i64 ((D.writes + 1 : Nat) : Int), .int .i64 lim, .bool dd])
    {h2 : T ABlk} (hfe : ∀ γ, γ ≠ d → hf.get γ = h2.get γ) (Rn2 : Row h2 N (vn.set i s1)) (Sn : SecVs h vn D.now) (s2 : SecV h2 s1 bs) (hsd : ∀ β c, s1 = secV β c → β ≠ d) (V2 : Vec h2 2 v2 (cs ++ [.int .i64 i, s1])) (C : CacV h cs D.cache)
    (same2 : ∀ γ, γ < m → γ ≠ d → γ ≠ N → cv.base ≠ some γ → h2.get γ = h.get γ) (hb : v2.base = cv.base ∨ ∃ q, v2.base = some q ∧ m ≤ q) (Bf : Bd hf mf) (hm : m ≤ mf)
    (hl : lim = if 0 < D.limit then D.limit - 1 else D.limit) (hd : dd = decide (lim = 0)) : ∃ own', Disk hf d (D.write i bs) own' ∧ Bd hf mf ∧ Stp (Ow d L N cv) h m own' hf mf := by
  have hdm := B.row A.row
  have hNm : N < m := by obtain ⟨_, R, _⟩ := A.now; exact B.row R
  have hLm : L < m := by obtain ⟨_, R, _⟩ := A.lasts; exact B.row R
  have A' : Disk h d D (Ow d L N cv) := ⟨L, N, cv, A, rfl⟩
  have same : ∀ γ, γ < m → γ ≠ d → γ ≠ N → cv.base ≠ some γ → hf.get γ = h.get γ := fun γ g1 g2 g3 g4 => (hfe γ g2).trans (same2 γ g1 g2 g3 g4)
  have Rn : Row hf N (vn.set i s1) := Rn2.of_eq (hfe N (Ne.symm A.dN))
  have hvd : ∀ γ, v2.base = some γ → γ ≠ d := by
    intro γ hγ e
    rcases hb with e2 | ⟨q, e2, hq⟩
    · exact A.cd (by rw [← e2, hγ, e])
    · rw [hγ] at e2; injection e2; omega
  have V : Vec hf 2 v2 (cs ++ [.int .i64 i, s1]) := V2.of_eq fun γ hγ => hfe γ (hvd γ hγ)
  have s : SecV hf s1 bs := by
    obtain ⟨β, c, e, q⟩ := s2
    exact ⟨β, c, e, q.of_eq (hfe β (hsd β c e))⟩
  have sm : ∀ v b, SecV h v b → SecV hf v b := fun v b s => by
    refine s.stp A' B (own' := Ow d L N cv) ⟨hm, fun γ h1 h2 => same γ h1 (fun e => h2 (Or.inl e)) (fun e => h2 (Or.inr (Or.inr (Or.inl e)))) (fun e => h2 (Or.inr (Or.inr (Or.inr e)))), fun γ q => Or.inl q⟩
  have hwr : D.write i bs = { D with now := D.now.set i bs, cache := D.cache ++ [(i, bs)], writes := D.writes + 1, limit := if 0 < D.limit then D.limit - 1 else D.limit, dead := decide ((if 0 < D.limit then D.limit - 1 else D.limit) = 0) } := by
    unfold Dk.write; rw [hdead]
  obtain ⟨vl, Rl, Sl⟩ := A.lasts
  refine ⟨Ow d L N v2, ⟨L, N, v2, ?_, rfl⟩, Bf, hm, fun γ h1 h2 => same γ h1 (fun e => h2 (Or.inl e)) (fun e => h2 (Or.inr (Or.inr (Or.inl e)))) (fun e => h2 (Or.inr (Or.inr (Or.inr e)))), ?_⟩
  · rw [hwr]
    refine ⟨?_, ⟨vl, Rl.of_eq (same L hLm (Ne.symm A.dL) A.LN A.cL), Sl.mono sm⟩, ⟨_, Rn, (Sn.mono sm).set s⟩, ⟨_, V, (C.mono sm).snoc s⟩, Or.inr (by simp), A.dL, A.dN, A.LN, ?_, ?_, ?_, ?_, ?_, ?_, ?_, ?_, ?_⟩
    · simp only [List.length_set]
      rw [hd, hl] at R; exact R
    · rcases hb with e | ⟨q, e, hq⟩
      · rw [e]; exact A.cd
      · rw [e]; intro x; injection x; omega
    · rcases hb with e | ⟨q, e, hq⟩
      · rw [e]; exact A.cL
      · rw [e]; intro x; injection x; omega
    · rcases hb with e | ⟨q, e, hq⟩
      · rw [e]; exact A.cN
      · rw [e]; intro x; injection x; omega
    · simp [A.len]
    · simpa using A.pos
    · simpa using A.big
    · intro p hp
      simp only [List.mem_append, List.mem_singleton] at hp
      rw [List.length_set]
      rcases hp with hp | rfl
      · exact A.idx p hp
      · exact hi
    · have := A.few; simp; exact this
    · have := A.lim; simp only; split <;> omega
  · rintro γ (e | e | e | e)
    · exact Or.inl (Or.inl e)
    · exact Or.inl (Or.inr (Or.inl e))
    · exact Or.inl (Or.inr (Or.inr (Or.inl e)))
    · rcases hb with e2 | ⟨q, e2, hq⟩
      · exact Or.inl (Or.inr (Or.inr (Or.inr (e2 ▸ e))))
      · rw [e2] at e; injection e with e; subst e; exact Or.inr hq

theorem Vec.sl_of {z : Nat} {l : List AV} (V : Vec h z v l) (hl : l ≠ []) : ∃ β n, v = .sl β 0 n n z ∧ l.length = n * z ∧ Row h β l := by
  obtain ⟨_, e⟩ | ⟨β, n, e, e1, e2⟩ := V
  · exact absurd e hl
  · exact ⟨β, n, e, e1, e2⟩

theorem w_write (A : Disk h d D own) (B : Bd h m) (s : SecV h v bs) {i : Nat} (hi : i < D.now.length) (hw : D.writes < 100000) :
    ∃ v' h' m', TC 15 [.ptr d 0, .int .i64 (i : Int), v] ⟨h, m⟩ = some (v', ⟨h', m'⟩) ∧ (v' = .nili ∧ ∃ own', Disk h' d (D.write i bs) own' ∧ Bd h' m' ∧ Stp own h m own' h' m') := by
  have A0 := A
  obtain ⟨L, N, cv, A, rfl⟩ := A
  have R := A.row
  have hdN := A.dN
  have hdm := B.row A.row
  obtain ⟨vn, Rn, Sn⟩ := A.now
  have hNm := B.row Rn
  have hvl := Sn.1
  obtain ⟨cs, V, C⟩ := A.cac
  have hcl := C.len
  have hfew := A.few
  have s0 := s
  have hlim := A.lim
  obtain ⟨β, cp, rfl, s⟩ := s
  refine top_fn Tryd.func15 (by rfl) rfl rfl (by rfl) ?_
  refine Ek.seq ?_
  refine Ek.reg ?_
  refine SeqR.go rfl rfl rfl (st_pure rfl rfl) rfl ?_
  refine SeqR.nil ?_
  refine Ek.seq ?_
  refine Ek.seq ?_
  refine Ek.reg ?_
  refine SeqR.go rfl rfl rfl (st_pure rfl rfl) rfl ?_
  refine SeqR.go rfl rfl rfl (st_pure rfl rfl) rfl ?_
  refine SeqR.cal rfl rfl rfl rfl rfl (w_is A0) ?_
  rintro _ _ m1 ⟨rfl, rfl, hm1⟩
  refine ⟨_, rfl, ?_⟩
  refine SeqR.go rfl rfl rfl (st_pure rfl rfl) rfl ?_
  refine SeqR.go rfl rfl rfl (st_pure rfl rfl) rfl ?_
  refine SeqR.go rfl (by simp; omega) rfl (st_pure rfl rfl) rfl ?_
  refine SeqR.go rfl (by simp; omega) rfl (st_len te33) rfl ?_
  refine SeqR.go rfl (by simp; omega) rfl (st_pure rfl rfl) rfl ?_
  refine SeqR.go rfl rfl rfl (st_pickF (by simp; omega)) rfl ?_
  refine SeqR.nil ?_
  refine Ek.condF rfl rfl ?_
  refine Ek.skip ?_
  refine Ek.seq ?_
  refine Ek.seq ?_
  refine Ek.reg ?_
  refine SeqR.go rfl rfl rfl (st_pure rfl rfl) rfl ?_
  refine SeqR.go rfl rfl rfl (st_pure rfl rfl) rfl ?_
  refine SeqR.go rfl rfl rfl (fld tF61_5) rfl ?_
  refine SeqR.go rfl rfl rfl (ld ta4) rfl ?_
  refine SeqR.nil ?_
  by_cases hdead : D.dead = true
  · refine Ek.condT rfl (by simp [hdead]) ?_
    refine Ek.seq ?_
    refine Ek.reg ?_
    refine SeqR.go rfl rfl rfl (st_pure rfl rfl) rfl ?_
    refine SeqR.nil ?_
    refine Ek.ret ⟨Or.inr rfl, _, rfl, _, _, rfl, rfl, ⟨_, by unfold Dk.write; rw [hdead]; exact A0, B.mono (by omega), Stp.refl (by omega)⟩⟩
  · refine Ek.condF rfl (by simp [hdead]) ?_
    refine Ek.skip ?_
    refine Ek.seq ?_
    refine Ek.reg ?_
    refine SeqR.go rfl rfl rfl (st_pure rfl rfl) rfl ?_
    refine SeqR.cal rfl rfl rfl rfl rfl (w_clone s0 (B.mono (by omega))) ?_
    rintro s1 h1 m2 ⟨q1, q2, q3, q4⟩
    refine ⟨_, rfl, ?_⟩
    refine SeqR.go rfl rfl rfl (st_pure rfl rfl) rfl ?_
    refine SeqR.nil ?_
    refine Ek.seq ?_
    refine Ek.reg ?_
    have hR1 := R.of_eq (q4 d (by omega))
    have hRn1 := Rn.of_eq (q4 N (by omega))
    obtain ⟨β1, c1, rfl, hs1⟩ := q1
    refine SeqR.go rfl rfl rfl (st_pure rfl rfl) rfl ?_
    refine SeqR.go rfl rfl rfl (st_pure rfl rfl) rfl ?_
    refine SeqR.go rfl rfl rfl (fld tF61_1) rfl ?_
    refine SeqR.go rfl rfl rfl (ld ta22) rfl ?_
    refine SeqR.go rfl rfl rfl (st_pure rfl rfl) rfl ?_
    refine SeqR.go rfl rfl rfl (st_pure rfl rfl) rfl ?_
    refine SeqR.go rfl rfl rfl (idx te22 tz33) rfl ?_
    refine SeqR.go rfl rfl rfl (strr tz33) rfl ?_
    refine SeqR.nil ?_
    refine Ek.seq ?_
    refine Ek.reg ?_
    refine SeqR.go rfl rfl rfl (st_pure rfl rfl) rfl ?_
    refine SeqR.go rfl rfl rfl (st_pure rfl rfl) rfl ?_
    refine SeqR.go rfl rfl rfl (st_pure rfl rfl) rfl ?_
    refine SeqR.go rfl rfl rfl (fld tF61_2) rfl ?_
    refine SeqR.go rfl rfl rfl (ld ta59) rfl ?_
    refine SeqR.go rfl rfl rfl (st_pure rfl rfl) rfl ?_
    refine SeqR.go rfl rfl rfl (st_pure rfl rfl) rfl ?_
    refine SeqR.go rfl rfl rfl (st_pure rfl (wr_build _ _ _)) rfl ?_
    refine SeqR.go rfl rfl rfl (bs1 te59 tz81 tzo81) rfl ?_
    have hcm : ∀ γ, cv.base = some γ → γ < m := fun γ hγ => A0.own_lt B (Or.inr (Or.inr (Or.inr hγ)))
    have hcN : ∀ γ, cv.base = some γ → γ ≠ N := fun γ hγ e => A.cN (e ▸ hγ)
    have hcd : ∀ γ, cv.base = some γ → γ ≠ d := fun γ hγ e => A.cd (e ▸ hγ)
    refine SeqR.ex rfl rfl rfl (st_app (new := [.int .i64 (i : Int), secV β1 c1]) (k := 1) te59 tz81 tb81 te59 (V.of_eq fun γ hγ => by rw [get_set_ne (by have := hcm γ hγ; omega), upd_ne (hcN γ hγ), q4 γ (by have := hcm γ hγ; omega)]) (by decide) (by decide) rfl (elems_row (Row.new) (by simp [AV.cells])) rfl rfl tzo81 (by simp; omega)) ?_
    rintro v2 h2 m3 ⟨V2, p1, p2, p3, p4⟩
    refine ⟨_, rfl, ?_⟩
    have A1 := A0.keep B (fun γ hγ => q4 γ (by omega))
    have no1 := A1.sec hs1
    have hb1 : β1 < m2 := by obtain ⟨r, R, _⟩ := hs1.row; exact q2.row R
    have hR2 : Row h2 d _ := ((hR1.upd_ne hdN).set_ne (by omega)).of_eq (p3 d (Or.inl (by omega)) (fun e => A.cd e))
    have hRn2 : Row h2 N (vn.set i (secV β1 c1)) := by simpa [AV.cells] using ((hRn1.upd1 (k := 0 + (i : Int).toNat * 1) (v := secV β1 c1) (by simp; omega)).set_ne (by omega)).of_eq (p3 N (Or.inl (by omega)) (fun e => A.cN e))
    have hs2 : SecV h2 (secV β1 c1) bs := ⟨β1, c1, rfl, hs1.of_eq (by rw [p3 β1 (Or.inl (by omega)) (fun e => no1 (Or.inr (Or.inr (Or.inr e)))), get_set_ne (by omega), upd_ne (fun e => no1 (Or.inr (Or.inr (Or.inl e))))])⟩
    have hsame : ∀ γ, γ < m → γ ≠ d → γ ≠ N → cv.base ≠ some γ → h2.get γ = h.get γ := fun γ g1 g2 g3 g4 => by rw [p3 γ (Or.inl (by omega)) g4, get_set_ne (by omega), upd_ne g3, q4 γ (by omega)]
    have hB2 : Bd h2 m3 := ((q2.upd).set (by omega) (Nat.le_succ_of_le (by omega))).of p1 (fun γ hγ => p3 γ (Or.inr hγ) (fun e => by have := hcm γ e; omega))
    have hbb : v2.base = cv.base ∨ ∃ q, v2.base = some q ∧ m ≤ q := p4.imp id (fun e => ⟨_, e, by omega⟩)
    have V2s := V2
    obtain ⟨β2, n2, rfl, -, -⟩ := V2.sl_of (by simp)
    refine SeqR.go rfl rfl rfl (st_pure rfl rfl) rfl ?_
    refine SeqR.go rfl rfl rfl (fld tF61_2) rfl ?_
    refine SeqR.go rfl rfl rfl (strr tz59) rfl ?_
    refine SeqR.nil ?_
    refine Ek.seq ?_
    refine Ek.reg ?_
    refine SeqR.go rfl rfl rfl (st_pure rfl rfl) rfl ?_
    refine SeqR.go rfl rfl rfl (st_pure rfl rfl) rfl ?_
    refine SeqR.go rfl rfl rfl (fld tF61_3) rfl ?_
    refine SeqR.go rfl rfl rfl (ld ta3) rfl ?_
    refine SeqR.go rfl rfl rfl add1 rfl ?_
    refine SeqR.go rfl rfl rfl (st_pure rfl rfl) rfl ?_
    refine SeqR.go rfl rfl rfl (fld tF61_3) rfl ?_
    refine SeqR.go rfl rfl rfl (strr tz3) rfl ?_
    refine SeqR.nil ?_
    refine Ek.seq ?_
    refine Ek.seq ?_
    refine Ek.reg ?_
    refine SeqR.go rfl rfl rfl (st_pure rfl rfl) rfl ?_
    refine SeqR.go rfl rfl rfl (st_pure rfl rfl) rfl ?_
    refine SeqR.go rfl rfl rfl (fld tF61_4) rfl ?_
    refine SeqR.go rfl rfl rfl (ld ta3) rfl ?_
    refine SeqR.go rfl rfl rfl (st_pure rfl rfl) rfl ?_
    refine SeqR.nil ?_
    by_cases hl : 0 < D.limit
    · refine Ek.condT rfl (by simp [hl]) ?_
      refine Ek.reg ?_
      refine SeqR.go rfl rfl rfl (st_pure rfl rfl) rfl ?_
      refine SeqR.go rfl rfl rfl (st_pure rfl rfl) rfl ?_
      refine SeqR.go rfl rfl rfl (fld tF61_4) rfl ?_
      refine SeqR.go rfl rfl rfl (ld ta3) rfl ?_
      refine SeqR.go rfl rfl rfl (st_sub (r := D.limit - 1) (by rw [IntWalk.i64_in _ (by omega)])) rfl ?_
      refine SeqR.go rfl rfl rfl (st_pure rfl rfl) rfl ?_
      refine SeqR.go rfl rfl rfl (fld tF61_4) rfl ?_
      refine SeqR.go rfl rfl rfl (strr tz3) rfl ?_
      refine SeqR.nil ?_
      refine Ek.seq ?_
      refine Ek.reg ?_
      refine SeqR.go rfl rfl rfl (st_pure rfl rfl) rfl ?_
      refine SeqR.go rfl rfl rfl (st_pure rfl rfl) rfl ?_
      refine SeqR.go rfl rfl rfl (st_pure rfl rfl) rfl ?_
      refine SeqR.go rfl rfl rfl (fld tF61_4) rfl ?_
      refine SeqR.go rfl rfl rfl (ld ta3) rfl ?_
      refine SeqR.go rfl rfl rfl (st_pure rfl rfl) rfl ?_
      refine SeqR.go rfl rfl rfl (st_pure rfl rfl) rfl ?_
      refine SeqR.go rfl rfl rfl (fld tF61_5) rfl ?_
      refine SeqR.go rfl rfl rfl (strr tz4) rfl ?_
      refine SeqR.nil ?_
      refine Ek.seq ?_
      refine Ek.reg ?_
      refine SeqR.go rfl rfl rfl (st_pure rfl rfl) rfl ?_
      refine SeqR.nil ?_
      refine Ek.ret ⟨Or.inr rfl, _, rfl, _, _, rfl, rfl, wr_fin A B hi (by simpa using hdead) (lim := D.limit - 1) ((((hR2.upd1 (by simp)).upd1 (by simp)).upd1 (by simp)).upd1 (by simp)) (fun γ g => by simp only [upd_ne g]) hRn2 Sn hs2 (fun β c e => by cases e; exact fun e => no1 (Or.inl e)) V2s C hsame hbb (((hB2.upd.upd).upd.upd).mono (by omega)) (by omega) (by rw [if_pos hl]) rfl⟩
    · refine Ek.condF rfl (by simp [hl]) ?_
      refine Ek.skip ?_
      refine Ek.seq ?_
      refine Ek.reg ?_
      refine SeqR.go rfl rfl rfl (st_pure rfl rfl) rfl ?_
      refine SeqR.go rfl rfl rfl (st_pure rfl rfl) rfl ?_
      refine SeqR.go rfl rfl rfl (st_pure rfl rfl) rfl ?_
      refine SeqR.go rfl rfl rfl (fld tF61_4) rfl ?_
      refine SeqR.go rfl rfl rfl (ld ta3) rfl ?_
      refine SeqR.go rfl rfl rfl (st_pure rfl rfl) rfl ?_
      refine SeqR.go rfl rfl rfl (st_pure rfl rfl) rfl ?_
      refine SeqR.go rfl rfl rfl (fld tF61_5) rfl ?_
      refine SeqR.go rfl rfl rfl (strr tz4) rfl ?_
      refine SeqR.nil ?_
      refine Ek.seq ?_
      refine Ek.reg ?_
      refine SeqR.go rfl rfl rfl (st_pure rfl rfl) rfl ?_
      refine SeqR.nil ?_
      refine Ek.ret ⟨Or.inr rfl, _, rfl, _, _, rfl, rfl, wr_fin A B hi (by simpa using hdead) (lim := D.limit) (((hR2.upd1 (by simp)).upd1 (by simp)).upd1 (by simp)) (fun γ g => by simp only [upd_ne g]) hRn2 Sn hs2 (fun β c e => by cases e; exact fun e => no1 (Or.inl e)) V2s C hsame hbb (((hB2.upd.upd).upd).mono (by omega)) (by omega) (by rw [if_neg hl]) rfl⟩
end
end Go.Xec
