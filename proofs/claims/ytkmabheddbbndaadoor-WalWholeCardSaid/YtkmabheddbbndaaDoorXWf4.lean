/- wal.Open, by contract. -/
import Derived.Test.YtkmabheddbbndaaDoorXWf3
namespace Go.Xec
open Go.Proofs
section
variable {h h' hf : T ABlk} {l d W M β m m' : Nat} {v : AV} {D : Dk} {G : Lg} {own own' od : Nat → Prop} {bs b : By}
theorem grpL_ok {now : List By} {hb : By} : ∀ (r k : Nat) (s : Int) (l l' : List Nat) (s' : Int), grpL now hb r k s l = some (l', s') → (∀ i ∈ l, 48 ≤ i ∧ i < now.length) → (∀ i ∈ l', 48 ≤ i ∧ i < now.length) ∧ l'.length = l.length + r
  | 0, k, s, l, l', s', h, hl => by
    simp only [grpL, Option.some.injEq, Prod.mk.injEq] at h
    obtain ⟨rfl, rfl⟩ := h
    exact ⟨hl, rfl⟩
  | r + 1, k, s, l, l', s', h, hl => by
    simp only [grpL] at h
    split at h
    · cases h
    · rename_i hc
      obtain ⟨g1, g2⟩ := grpL_ok r _ _ _ _ _ h (fun i hi => by
        rcases List.mem_append.1 hi with hi | hi
        · exact hl i hi
        · simp at hi; subst hi; omega)
      exact ⟨g1, by simp at g2; omega⟩
theorem grp_ok (now : List By) : (∀ i ∈ grp now, 48 ≤ i ∧ i < now.length) ∧ (grp now).length ≤ 40 := by
  by_cases hc : get4 (now.getD 0 []) = 1819894636 ∧ get4 ((now.getD 0 []).drop 4) ≤ 40 ∧ crcM 0 ((now.getD 0 []).take 508) = (get4 ((now.getD 0 []).drop 508) : Int)
  · rw [grp_yes hc]
    cases hg : grpL now (now.getD 0 []) (get4 ((now.getD 0 []).drop 4)) 0 0 [] with
    | none => simp [grpF]
    | some q =>
      obtain ⟨l, s⟩ := q
      obtain ⟨g1, g2⟩ := grpL_ok _ _ _ _ _ _ hg (by simp)
      simp only [grpF]
      split
      · exact ⟨g1, by simp only [List.length_nil] at g2; omega⟩
      · simp
  · rw [grp_no hc]; simp
def openD (D : Dk) : Dk := if grp D.now = [] then D else inst D (grp D.now)
theorem open_build (d a b : Nat) : pureA Tryd.prog (.build 67 #[(0, .tmp 26), (1, .tmp 27), (2, .tmp 28)]) [.ptr d 0, .mp a, .mp b] = some (.agg [.ptr d 0, .mp a, .mp b]) := by kernel_rfl
theorem log_new (A : Disk h d D own) (B : Bd h m) {a b l : Nat} (ha : m ≤ a) (hab : a < b) (hbl : b < l) : Log (((h.set a (.map [] 0)).set b (.map [] 0)).set l (blkOf (AV.agg [.ptr d 0, .mp a, .mp b]).cells)) l d ⟨D, [], []⟩ (fun γ => γ = l ∨ γ = a ∨ γ = b ∨ own γ) := by
  have hs : ∀ γ, γ < m → (((h.set a (.map [] 0)).set b (.map [] 0)).set l (blkOf (AV.agg [.ptr d 0, .mp a, .mp b]).cells)).get γ = h.get γ := fun γ hγ => by rw [get_set_ne (by omega), get_set_ne (by omega), get_set_ne (by omega)]
  refine ⟨a, b, own, ⟨Row.new, ⟨[], MapI.new.of_eq (by rw [get_set_ne (by omega), get_set_ne (by omega)]), WV.nil⟩, ⟨[], MapI.new.of_eq (by rw [get_set_ne (by omega)]), WV.nil⟩, A.keep B hs, fun q => ?_, fun q => ?_, fun q => ?_, by omega, by simp⟩, rfl⟩
  · have := A.own_lt B q; omega
  · have := A.own_lt B q; omega
  · have := A.own_lt B q; omega
theorem Bd3 {a b c : Nat} {x y z : ABlk} (B : Bd h m) (ha : a < m') (hb : b < m') (hc : c < m') (hm : m ≤ m') : Bd (((h.set a x).set b y).set c z) m' := fun γ hγ => by rw [get_set_ne (by omega), get_set_ne (by omega), get_set_ne (by omega)]; exact B γ (by omega)
theorem w_open (A : Disk h d D own) (B : Bd h m) (hd : D.dead = false) (hlen : 128 ≤ D.now.length) (hw : D.writes < 80000) :
    ∃ v' h' m', TC 10 [.ptr d 0] ⟨h, m⟩ = some (v', ⟨h', m'⟩) ∧ (∃ l own', v' = .tup [.ptr l 0, .nili] ∧ Log h' l d ⟨openD D, [], []⟩ own' ∧ Bd h' m' ∧ Stp own h m own' h' m') := by
  obtain ⟨gi, gl⟩ := grp_ok D.now
  refine top_fn Tryd.func10 (by rfl) rfl rfl (by rfl) ?_
  by_cases hg : grp D.now = []
  · skip
    refine Ek.seq ?_
    refine Ek.reg ?_
    refine SeqR.go rfl rfl rfl (st_pure rfl rfl) rfl ?_
    refine SeqR.go rfl rfl rfl (st_pure rfl rfl) rfl ?_
    refine SeqR.nil ?_
    refine Ek.seq ?_
    refine Ek.seq ?_
    refine Ek.reg ?_
    refine SeqR.go rfl rfl rfl (st_pure rfl rfl) rfl ?_
    refine SeqR.cal rfl rfl rfl rfl rfl (w_dead A) ?_
    rintro _ _ m1 ⟨rfl, rfl, hm1⟩
    refine ⟨_, rfl, ?_⟩
    refine SeqR.go rfl rfl rfl (st_pure rfl rfl) rfl ?_
    refine SeqR.go rfl (by rw [hd]; rfl) rfl (st_pure rfl rfl) rfl ?_
    refine SeqR.cal rfl (by rw [hd]; rfl) rfl rfl rfl (w_len A) ?_
    rintro _ _ m2 ⟨rfl, rfl, hm2⟩
    refine ⟨_, rfl, ?_⟩
    refine SeqR.go rfl (by rw [hd]; rfl) rfl (st_pure rfl rfl) rfl ?_
    refine SeqR.go rfl rfl rfl (st_pickF hd) rfl ?_
    refine SeqR.nil ?_
    refine Ek.condF rfl (by simp; omega) ?_
    refine Ek.skip ?_
    refine Ek.seq ?_
    refine Ek.seq ?_
    refine Ek.reg ?_
    refine SeqR.go rfl rfl rfl (st_pure rfl rfl) rfl ?_
    refine SeqR.cal rfl rfl rfl rfl rfl (w_group A (B.mono (by omega)) (by omega)) ?_
    rintro v1 h1 m3 ⟨V1, B1, hm3, same1, hb1⟩
    refine ⟨_, rfl, ?_⟩
    refine SeqR.go rfl rfl rfl (st_pure rfl rfl) rfl ?_
    refine SeqR.nil ?_
    refine Ek.seq ?_
    refine Ek.reg ?_
    refine SeqR.go rfl rfl rfl (st_pure rfl rfl) rfl ?_
    refine SeqR.go rfl rfl rfl (st_lenV (n := (grp D.now).length) te23 V1 (by decide) (by simp [intsV])) rfl ?_
    refine SeqR.go rfl rfl rfl (st_pure rfl rfl) rfl ?_
    refine SeqR.nil ?_
    refine Ek.condF rfl (by simp [hg]) ?_
    refine Ek.skip ?_
    refine Ek.seq ?_
    refine Ek.reg ?_
    refine SeqR.go rfl rfl rfl (st_pure rfl rfl) rfl ?_
    refine SeqR.go rfl rfl rfl st_mkmap rfl ?_
    refine SeqR.go rfl rfl rfl st_mkmap rfl ?_
    refine SeqR.go rfl rfl rfl (st_pure rfl (open_build _ _ _)) rfl ?_
    refine SeqR.go rfl rfl rfl st_box rfl ?_
    refine SeqR.go rfl rfl rfl (st_pure rfl rfl) rfl ?_
    refine SeqR.go rfl rfl rfl (st_pure rfl rfl) rfl ?_
    refine SeqR.nil ?_
    have Ak : Disk h1 d D own := A.keep B (fun γ hγ => same1 γ (by omega))
    refine Ek.ret ⟨Or.inr rfl, _, rfl, _, _, rfl, _, _, rfl, by rw [show openD D = D from if_pos hg]; exact log_new Ak B1 (by omega) (by omega) (by omega), ?_, ?_⟩
    · exact Bd3 B1 (by omega) (by omega) (by omega) (by omega)
    · refine ⟨by omega, fun γ g1 g2 => by rw [get_set_ne (by omega), get_set_ne (by omega), get_set_ne (by omega), same1 γ (by omega)], ?_⟩
      rintro γ (rfl | rfl | rfl | q)
      · exact Or.inr (by omega)
      · exact Or.inr (by omega)
      · exact Or.inr (by omega)
      · exact Or.inl q
  · skip
    refine Ek.seq ?_
    refine Ek.reg ?_
    refine SeqR.go rfl rfl rfl (st_pure rfl rfl) rfl ?_
    refine SeqR.go rfl rfl rfl (st_pure rfl rfl) rfl ?_
    refine SeqR.nil ?_
    refine Ek.seq ?_
    refine Ek.seq ?_
    refine Ek.reg ?_
    refine SeqR.go rfl rfl rfl (st_pure rfl rfl) rfl ?_
    refine SeqR.cal rfl rfl rfl rfl rfl (w_dead A) ?_
    rintro _ _ m1 ⟨rfl, rfl, hm1⟩
    refine ⟨_, rfl, ?_⟩
    refine SeqR.go rfl rfl rfl (st_pure rfl rfl) rfl ?_
    refine SeqR.go rfl (by rw [hd]; rfl) rfl (st_pure rfl rfl) rfl ?_
    refine SeqR.cal rfl (by rw [hd]; rfl) rfl rfl rfl (w_len A) ?_
    rintro _ _ m2 ⟨rfl, rfl, hm2⟩
    refine ⟨_, rfl, ?_⟩
    refine SeqR.go rfl (by rw [hd]; rfl) rfl (st_pure rfl rfl) rfl ?_
    refine SeqR.go rfl rfl rfl (st_pickF hd) rfl ?_
    refine SeqR.nil ?_
    refine Ek.condF rfl (by simp; omega) ?_
    refine Ek.skip ?_
    refine Ek.seq ?_
    refine Ek.seq ?_
    refine Ek.reg ?_
    refine SeqR.go rfl rfl rfl (st_pure rfl rfl) rfl ?_
    refine SeqR.cal rfl rfl rfl rfl rfl (w_group A (B.mono (by omega)) (by omega)) ?_
    rintro v1 h1 m3 ⟨V1, B1, hm3, same1, hb1⟩
    refine ⟨_, rfl, ?_⟩
    refine SeqR.go rfl rfl rfl (st_pure rfl rfl) rfl ?_
    refine SeqR.nil ?_
    refine Ek.seq ?_
    refine Ek.reg ?_
    refine SeqR.go rfl rfl rfl (st_pure rfl rfl) rfl ?_
    refine SeqR.go rfl rfl rfl (st_lenV (n := (grp D.now).length) te23 V1 (by decide) (by simp [intsV])) rfl ?_
    refine SeqR.go rfl rfl rfl (st_pure rfl rfl) rfl ?_
    refine SeqR.nil ?_
    refine Ek.condT rfl (by simp; exact List.length_pos_iff.2 hg) ?_
    refine Ek.seq ?_
    refine Ek.reg ?_
    refine SeqR.go rfl rfl rfl (st_pure rfl rfl) rfl ?_
    refine SeqR.go rfl rfl rfl (st_pure rfl rfl) rfl ?_
    refine SeqR.cal rfl rfl rfl rfl rfl (w_install (A.keep B (fun γ hγ => same1 γ (by omega))) (B1.mono (by omega)) V1 (fun γ hγ q => by have := hb1 γ hγ; have := A.own_lt B q; omega) (fun i hi => (gi i hi).2) gl (by omega) (by omega)) ?_
    rintro v2 h2 m4 ⟨rfl, own2, A2, B2, t2⟩
    refine ⟨_, rfl, ?_⟩
    refine SeqR.go rfl rfl rfl (st_pure rfl rfl) rfl ?_
    refine SeqR.nil ?_
    refine Ek.seq ?_
    refine Ek.reg ?_
    refine SeqR.go rfl rfl rfl (st_pure rfl rfl) rfl ?_
    refine SeqR.go rfl rfl rfl (neI0 tu29) rfl ?_
    refine SeqR.nil ?_
    refine Ek.condF rfl rfl ?_
    refine Ek.skip ?_
    refine Ek.seq ?_
    refine Ek.reg ?_
    refine SeqR.go rfl rfl rfl (st_pure rfl rfl) rfl ?_
    refine SeqR.go rfl rfl rfl st_mkmap rfl ?_
    refine SeqR.go rfl rfl rfl st_mkmap rfl ?_
    refine SeqR.go rfl rfl rfl (st_pure rfl (open_build _ _ _)) rfl ?_
    refine SeqR.go rfl rfl rfl st_box rfl ?_
    refine SeqR.go rfl rfl rfl (st_pure rfl rfl) rfl ?_
    refine SeqR.go rfl rfl rfl (st_pure rfl rfl) rfl ?_
    refine SeqR.nil ?_
    refine Ek.ret ⟨Or.inr rfl, _, rfl, _, _, rfl, _, _, rfl, by rw [show openD D = inst D (grp D.now) from if_neg hg]; exact log_new A2 B2 (by omega) (by omega) (by omega), ?_, ?_⟩
    · exact Bd3 B2 (by omega) (by omega) (by omega) (by omega)
    · have T0 := (Stp.keep (own := own) (h := h) (h' := h1) (m := m) (by omega) (fun γ hγ => same1 γ (by omega))).trans t2
      have := T0.up
      refine ⟨by omega, fun γ g1 g2 => by rw [get_set_ne (by omega), get_set_ne (by omega), get_set_ne (by omega), T0.same γ g1 g2], ?_⟩
      rintro γ (rfl | rfl | rfl | q)
      · exact Or.inr (by omega)
      · exact Or.inr (by omega)
      · exact Or.inr (by omega)
      · exact T0.sub γ q
end
end Go.Xec
