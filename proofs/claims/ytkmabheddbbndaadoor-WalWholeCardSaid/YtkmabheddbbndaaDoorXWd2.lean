/- The disk's functions, by contract: Len, is, Dead, Limit, Clone, Read. -/
import Derived.Test.YtkmabheddbbndaaDoorXWd1
namespace Go.Xec
open Go.Proofs
section
variable {h h' : T ABlk} {d L N β m m' : Nat} {cv v : AV} {D : Dk} {own own' : Nat → Prop} {bs b : By}

theorem w_len (A : Disk h d D own) : ∃ v h' m', TC 29 [.ptr d 0] ⟨h, m⟩ = some (v, ⟨h', m'⟩) ∧ (v = .int .i64 D.now.length ∧ h = h' ∧ m ≤ m') := by
  obtain ⟨L, N, cv, A, rfl⟩ := A
  have R := A.row
  refine top_fn Tryd.func29 (by rfl) rfl rfl (by rfl) ?_
  refine Ek.seq ?_
  refine Ek.reg ?_
  refine SeqR.go rfl rfl rfl (st_pure rfl rfl) rfl ?_
  refine SeqR.nil ?_
  refine Ek.seq ?_
  refine Ek.seq ?_
  refine Ek.reg ?_
  refine SeqR.go rfl rfl rfl (st_pure rfl rfl) rfl ?_
  refine SeqR.go rfl rfl rfl (st_eqnil tu25) rfl ?_
  refine SeqR.nil ?_
  refine Ek.condF rfl rfl ?_
  refine Ek.skip ?_
  refine Ek.seq ?_
  refine Ek.reg ?_
  refine SeqR.go rfl rfl rfl (st_pure rfl rfl) rfl ?_
  refine SeqR.go rfl rfl rfl (st_pure rfl rfl) rfl ?_
  refine SeqR.go rfl rfl rfl (fld tF61_1) rfl ?_
  refine SeqR.go rfl rfl rfl (ld ta22) rfl ?_
  refine SeqR.go rfl rfl rfl (st_len te22) rfl ?_
  refine SeqR.go rfl rfl rfl (st_pure rfl rfl) rfl ?_
  refine SeqR.nil ?_
  exact Ek.ret ⟨Or.inr rfl, _, rfl, _, _, rfl, rfl, rfl, by omega⟩

theorem w_is (A : Disk h d D own) {i : Int} : ∃ v h' m', TC 40 [.ptr d 0, .int .i64 i] ⟨h, m⟩ = some (v, ⟨h', m'⟩) ∧ (v = .bool (decide (0 ≤ i ∧ i < D.now.length)) ∧ h = h' ∧ m ≤ m') := by
  refine top_fn Tryd.func40 (by rfl) rfl rfl (by rfl) ?_
  refine Ek.seq ?_
  refine Ek.reg ?_
  refine SeqR.go rfl rfl rfl (st_pure rfl rfl) rfl ?_
  refine SeqR.nil ?_
  refine Ek.seq ?_
  refine Ek.reg ?_
  refine SeqR.go rfl rfl rfl (st_pure rfl rfl) rfl ?_
  refine SeqR.go rfl rfl rfl (st_pure rfl rfl) rfl ?_
  refine SeqR.go rfl rfl rfl (st_pure rfl rfl) rfl ?_
  by_cases h0 : 0 ≤ i
  · refine SeqR.go rfl (by simp; omega) rfl (st_pure rfl rfl) rfl ?_
    refine SeqR.go rfl (by simp; omega) rfl (st_pure rfl rfl) rfl ?_
    obtain ⟨_, _, m1, hc, rfl, rfl, hm1⟩ := w_len (m := m + 1 + 1 + 1 + 1 + 1 + 1 + 1) A
    refine SeqR.go rfl (by simp; omega) rfl (st_call rfl rfl hc) rfl ?_
    refine SeqR.go rfl (by simp; omega) rfl (st_pure rfl rfl) rfl ?_
    refine SeqR.go rfl rfl rfl (st_pickT (by simp; omega)) rfl ?_
    refine SeqR.go rfl rfl rfl (st_pure rfl rfl) rfl ?_
    refine SeqR.nil ?_
    exact Ek.ret ⟨Or.inr rfl, _, rfl, _, _, rfl, by simp [h0], rfl, by omega⟩
  · refine SeqR.hop rfl (by simp; omega) rfl ?_
    refine SeqR.hop rfl (by simp; omega) rfl ?_
    refine SeqR.hop rfl (by simp; omega) rfl ?_
    refine SeqR.hop rfl (by simp; omega) rfl ?_
    refine SeqR.go rfl rfl rfl (st_pickF (by simp; omega)) rfl ?_
    refine SeqR.go rfl rfl rfl (st_pure rfl rfl) rfl ?_
    refine SeqR.nil ?_
    exact Ek.ret ⟨Or.inr rfl, _, rfl, _, _, rfl, by simp [h0], rfl, by omega⟩

theorem w_dead (A : Disk h d D own) : ∃ v h' m', TC 22 [.ptr d 0] ⟨h, m⟩ = some (v, ⟨h', m'⟩) ∧ (v = .bool D.dead ∧ h = h' ∧ m ≤ m') := by
  obtain ⟨L, N, cv, A, rfl⟩ := A
  have R := A.row
  refine top_fn Tryd.func22 (by rfl) rfl rfl (by rfl) ?_
  refine Ek.seq ?_
  refine Ek.reg ?_
  refine SeqR.go rfl rfl rfl (st_pure rfl rfl) rfl ?_
  refine SeqR.nil ?_
  refine Ek.seq ?_
  refine Ek.reg ?_
  refine SeqR.go rfl rfl rfl (st_pure rfl rfl) rfl ?_
  refine SeqR.go rfl rfl rfl (st_eqnil tu25) rfl ?_
  refine SeqR.go rfl rfl rfl (st_pure rfl rfl) rfl ?_
  refine SeqR.go rfl rfl rfl (st_pure rfl rfl) rfl ?_
  refine SeqR.go rfl rfl rfl (st_pure rfl rfl) rfl ?_
  refine SeqR.go rfl rfl rfl (fld tF61_5) rfl ?_
  refine SeqR.go rfl rfl rfl (ld ta4) rfl ?_
  refine SeqR.go rfl rfl rfl (st_pickF rfl) rfl ?_
  refine SeqR.go rfl rfl rfl (st_pure rfl rfl) rfl ?_
  refine SeqR.nil ?_
  exact Ek.ret ⟨Or.inr rfl, _, rfl, _, _, rfl, rfl, rfl, by omega⟩

theorem cellsB_one : (cellsB bs).all AV.one = true := by
  rw [List.all_eq_true]; intro a ha
  simp only [cellsB, List.mem_map] at ha
  obtain ⟨c, _, rfl⟩ := ha; rfl

/-- bytes.Clone of a sector. -/
theorem w_clone (s : SecV h v bs) (B : Bd h m) : ∃ v' h' m', TC 35 [v] ⟨h, m⟩ = some (v', ⟨h', m'⟩) ∧ (SecV h' v' bs ∧ Bd h' m' ∧ m ≤ m' ∧ ∀ γ, γ < m → h'.get γ = h.get γ) := by
  obtain ⟨β, cp, rfl, ⟨r, R, hr⟩, hl, hcp⟩ := s
  have hβ := B.row R
  refine top_fn Tryd.func35 (by rfl) rfl rfl (by rfl) ?_
  refine Ek.seq ?_
  refine Ek.reg ?_
  refine SeqR.go rfl rfl rfl (st_pure rfl rfl) rfl ?_
  refine SeqR.nil ?_
  refine Ek.seq ?_
  refine Ek.seq ?_
  refine Ek.reg ?_
  refine SeqR.go rfl rfl rfl (st_pure rfl rfl) rfl ?_
  refine SeqR.go rfl rfl rfl (eqS1 te33) rfl ?_
  refine SeqR.nil ?_
  refine Ek.condF rfl rfl ?_
  refine Ek.skip ?_
  refine Ek.seq ?_
  refine Ek.reg ?_
  refine SeqR.go rfl rfl rfl (bs0 te33 tz5 tzo5) rfl ?_
  refine SeqR.go rfl rfl rfl (st_pure rfl rfl) rfl ?_
  have hs : Row (h.set (m + 1 + 1 + 1) (blkOf [])) β (cellsB bs ++ r) := R.set_ne (by omega)
  have e1 : ((cellsB bs ++ r).drop 0).take (512 * 1) = cellsB bs := by
    rw [List.drop_zero, show 512 * 1 = (cellsB bs).length by rw [cellsB_len, hl], List.take_left]
  have hel := elems_row (m := m + 1 + 1 + 1 + 1 + 1 + 1) (z := 1) (o := 0) (k := 512) (c := cp) (z' := 1) hs (by rw [List.length_append, cellsB_len, hl]; omega)
  rw [e1] at hel
  obtain ⟨v', h1, m1, hap, V, q1, q2, q3, q4⟩ := st_app (P := Tryd.prog) (call := TC) (nm := m + 1 + 1 + 1 + 1 + 1) (m := m + 1 + 1 + 1 + 1 + 1 + 1) (ao := .tmp 5) (bo := .tmp 6) te33 tz5 tb5 te33 (Vec.empty (h := h) (β := m + 1 + 1 + 1)) (by decide) (by decide) (x := secV β cp) (k := 512) rfl
    hel (by rw [cellsB_len, hl]) cellsB_one tzo5 (by rw [cellsB_len, hl]; decide)
  refine SeqR.go rfl rfl rfl hap rfl ?_
  refine SeqR.go rfl rfl rfl (st_pure rfl rfl) rfl ?_
  refine SeqR.nil ?_
  have hb0 : ∀ γ, γ ≠ m + 1 + 1 + 1 → (AV.sl (m + 1 + 1 + 1) 0 0 0 1).base ≠ some γ := fun γ hγ e => by simp only [AV.base, Option.some.injEq] at e; omega
  have hB1 : Bd h1 m1 := (B.set (β := m + 1 + 1 + 1) (b := blkOf []) (m' := m + 1 + 1 + 1 + 1) (by omega) (by omega)).of (by omega) (fun γ hγ => q3 γ (Or.inr hγ) (hb0 γ (by omega)))
  refine Ek.ret ⟨Or.inr rfl, _, rfl, _, _, rfl, SecV.of_vec V hl, hB1.mono (by omega), by omega, fun γ hγ => ?_⟩
  rw [q3 γ (Or.inl (by omega)) (hb0 γ (by omega)), get_set_ne (by omega)]
end
end Go.Xec
