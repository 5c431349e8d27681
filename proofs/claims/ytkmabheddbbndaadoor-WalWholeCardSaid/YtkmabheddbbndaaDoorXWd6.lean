/- Crash, by contract; what is read alone (rom). -/
import Derived.Test.YtkmabheddbbndaaDoorXWf5
namespace Go.Xec
open Go.Proofs
/-- Block β holds the list l, and is read alone. -/
def Rom (h : T ABlk) (β : Nat) (l : List AV) : Prop := ∃ cs, h.get β = some (.rom l.length cs) ∧ ∀ i v, l[i]? = some v → cs.get i = some v
section
variable {h h' hf : T ABlk} {d L N β m m' k nm : Nat} {cv v pv : AV} {D : Dk} {own own' : Nat → Prop} {bs b : By} {l : List AV} {ps : List Bool} {P : Program} {call : Callee}
theorem Rom.of_eq (R : Rom h β l) (e : h'.get β = h.get β) : Rom h' β l := by
  obtain ⟨cs, h1, h2⟩ := R
  exact ⟨cs, e.trans h1, h2⟩
theorem Bd.rom (B : Bd h m) (R : Rom h β l) : β < m := by obtain ⟨cs, h1, _⟩ := R; exact B.lt h1
theorem ldM {t : Nat} {x : Operand} (ha : aggT P t = some false) (R : Rom h β l) (hv : l[k]? = some v) : stepA P call nm ⟨h, m⟩ (.load t x) [.ptr β k] = some (v, ⟨h, m⟩) := by
  obtain ⟨cs, h1, h2⟩ := R
  have hlt : Nat.blt k l.length = true := by simpa using (List.getElem?_eq_some_iff.1 hv).1
  exact st_read rfl (by simp only [readA, loadA, ha, h1, hlt, h2 k v hv])
/-- The bools of a slice that came in. -/
def PV (h : T ABlk) (pv : AV) (ps : List Bool) : Prop := (pv = .nils ∧ ps = []) ∨ (pv = .sle ∧ ps = []) ∨ ∃ β o n l, pv = .sl β o n n 1 ∧ Rom h β l ∧ ps.length = n ∧ ∀ (i : Nat) b, ps[i]? = some b → l[o + i]? = some (.bool b)
theorem PV.of_eq (V : PV h pv ps) (B : Bd h m) (hs : ∀ γ, γ < m → h'.get γ = h.get γ) : PV h' pv ps := by
  obtain q | q | ⟨β, o, n, l, rfl, R, q⟩ := V
  · exact Or.inl q
  · exact Or.inr (Or.inl q)
  · exact Or.inr (Or.inr ⟨β, o, n, l, rfl, R.of_eq (hs β (B.rom R)), q⟩)
theorem PV.len {t e : Nat} {x : Operand} {st : St} (V : PV h pv ps) (he : sliceElem P t = some e) :
    stepA P call nm st (.call { callee := .builtin .len, args := #[x], argTypes := #[t] }) [pv] = some (.int .i64 ps.length, st) := by
  obtain ⟨rfl, rfl⟩ | ⟨rfl, rfl⟩ | ⟨β, o, n, l, rfl, R, rfl, _⟩ := V
  · exact st_len_nil he
  · have hu := sliceElem_under he
    have h0 : (#[t] : Array TypeId)[0]? = some t := rfl
    exact st_pure (by simp only [kindOf, h0, hu]) (by simp only [pureA, h0, lenPA, hu]; rfl)
  · exact st_len he

def crashK (D : Dk) (ps : List Bool) : Nat → List By
  | 0 => D.lasts
  | k + 1 => if ps.getD k false then (crashK D ps k).set (D.cache.getD k (0, [])).1 (D.cache.getD k (0, [])).2 else crashK D ps k
theorem crashK_len (D : Dk) (ps : List Bool) : ∀ k, (crashK D ps k).length = D.lasts.length
  | 0 => rfl
  | k + 1 => by
    simp only [crashK]
    split
    · rw [List.length_set, crashK_len D ps k]
    · exact crashK_len D ps k
def Dk.crash (D : Dk) (ps : List Bool) : Dk := ⟨crashK D ps D.cache.length, crashK D ps D.cache.length, [], 0, -1, false⟩
theorem crash_build (β n : Nat) : pureA Tryd.prog (.build 61 #[(4, .const (.int .i64 (-1))), (0, .tmp 14)]) [.int .i64 (-1), .sl β 0 n n 1] = some (.agg [.sl β 0 n n 1, .nils, .nils, .int .i64 0, .int .i64 (-1), .bool false]) := by kernel_rfl
noncomputable def frX (pv : AV) (c : Nat) (cv : AV) (n k : Nat) : Fr := ((((T.nil.set 1 pv).set 5 (.ptr c 0)).set 20 cv).set 21 (.int .i64 (n : Int))).set 22 (.int .i64 (k : Int))
theorem w_crash (A : Disk h d D own) (B : Bd h m) (V : PV h pv ps) (hw : D.writes < 100000) :
    ∃ v' h' m', TC 17 [.ptr d 0, pv] ⟨h, m⟩ = some (v', ⟨h', m'⟩) ∧ (∃ c ow, v' = .ptr c 0 ∧ Disk h' c (D.crash ps) ow ∧ Bd h' m' ∧ m ≤ m' ∧ (∀ γ, γ < m → h'.get γ = h.get γ) ∧ ∀ γ, ow γ → m ≤ γ) := by
  have A0 := A
  obtain ⟨L, N, cv, A, rfl⟩ := A
  have R := A.row
  have hdm := B.row R
  obtain ⟨vl0, Rl0, Sl0⟩ := A.lasts
  have hLm := B.row Rl0
  have hvl0 := Sl0.1
  obtain ⟨cs0, V0, C0⟩ := A.cac
  have hcl := C0.len
  have hfew := A.few
  have hpos := A.pos
  have hbig := A.big
  have hlen := A.len
  have hel : ∀ m2, elemsA ⟨h, m2⟩ 1 (.sl L 0 D.lasts.length D.lasts.length 1) D.lasts.length = some vl0 := fun m2 => by
    rw [elems_row Rl0 (by omega), List.drop_zero, List.take_of_length_le (by omega)]
  refine top_fn Tryd.func17 (by rfl) rfl rfl (by rfl) ?_
  refine Ek.seq ?_
  refine Ek.reg ?_
  refine SeqR.go rfl rfl rfl (st_pure rfl rfl) rfl ?_
  refine SeqR.nil ?_
  refine Ek.seq ?_
  refine Ek.seq ?_
  refine Ek.reg ?_
  refine SeqR.go rfl rfl rfl (st_pure rfl rfl) rfl ?_
  refine SeqR.go rfl rfl rfl (st_eqnil tu25) rfl ?_
  refine SeqR.nil ?_
  refine Ek.condF rfl rfl ?_
  refine Ek.skip ?_
  refine Ek.seq ?_
  refine Ek.reg ?_
  refine SeqR.go rfl rfl rfl (st_pure rfl rfl) rfl ?_
  refine SeqR.go rfl rfl rfl (st_pure rfl rfl) rfl ?_
  refine SeqR.go rfl rfl rfl (fld tF61_0) rfl ?_
  refine SeqR.go rfl rfl rfl (ld ta22) rfl ?_
  refine SeqR.ex rfl rfl rfl (st_app (new := vl0) (k := D.lasts.length) te22 tz33 tb33 te22 (Or.inl ⟨rfl, rfl⟩) (by decide) (by decide) rfl (hel _) (by omega) Sl0.one_cell tzo33 (by simp; omega)) ?_
  rintro v1 h1 m1 ⟨V1, p1, p2, p3, p4⟩
  refine ⟨_, rfl, ?_⟩
  obtain ⟨βc, n1, rfl, hn1, R1⟩ := V1.sl_of (by intro e; rw [List.nil_append] at e; rw [e, List.length_nil] at hvl0; omega)
  rw [List.nil_append] at hn1 R1
  obtain rfl : n1 = D.lasts.length := by omega
  have hnb : ∀ γ, AV.nils.base ≠ some γ := fun γ e => (by cases e)
  have hB1 : Bd h1 m1 := fun γ hγ => by rw [p3 γ (Or.inr hγ) (hnb _)]; exact B γ (by omega)
  have hβc : m ≤ βc ∧ βc < m1 := by
    rcases p4 with e | e
    · cases e
    · simp only [AV.base, Option.some.injEq] at e
      exact ⟨by omega, hB1.row R1⟩
  have same1a : ∀ γ, γ < m → h1.get γ = h.get γ := fun γ hγ => p3 γ (Or.inl (by omega)) (hnb _)
  refine SeqR.go rfl rfl rfl (st_pure rfl (crash_build _ _)) rfl ?_
  refine SeqR.go rfl rfl rfl st_box rfl ?_
  refine SeqR.go rfl rfl rfl (st_pure rfl rfl) rfl ?_
  refine SeqR.nil ?_
  refine Ek.seq ?_
  refine Ek.seq ?_
  generalize hc0 : m1 + 1 = c0
  generalize hh2 : T.set h1 _ _ = h2
  have hB2 : Bd h2 (c0 + 1 + 1) := by rw [← hh2]; exact Bd.set hB1 (by omega) (by omega)
  have same1 : ∀ γ, γ < m → h2.get γ = h.get γ := fun γ hγ => by rw [← hh2, get_set_ne (by omega), same1a γ hγ]
  have hR2 : Row h2 c0 [.sl βc 0 D.lasts.length D.lasts.length 1, .nils, .nils, .int .i64 0, .int .i64 (-1), .bool false] := by rw [← hh2]; exact Row.new
  have hRl2 : Row h2 βc vl0 := by rw [← hh2]; exact R1.set_ne (by omega)
  have hSl2 : SecVs h2 vl0 D.lasts := Sl0.mono (fun v b s => s.keep B same1)
  have R2 := R.of_eq (same1 d hdm)
  refine Ek.reg ?_
  refine SeqR.go rfl rfl rfl (st_pure rfl rfl) rfl ?_
  refine SeqR.go rfl rfl rfl (st_pure rfl rfl) rfl ?_
  refine SeqR.go rfl rfl rfl (fld tF61_2) rfl ?_
  refine SeqR.go rfl rfl rfl (ld ta59) rfl ?_
  refine SeqR.go rfl rfl rfl (st_lenV te59 (V0.keep B same1) (by decide) hcl) rfl ?_
  refine SeqR.go rfl rfl rfl (st_pure rfl rfl) rfl ?_
  refine SeqR.nil ?_
  refine Ek.block ?_
  refine Ek.loop_inv (fun e fr st => ∃ k hk mk vl, k + e = D.cache.length ∧ Le (frX pv c0 cv D.cache.length k) fr ∧ st = ⟨hk, mk⟩ ∧ c0 < mk ∧ Bd hk mk ∧ (∀ γ, γ < m → hk.get γ = h.get γ) ∧ Row hk c0 [.sl βc 0 D.lasts.length D.lasts.length 1, .nils, .nils, .int .i64 0, .int .i64 (-1), .bool false] ∧ Row hk βc vl ∧ SecVs hk vl (crashK D ps k)) ?_ (D.cache.length) _ _ ⟨0, h2, _, vl0, by omega, Le.put (Le.put (Le.put (Le.put (Le.put (Le.nil _) rfl) rfl) rfl) rfl) rfl, rfl, by omega, hB2.mono (by omega), same1, hR2, hRl2, hSl2⟩
  rintro e fr st ⟨k, hk, mk, vl, hi, hle, rfl, hmk, Bk, samek, Rk, Rlk, Slk⟩
  refine Ek.weaken hle ?_
  clear hle
  have hvlk0 := Slk.1
  rw [crashK_len] at hvlk0
  rcases (show (k < D.cache.length ∧ k < ps.length ∧ ps.getD k false = true) ∨ (k < D.cache.length ∧ k < ps.length ∧ ps.getD k false = false) ∨ (k < D.cache.length ∧ ¬ k < ps.length) ∨ ¬ k < D.cache.length from by
    by_cases a : k < D.cache.length
    · by_cases b : k < ps.length
      · cases c : ps.getD k false
        · exact Or.inr (Or.inl ⟨a, b, rfl⟩)
        · exact Or.inl ⟨a, b, rfl⟩
      · exact Or.inr (Or.inr (Or.inl ⟨a, b⟩))
    · exact Or.inr (Or.inr (Or.inr a))) with ⟨hkK, hkp, hpk⟩ | ⟨hkK, hkp, hpk⟩ | ⟨hkK, hkp⟩ | hkK
  · skip
    refine Ek.seq ?_
    refine Ek.reg ?_
    refine SeqR.go rfl rfl rfl (st_pure rfl rfl) rfl ?_
    refine SeqR.nil ?_
    refine Ek.seq ?_
    refine Ek.condT rfl (by simp; omega) ?_
    refine Ek.skip ?_
    refine Ek.seq ?_
    refine Ek.block ?_
    refine Ek.seq ?_
    obtain ⟨i, s1, bs1, hci, hs0, hat⟩ := C0.at hkK
    have hs : SecV hk s1 bs1 := hs0.keep B samek
    have Vk := V0.keep B samek
    have hclk := hcl
    obtain ⟨C, n2, rfl, hn2, hCk⟩ := Vk.sl_of (by rintro rfl; simp only [List.length_nil] at hclk; omega)
    have hn2k : k < n2 := by omega
    have hld : ∀ nm x m2, stepA Tryd.prog TC nm ⟨hk, m2⟩ (.load 81 x) [.ptr C (0 + (k : Int).toNat * 2)] = some (.agg [.int .i64 (i : Int), s1], ⟨hk, m2⟩) := by
      intro nm x m2
      have q := st_lds (P := Tryd.prog) (call := TC) (nm := nm) (m := m2) (x := x) ta81 tz81 hCk (k := 0 + (k : Int).toNat * 2) (by simp; omega)
      rw [show 0 + (k : Int).toNat * 2 = k * 2 by simp] at q ⊢
      rw [hat] at q; exact q
    have hin := A.idx (i, bs1) (List.mem_of_getElem? hci)
    simp only at hin
    obtain ⟨β1, c1, rfl, hs1⟩ := id hs
    have hcd : D.cache.getD k (0, []) = (i, bs1) := by rw [List.getD_eq_getElem?_getD, hci]; rfl
    refine Ek.reg ?_
    refine SeqR.go rfl rfl rfl (st_pure rfl rfl) rfl ?_
    refine SeqR.go rfl rfl rfl (idx te59 tz81) rfl ?_
    refine SeqR.go rfl rfl rfl (hld _ _ _) rfl ?_
    refine SeqR.go rfl rfl rfl (st_allocZ tv81 rfl) rfl ?_
    refine SeqR.go rfl rfl rfl (st_pure rfl rfl) rfl ?_
    refine SeqR.go rfl rfl rfl (strr tz81) rfl ?_
    refine SeqR.nil ?_
    refine Ek.seq ?_
    refine Ek.reg ?_
    refine SeqR.go rfl rfl rfl (st_pure rfl rfl) rfl ?_
    refine SeqR.go rfl rfl rfl (st_pure rfl rfl) rfl ?_
    refine SeqR.go rfl rfl rfl (PV.len (V.of_eq B samek) te44) rfl ?_
    refine SeqR.go rfl rfl rfl (st_pure rfl rfl) rfl ?_
    refine SeqR.go rfl rfl rfl (st_pure rfl rfl) rfl ?_
    refine SeqR.go rfl (by simp; omega) rfl (st_pure rfl rfl) rfl ?_
    refine SeqR.go rfl (by simp; omega) rfl (st_pure rfl rfl) rfl ?_
    obtain ⟨rfl, rfl⟩ | ⟨rfl, rfl⟩ | ⟨βp, op, np, lp, rfl, RP0, hpl, hpg⟩ := V
    · simp at hkp
    · simp at hkp
    have RP := (RP0.of_eq (samek βp (B.rom RP0)))
    have RP := (RP.of_eq (h' := (hk.set (mk + 1 + 1 + 1 + 1) (blkOf (AV.agg [.int .i64 0, .nils]).cells)).upd (mk + 1 + 1 + 1 + 1) 0 (AV.agg [.int .i64 (i : Int), secV β1 c1]).cells) (by have := B.rom RP0; rw [upd_ne (by omega), get_set_ne (by omega)]))
    have hbk : lp[op + (k : Int).toNat * 1]? = some (.bool (ps.getD k false)) := by
      have := hpg k (ps.getD k false) (by rw [List.getD_eq_getElem?_getD, List.getElem?_eq_getElem hkp]; rfl)
      simpa using this
    refine SeqR.go rfl (by simp; omega) rfl (idx te44 tz4) rfl ?_
    refine SeqR.go rfl (by simp; omega) rfl (ldM ta4 RP hbk) rfl ?_
    refine SeqR.go rfl rfl rfl (st_pickT (by simp; omega)) rfl ?_
    refine SeqR.nil ?_
    refine Ek.condT rfl hpk ?_
    refine Ek.drz (z := 10) (by kernel_rfl) rfl ?_
    refine SeqD.go rfl rfl rfl (st_pure rfl rfl) rfl ?_
    refine SeqD.go rfl rfl rfl (st_pure rfl rfl) rfl ?_
    refine SeqD.go rfl rfl rfl (fld tF61_0) rfl ?_
    refine SeqD.go rfl rfl rfl (ld ta22) rfl ?_
    refine SeqD.go rfl rfl rfl (fld tF81_0) rfl ?_
    refine SeqD.go rfl rfl rfl (ld ta3 (R := by exact Row.upd Row.new (by simp [AV.cells]))) rfl ?_
    refine SeqD.go rfl rfl rfl (fld tF81_1) rfl ?_
    refine SeqD.go rfl rfl rfl (ld ta33 (R := by exact Row.upd Row.new (by simp [AV.cells]))) rfl ?_
    refine SeqD.go rfl rfl rfl (idx te22 tz33) rfl ?_
    refine SeqD.go rfl rfl rfl (strr tz33) rfl ?_
    refine SeqD.nil ?_
    refine Ek.reg ?_
    refine SeqR.go rfl rfl rfl add1 rfl ?_
    refine SeqR.go rfl rfl rfl (st_pure rfl rfl) rfl ?_
    refine SeqR.nil ?_
    have hβn : βc < mk := Bk.row Rlk
    refine ⟨e - 1, by omega, k + 1, _, _, vl.set i (secV β1 c1), by omega, Le.put (Le.put (Le.put (Le.put (Le.put (Le.nil _) rfl) rfl) rfl) rfl) rfl, rfl, by omega, ((Bd.set (m' := mk + 1 + 1 + 1 + 1 + 1) Bk (by omega) (by omega)).upd.upd).mono (by omega), fun γ hγ => by rw [upd_ne (by omega), upd_ne (by omega), get_set_ne (by omega), samek γ hγ], ((Rk.set_ne (by omega)).upd_ne (by omega)).upd_ne (by omega), ?_, ?_⟩
    · simpa [AV.cells, secV] using (((Rlk.set_ne (γ := mk + 1 + 1 + 1 + 1) (b := blkOf (AV.agg [.int .i64 0, .nils]).cells) (by omega)).upd_ne (γ := mk + 1 + 1 + 1 + 1) (k := 0) (vs := (AV.agg [.int .i64 (i : Int), secV β1 c1]).cells) (by omega)).upd1 (k := 0 + (i : Int).toNat * 1) (v := secV β1 c1) (by simp; omega))
    · have e1 : crashK D ps (k + 1) = (crashK D ps k).set i bs1 := by
        simp only [crashK]
        rw [if_pos hpk, hcd]
      rw [e1]
      have sm : ∀ v b, SecV hk v b → SecV (((hk.set (mk + 1 + 1 + 1 + 1) (blkOf (AV.agg [.int .i64 0, .nils]).cells)).upd (mk + 1 + 1 + 1 + 1) 0 (AV.agg [.int .i64 (i : Int), secV β1 c1]).cells).upd βc (0 + (i : Int).toNat * 1) (secV β1 c1).cells) v b := fun v b s => by
        obtain ⟨β, c, rfl, s⟩ := s
        obtain ⟨r, hr, _⟩ := s.row
        have hlt := Bk.row hr
        exact ⟨β, c, rfl, s.of_eq (by rw [upd_ne (sec_ne_list Rlk Slk (by rw [crashK_len]; omega) s), upd_ne (by omega), get_set_ne (by omega)])⟩
      exact (Slk.mono sm).set (sm _ _ hs)
  · skip
    refine Ek.seq ?_
    refine Ek.reg ?_
    refine SeqR.go rfl rfl rfl (st_pure rfl rfl) rfl ?_
    refine SeqR.nil ?_
    refine Ek.seq ?_
    refine Ek.condT rfl (by simp; omega) ?_
    refine Ek.skip ?_
    refine Ek.seq ?_
    refine Ek.block ?_
    refine Ek.seq ?_
    obtain ⟨i, s1, bs1, hci, hs0, hat⟩ := C0.at hkK
    have hs : SecV hk s1 bs1 := hs0.keep B samek
    have Vk := V0.keep B samek
    have hclk := hcl
    obtain ⟨C, n2, rfl, hn2, hCk⟩ := Vk.sl_of (by rintro rfl; simp only [List.length_nil] at hclk; omega)
    have hn2k : k < n2 := by omega
    have hld : ∀ nm x m2, stepA Tryd.prog TC nm ⟨hk, m2⟩ (.load 81 x) [.ptr C (0 + (k : Int).toNat * 2)] = some (.agg [.int .i64 (i : Int), s1], ⟨hk, m2⟩) := by
      intro nm x m2
      have q := st_lds (P := Tryd.prog) (call := TC) (nm := nm) (m := m2) (x := x) ta81 tz81 hCk (k := 0 + (k : Int).toNat * 2) (by simp; omega)
      rw [show 0 + (k : Int).toNat * 2 = k * 2 by simp] at q ⊢
      rw [hat] at q; exact q
    have hin := A.idx (i, bs1) (List.mem_of_getElem? hci)
    simp only at hin
    obtain ⟨β1, c1, rfl, hs1⟩ := id hs
    have hcd : D.cache.getD k (0, []) = (i, bs1) := by rw [List.getD_eq_getElem?_getD, hci]; rfl
    refine Ek.reg ?_
    refine SeqR.go rfl rfl rfl (st_pure rfl rfl) rfl ?_
    refine SeqR.go rfl rfl rfl (idx te59 tz81) rfl ?_
    refine SeqR.go rfl rfl rfl (hld _ _ _) rfl ?_
    refine SeqR.go rfl rfl rfl (st_allocZ tv81 rfl) rfl ?_
    refine SeqR.go rfl rfl rfl (st_pure rfl rfl) rfl ?_
    refine SeqR.go rfl rfl rfl (strr tz81) rfl ?_
    refine SeqR.nil ?_
    refine Ek.seq ?_
    refine Ek.reg ?_
    refine SeqR.go rfl rfl rfl (st_pure rfl rfl) rfl ?_
    refine SeqR.go rfl rfl rfl (st_pure rfl rfl) rfl ?_
    refine SeqR.go rfl rfl rfl (PV.len (V.of_eq B samek) te44) rfl ?_
    refine SeqR.go rfl rfl rfl (st_pure rfl rfl) rfl ?_
    refine SeqR.go rfl rfl rfl (st_pure rfl rfl) rfl ?_
    refine SeqR.go rfl (by simp; omega) rfl (st_pure rfl rfl) rfl ?_
    refine SeqR.go rfl (by simp; omega) rfl (st_pure rfl rfl) rfl ?_
    obtain ⟨rfl, rfl⟩ | ⟨rfl, rfl⟩ | ⟨βp, op, np, lp, rfl, RP0, hpl, hpg⟩ := V
    · simp at hkp
    · simp at hkp
    have RP := (RP0.of_eq (samek βp (B.rom RP0)))
    have RP := (RP.of_eq (h' := (hk.set (mk + 1 + 1 + 1 + 1) (blkOf (AV.agg [.int .i64 0, .nils]).cells)).upd (mk + 1 + 1 + 1 + 1) 0 (AV.agg [.int .i64 (i : Int), secV β1 c1]).cells) (by have := B.rom RP0; rw [upd_ne (by omega), get_set_ne (by omega)]))
    have hbk : lp[op + (k : Int).toNat * 1]? = some (.bool (ps.getD k false)) := by
      have := hpg k (ps.getD k false) (by rw [List.getD_eq_getElem?_getD, List.getElem?_eq_getElem hkp]; rfl)
      simpa using this
    refine SeqR.go rfl (by simp; omega) rfl (idx te44 tz4) rfl ?_
    refine SeqR.go rfl (by simp; omega) rfl (ldM ta4 RP hbk) rfl ?_
    refine SeqR.go rfl rfl rfl (st_pickT (by simp; omega)) rfl ?_
    refine SeqR.nil ?_
    refine Ek.condF rfl hpk ?_
    refine Ek.skip ?_
    refine Ek.reg ?_
    refine SeqR.go rfl rfl rfl add1 rfl ?_
    refine SeqR.go rfl rfl rfl (st_pure rfl rfl) rfl ?_
    refine SeqR.nil ?_
    have hβn : βc < mk := Bk.row Rlk
    refine ⟨e - 1, by omega, k + 1, _, _, vl, by omega, Le.put (Le.put (Le.put (Le.put (Le.put (Le.nil _) rfl) rfl) rfl) rfl) rfl, rfl, by omega, ((Bd.set (m' := mk + 1 + 1 + 1 + 1 + 1) Bk (by omega) (by omega)).upd).mono (by omega), fun γ hγ => by rw [upd_ne (by omega), get_set_ne (by omega), samek γ hγ], (Rk.set_ne (by omega)).upd_ne (by omega), (Rlk.set_ne (by omega)).upd_ne (by omega), ?_⟩
    have e1 : crashK D ps (k + 1) = crashK D ps k := if_neg (by rw [hpk]; decide)
    rw [e1]
    exact Slk.mono (fun v b s => s.keep Bk (fun γ hγ => by rw [upd_ne (by omega), get_set_ne (by omega)]))
  · skip
    refine Ek.seq ?_
    refine Ek.reg ?_
    refine SeqR.go rfl rfl rfl (st_pure rfl rfl) rfl ?_
    refine SeqR.nil ?_
    refine Ek.seq ?_
    refine Ek.condT rfl (by simp; omega) ?_
    refine Ek.skip ?_
    refine Ek.seq ?_
    refine Ek.block ?_
    refine Ek.seq ?_
    obtain ⟨i, s1, bs1, hci, hs0, hat⟩ := C0.at hkK
    have hs : SecV hk s1 bs1 := hs0.keep B samek
    have Vk := V0.keep B samek
    have hclk := hcl
    obtain ⟨C, n2, rfl, hn2, hCk⟩ := Vk.sl_of (by rintro rfl; simp only [List.length_nil] at hclk; omega)
    have hn2k : k < n2 := by omega
    have hld : ∀ nm x m2, stepA Tryd.prog TC nm ⟨hk, m2⟩ (.load 81 x) [.ptr C (0 + (k : Int).toNat * 2)] = some (.agg [.int .i64 (i : Int), s1], ⟨hk, m2⟩) := by
      intro nm x m2
      have q := st_lds (P := Tryd.prog) (call := TC) (nm := nm) (m := m2) (x := x) ta81 tz81 hCk (k := 0 + (k : Int).toNat * 2) (by simp; omega)
      rw [show 0 + (k : Int).toNat * 2 = k * 2 by simp] at q ⊢
      rw [hat] at q; exact q
    have hin := A.idx (i, bs1) (List.mem_of_getElem? hci)
    simp only at hin
    obtain ⟨β1, c1, rfl, hs1⟩ := id hs
    have hcd : D.cache.getD k (0, []) = (i, bs1) := by rw [List.getD_eq_getElem?_getD, hci]; rfl
    refine Ek.reg ?_
    refine SeqR.go rfl rfl rfl (st_pure rfl rfl) rfl ?_
    refine SeqR.go rfl rfl rfl (idx te59 tz81) rfl ?_
    refine SeqR.go rfl rfl rfl (hld _ _ _) rfl ?_
    refine SeqR.go rfl rfl rfl (st_allocZ tv81 rfl) rfl ?_
    refine SeqR.go rfl rfl rfl (st_pure rfl rfl) rfl ?_
    refine SeqR.go rfl rfl rfl (strr tz81) rfl ?_
    refine SeqR.nil ?_
    refine Ek.seq ?_
    refine Ek.reg ?_
    refine SeqR.go rfl rfl rfl (st_pure rfl rfl) rfl ?_
    refine SeqR.go rfl rfl rfl (st_pure rfl rfl) rfl ?_
    refine SeqR.go rfl rfl rfl (PV.len (V.of_eq B samek) te44) rfl ?_
    refine SeqR.go rfl rfl rfl (st_pure rfl rfl) rfl ?_
    refine SeqR.go rfl rfl rfl (st_pure rfl rfl) rfl ?_
    refine SeqR.hop rfl (by simp; omega) rfl ?_
    refine SeqR.hop rfl (by simp; omega) rfl ?_
    refine SeqR.hop rfl (by simp; omega) rfl ?_
    refine SeqR.hop rfl (by simp; omega) rfl ?_
    refine SeqR.go rfl rfl rfl (st_pickF (by simp; omega)) rfl ?_
    refine SeqR.nil ?_
    refine Ek.condF rfl rfl ?_
    refine Ek.skip ?_
    refine Ek.reg ?_
    refine SeqR.go rfl rfl rfl add1 rfl ?_
    refine SeqR.go rfl rfl rfl (st_pure rfl rfl) rfl ?_
    refine SeqR.nil ?_
    have hβn : βc < mk := Bk.row Rlk
    have hpk : ps.getD k false = false := by rw [List.getD_eq_getElem?_getD, List.getElem?_eq_none (by omega)]; rfl
    refine ⟨e - 1, by omega, k + 1, _, _, vl, by omega, Le.put (Le.put (Le.put (Le.put (Le.put (Le.nil _) rfl) rfl) rfl) rfl) rfl, rfl, by omega, ((Bd.set (m' := mk + 1 + 1 + 1 + 1 + 1) Bk (by omega) (by omega)).upd).mono (by omega), fun γ hγ => by rw [upd_ne (by omega), get_set_ne (by omega), samek γ hγ], (Rk.set_ne (by omega)).upd_ne (by omega), (Rlk.set_ne (by omega)).upd_ne (by omega), ?_⟩
    have e1 : crashK D ps (k + 1) = crashK D ps k := if_neg (by rw [hpk]; decide)
    rw [e1]
    exact Slk.mono (fun v b s => s.keep Bk (fun γ hγ => by rw [upd_ne (by omega), get_set_ne (by omega)]))
  · skip
    refine Ek.seq ?_
    refine Ek.reg ?_
    refine SeqR.go rfl rfl rfl (st_pure rfl rfl) rfl ?_
    refine SeqR.nil ?_
    refine Ek.seq ?_
    refine Ek.condF rfl (by simp; omega) ?_
    refine Ek.exit ?_
    simp only [AEx.then, AEx.inBlock, if_true]
    refine Ek.seq ?_
    have hkn : k = D.cache.length := by omega
    subst hkn
    have hvlk := Slk.1
    rw [crashK_len] at hvlk
    obtain ⟨n1, hn1e⟩ : ∃ n1, n1 = D.lasts.length := ⟨_, rfl⟩
    rw [← hn1e] at Rk hvlk
    have hel2 : ∀ m2, elemsA ⟨hk, m2⟩ 1 (.sl βc 0 n1 n1 1) n1 = some vl := fun m2 => by rw [elems_row Rlk (by omega), List.drop_zero, List.take_of_length_le (by omega)]
    refine Ek.reg ?_
    refine SeqR.go rfl rfl rfl (st_pure rfl rfl) rfl ?_
    refine SeqR.go rfl rfl rfl (st_pure rfl rfl) rfl ?_
    refine SeqR.go rfl rfl rfl (st_pure rfl rfl) rfl ?_
    refine SeqR.go rfl rfl rfl (fld tF61_0) rfl ?_
    refine SeqR.go rfl rfl rfl (ld ta22) rfl ?_
    refine SeqR.ex rfl rfl rfl (st_app (new := vl) (k := n1) te22 tz33 tb33 te22 (Or.inl ⟨rfl, rfl⟩) (by decide) (by decide) rfl (hel2 _) (by omega) Slk.one_cell tzo33 (by simp; omega)) ?_
    rintro v3 h3 m3 ⟨V3, p5, p6, p7, p8⟩
    refine ⟨_, rfl, ?_⟩
    obtain ⟨β4, n4, rfl, hn4, -⟩ := V3.sl_of (by intro e; rw [List.nil_append] at e; rw [e, List.length_nil] at hvlk; omega)
    rw [List.nil_append] at hn4 V3
    obtain rfl : n4 = n1 := by omega
    have hB3 : Bd h3 m3 := fun γ hγ => by rw [p7 γ (Or.inr hγ) (hnb _)]; exact Bk γ (by omega)
    have hRc3 := Rk.of_eq (p7 c0 (Or.inl (by omega)) (hnb _))
    have hb4 : mk ≤ β4 := by
      rcases p8 with e | e
      · cases e
      · injection e; omega
    refine SeqR.go rfl rfl rfl (st_pure rfl rfl) rfl ?_
    refine SeqR.go rfl rfl rfl (fld tF61_1) rfl ?_
    refine SeqR.go rfl rfl rfl (strr tz22) rfl ?_
    refine SeqR.nil ?_
    refine Ek.seq ?_
    refine Ek.reg ?_
    refine SeqR.go rfl rfl rfl (st_pure rfl rfl) rfl ?_
    refine SeqR.go rfl rfl rfl (st_pure rfl rfl) rfl ?_
    refine SeqR.nil ?_
    have hβc2 : βc < mk := Bk.row Rlk
    refine Ek.ret ⟨Or.inr rfl, _, rfl, _, _, rfl, c0, Ow c0 βc β4 .nils, rfl, ⟨βc, β4, .nils, ?_, rfl⟩, (hB3.upd).mono (by omega), by omega, fun γ hγ => by rw [upd_ne (by omega), p7 γ (Or.inl (by omega)) (hnb _), samek γ hγ], ?_⟩
    · have sm : ∀ v b, SecV hk v b → SecV (h3.upd c0 (0 + 1) (AV.sl β4 0 n4 n4 1).cells) v b := fun v b s => by
        obtain ⟨β, c, rfl, s⟩ := s
        obtain ⟨r, hr, _⟩ := s.row
        have hlt := Bk.row hr
        refine ⟨β, c, rfl, s.of_eq ?_⟩
        rw [upd_ne (fun e => ?_), p7 β (Or.inl (by omega)) (hnb _)]
        subst e
        have := congrArg List.length (hr.uniq Rk)
        rw [List.length_append, cellsB_len, s.len] at this
        simp at this; omega
      have hcl2 := crashK_len D ps D.cache.length
      refine ⟨?_, ⟨vl, (Rlk.of_eq (by rw [upd_ne (by omega), p7 βc (Or.inl (by omega)) (hnb _)])), Slk.mono sm⟩, ⟨vl, ?_, Slk.mono sm⟩, ⟨[], Or.inl ⟨rfl, rfl⟩, [], rfl, rfl, SecVs.nil⟩, Or.inl rfl, by omega, by omega, by omega, fun e => (by cases e), fun e => (by cases e), fun e => (by cases e), rfl, by simp only [Dk.crash]; omega, by simp only [Dk.crash]; omega, fun p hp => (by simp [Dk.crash] at hp), by simp [Dk.crash], by simp [Dk.crash]⟩
      · simp only [Dk.crash, hcl2, ← hn1e]
        exact hRc3.upd1 (by simp)
      · obtain ⟨e, _⟩ | ⟨β, n, e, _, R⟩ := V3
        · cases e
        · injection e with e; subst e
          exact R.upd_ne (by omega)
    · rintro γ (rfl | rfl | rfl | e)
      · omega
      · exact hβc.1
      · omega
      · cases e
end
end Go.Xec
