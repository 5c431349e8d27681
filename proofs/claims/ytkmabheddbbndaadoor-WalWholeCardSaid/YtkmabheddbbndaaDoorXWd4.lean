/- The disk's functions, by contract: Limit, New. -/
import Derived.Test.YtkmabheddbbndaaDoorXWd3
namespace Go.Xec
open Go.Proofs
section
variable {h h' : T ABlk} {d L N β m m' : Nat} {cv v : AV} {D : Dk} {own own' : Nat → Prop} {bs b : By}
def Dk.lim (D : Dk) (n : Int) : Dk := match D.dead with
  | true => D
  | false => { D with limit := if n < -1 then -1 else n, dead := decide (n = 0) }

theorem Disk.upd_d (A : DiskAt h d L N cv D) (B : Bd h m) {hf : T ABlk} {D' : Dk} (hfe : ∀ γ, γ ≠ d → hf.get γ = h.get γ)
    (R : Row hf d [.sl L 0 D.lasts.length D.lasts.length 1, .sl N 0 D.now.length D.now.length 1, cv, .int .i64 (D.writes : Int), .int .i64 D'.limit, .bool D'.dead])
    (e : D' = { D with limit := D'.limit, dead := D'.dead }) (hl : -1 ≤ D'.limit ∧ D'.limit < 4611686018427387904) : Disk hf d D' (Ow d L N cv) := by
  have A' : Disk h d D (Ow d L N cv) := ⟨L, N, cv, A, rfl⟩
  have sm : ∀ v b, SecV h v b → SecV hf v b := fun v b s => by
    obtain ⟨β, c, rfl, s⟩ := s
    exact ⟨β, c, rfl, s.of_eq (hfe β fun q => A'.sec s (Or.inl q))⟩
  obtain ⟨vl, Rl, Sl⟩ := A.lasts
  obtain ⟨vn, Rn, Sn⟩ := A.now
  obtain ⟨cs, V, C⟩ := A.cac
  refine ⟨L, N, cv, ?_, rfl⟩
  rw [e]
  exact ⟨R, ⟨vl, Rl.of_eq (hfe L (Ne.symm A.dL)), Sl.mono sm⟩, ⟨vn, Rn.of_eq (hfe N (Ne.symm A.dN)), Sn.mono sm⟩, ⟨cs, V.of_eq fun γ hγ => hfe γ fun q => A.cd (q ▸ hγ), C.mono sm⟩, A.cne, A.dL, A.dN, A.LN, A.cd, A.cL, A.cN, A.len, A.pos, A.big, A.idx, A.few, hl⟩

theorem w_limit (A : Disk h d D own) (B : Bd h m) {n : Int} (hn : n < 4611686018427387904) :
    ∃ v' h' m', TC 21 [.ptr d 0, .int .i64 n] ⟨h, m⟩ = some (v', ⟨h', m'⟩) ∧ (v' = .tup [] ∧ Disk h' d (D.lim n) own ∧ Bd h' m' ∧ Stp own h m own h' m') := by
  have A0 := A
  obtain ⟨L, N, cv, A, rfl⟩ := A
  have R := A.row
  have hlim := A.lim
  refine top_fn Tryd.func21 (by rfl) rfl rfl (by rfl) ?_
  refine Ek.seq ?_
  refine Ek.seq ?_
  refine Ek.reg ?_
  refine SeqR.go rfl rfl rfl (st_pure rfl rfl) rfl ?_
  refine SeqR.go rfl rfl rfl (st_eqnil tu25) rfl ?_
  refine SeqR.go rfl rfl rfl (st_pure rfl rfl) rfl ?_
  refine SeqR.go rfl rfl rfl (st_pure rfl rfl) rfl ?_
  refine SeqR.go rfl rfl rfl (st_pure rfl rfl) rfl ?_
  refine SeqR.go rfl rfl rfl (fld tF61_5) rfl ?_
  refine SeqR.go rfl rfl rfl (ld ta4) rfl ?_
  refine SeqR.go rfl rfl rfl (st_pickF rfl) rfl ?_
  refine SeqR.nil ?_
  by_cases hdead : D.dead = true
  · refine Ek.condT rfl (by simp [hdead]) ?_
    refine Ek.ret ⟨Or.inr rfl, _, rfl, _, _, rfl, rfl, by unfold Dk.lim; rw [hdead]; exact A0, B.mono (by omega), Stp.refl (by omega)⟩
  · refine Ek.condF rfl (by simp [hdead]) ?_
    refine Ek.skip ?_
    refine Ek.seq ?_
    refine Ek.reg ?_
    refine SeqR.go rfl rfl rfl (st_pure rfl rfl) rfl ?_
    refine SeqR.go rfl rfl rfl (st_pure rfl rfl) rfl ?_
    refine SeqR.go rfl rfl rfl (st_pure rfl rfl) rfl ?_
    refine SeqR.go rfl rfl rfl (st_pure rfl rfl) rfl ?_
    refine SeqR.go rfl rfl rfl (fld tF61_4) rfl ?_
    refine SeqR.go rfl rfl rfl (strr tz3) rfl ?_
    refine SeqR.nil ?_
    refine Ek.reg ?_
    refine SeqR.go rfl rfl rfl (st_pure rfl rfl) rfl ?_
    refine SeqR.go rfl rfl rfl (st_pure rfl rfl) rfl ?_
    refine SeqR.go rfl rfl rfl (st_pure rfl rfl) rfl ?_
    refine SeqR.go rfl rfl rfl (st_pure rfl rfl) rfl ?_
    refine SeqR.go rfl rfl rfl (fld tF61_5) rfl ?_
    refine SeqR.go rfl rfl rfl (strr tz4) rfl ?_
    refine SeqR.nil ?_
    have hdead' : D.dead = false := by simpa using hdead
    refine ⟨Or.inl rfl, _, rfl, _, _, rfl, rfl, ?_, (B.upd.upd).mono (by omega), ⟨by omega, fun γ _ g => ?_, fun γ q => Or.inl q⟩⟩
    · have e : D.lim n = { D with limit := if n < -1 then -1 else n, dead := decide (n = 0) } := by unfold Dk.lim; rw [hdead']
      refine Disk.upd_d A B (fun γ g => by rw [upd_ne g, upd_ne g]) ?_ (by rw [e]) (by rw [e]; simp only; split <;> omega)
      rw [e]
      exact (R.upd1 (by simp)).upd1 (by simp)
    · have gd : γ ≠ d := fun q => g (Or.inl q)
      rw [upd_ne gd, upd_ne gd]

def zeroS : By := List.replicate 512 0
def Dk.new (n : Nat) : Dk := ⟨List.replicate n zeroS, List.replicate n zeroS, [], 0, -1, false⟩
theorem new_build : pureA Tryd.prog (.build 61 #[(4, .const (.int .i64 (-1)))]) [.int .i64 (-1)] = some (.agg [.nils, .nils, .nils, .int .i64 0, .int .i64 (-1), .bool false]) := by kernel_rfl
theorem tv5 : zeroT Tryd.prog 5 = some (.int .u8 0) := by kernel_rfl
theorem zeroS_cells : (List.replicate 512 (AV.int .u8 0).cells).flatten = cellsB zeroS := by
  show (List.replicate 512 [AV.int .u8 0]).flatten = _
  rw [List.flatten_replicate_singleton, cellsB, zeroS, List.map_replicate]; rfl
theorem Bd.base {z : Nat} {l : List AV} {γ : Nat} (B : Bd h m) (V : Vec h z v l) (hγ : v.base = some γ) : γ < m := by
  obtain ⟨rfl, _⟩ | ⟨β, n, rfl, _, R⟩ := V
  · cases hγ
  · injection hγ with hγ; subst hγ; exact B.row R
theorem secs_rep (n : Nat) (s : SecV h v bs) : SecVs h (List.replicate n v) (List.replicate n bs) := by
  refine ⟨by simp, fun i u b hu hb => ?_⟩
  rw [List.getElem?_replicate] at hu hb
  split at hu
  · rename_i hi
    rw [if_pos hi] at hb
    injection hu with hu; injection hb with hb; subst hu; subst hb; exact s
  · cases hu

noncomputable def frN (d z n i : Nat) : Fr := (((T.nil.set 3 (.ptr d 0)).set 4 (secV z 512)).set 14 (.int .i64 (n : Int))).set 15 (.int .i64 (i : Int))
theorem w_new (B : Bd h m) {n : Nat} (h1n : 1 ≤ n) (hn : n ≤ 4096) :
    ∃ v' h' m', TC 9 [.int .i64 (n : Int)] ⟨h, m⟩ = some (v', ⟨h', m'⟩) ∧ (∃ d own, v' = .ptr d 0 ∧ Disk h' d (Dk.new n) own ∧ Bd h' m' ∧ m ≤ m' ∧ (∀ γ, γ < m → h'.get γ = h.get γ) ∧ ∀ γ, own γ → m ≤ γ) := by
  refine top_fn Tryd.func9 (by rfl) rfl rfl (by rfl) ?_
  refine Ek.seq ?_
  refine Ek.reg ?_
  refine SeqR.go rfl rfl rfl (st_pure rfl rfl) rfl ?_
  refine SeqR.nil ?_
  refine Ek.seq ?_
  refine Ek.seq ?_
  refine Ek.reg ?_
  refine SeqR.go rfl rfl rfl (st_pure rfl rfl) rfl ?_
  refine SeqR.go rfl rfl rfl (st_pure rfl rfl) rfl ?_
  refine SeqR.go rfl rfl rfl (st_pure rfl rfl) rfl ?_
  refine SeqR.go rfl (by simp; omega) rfl (st_pure rfl rfl) rfl ?_
  refine SeqR.go rfl (by simp; omega) rfl (st_pure rfl rfl) rfl ?_
  refine SeqR.go rfl rfl rfl (st_pickF (by simp; omega)) rfl ?_
  refine SeqR.nil ?_
  refine Ek.condF rfl (by simp; omega) ?_
  refine Ek.skip ?_
  refine Ek.seq ?_
  refine Ek.reg ?_
  refine SeqR.go rfl rfl rfl (st_pure rfl new_build) rfl ?_
  refine SeqR.go rfl rfl rfl st_box rfl ?_
  refine SeqR.go rfl rfl rfl (st_pure rfl rfl) rfl ?_
  refine SeqR.nil ?_
  refine Ek.seq ?_
  refine Ek.reg ?_
  refine SeqR.go rfl rfl rfl (st_mkslice (n := 512) te33 tz5 tb5 tv5 rfl (by decide) (by decide) (by decide)) rfl ?_
  refine SeqR.go rfl rfl rfl (st_pure rfl rfl) rfl ?_
  refine SeqR.nil ?_
  refine Ek.seq ?_
  refine Ek.seq ?_
  generalize hz0 : m + 1 + 1 + 1 + 1 + 1 + 1 + 1 + 1 + 1 + 1 = z0
  generalize hd0 : m + 1 + 1 + 1 + 1 + 1 + 1 + 1 + 1 = d0
  refine Ek.reg ?_
  refine SeqR.go rfl rfl rfl (st_pure rfl rfl) rfl ?_
  refine SeqR.go rfl rfl rfl (st_pure rfl rfl) rfl ?_
  refine SeqR.nil ?_
  refine Ek.block ?_
  refine Ek.loop_inv (fun d fr st => ∃ i hk mk lv, i + d = n ∧ Le (frN d0 z0 n i) fr ∧ st = ⟨hk, mk⟩ ∧ z0 < mk ∧ Bd hk mk ∧ Row hk d0 [lv, .nils, .nils, .int .i64 0, .int .i64 (-1), .bool false] ∧ Vec hk 1 lv (List.replicate i (secV z0 512)) ∧ (∀ γ, lv.base = some γ → γ ≠ d0 ∧ γ ≠ z0 ∧ m ≤ γ) ∧ Sec hk z0 512 zeroS ∧ ∀ γ, γ < m → hk.get γ = h.get γ) ?_ (n) _ _ ⟨0, _, _, .nils, by omega, Le.put (Le.put (Le.put (Le.put (Le.nil _) rfl) rfl) rfl) rfl, rfl, ?_⟩
  rotate_left
  · refine ⟨by omega, ?_, ?_, Or.inl ⟨rfl, rfl⟩, (fun γ hγ => by cases hγ), ?_, fun γ hγ => by rw [get_set_ne (by omega), get_set_ne (by omega)]⟩
    · exact (Bd.set (m' := z0) B (by omega) (by omega)).set (by omega) (by omega)
    · exact Row.new.set_ne (by omega)
    · refine ⟨⟨[], ?_, rfl⟩, List.length_replicate, Nat.le_refl _⟩
      rw [List.append_nil, ← zeroS_cells]; exact Row.new
  have hdz : d0 ≠ z0 := by omega
  rintro e fr st ⟨i, hk, mk, lv, hi, hle, rfl, hzk, Bk, Rk, Vk, hbase, Sk, samek⟩
  refine Ek.weaken hle ?_
  clear hle
  have hdk := Bk.row Rk
  refine Ek.seq ?_
  refine Ek.reg ?_
  refine SeqR.go rfl rfl rfl (st_pure rfl rfl) rfl ?_
  refine SeqR.nil ?_
  refine Ek.seq ?_
  by_cases hin : i < n
  · refine Ek.condT rfl (by simp [hin]) ?_
    refine Ek.skip ?_
    refine Ek.seq ?_
    refine Ek.block ?_
    refine Ek.reg ?_
    refine SeqR.go rfl rfl rfl (st_pure rfl rfl) rfl ?_
    refine SeqR.go rfl rfl rfl (st_pure rfl rfl) rfl ?_
    refine SeqR.go rfl rfl rfl (st_pure rfl rfl) rfl ?_
    refine SeqR.go rfl rfl rfl (fld tF61_0) rfl ?_
    refine SeqR.go rfl rfl rfl (ld ta22) rfl ?_
    refine SeqR.go rfl rfl rfl (st_pure rfl rfl) rfl ?_
    refine SeqR.go rfl rfl rfl (bs1 te22 tz33 tzo33) rfl ?_
    refine SeqR.ex rfl rfl rfl (st_app (new := [secV z0 512]) (k := 1) te22 tz33 tb33 te22 (Vk.of_eq fun γ hγ => get_set_ne (by have := Bk.base Vk hγ; omega)) (by decide) (by decide) rfl (elems_row (Row.new) (Nat.le_refl 1)) rfl rfl tzo33 (by simp; omega)) ?_
    rintro v2 h2 m3 ⟨V2, p1, p2, p3, p4⟩
    refine ⟨_, rfl, ?_⟩
    have hR2 : Row h2 d0 _ := (Rk.set_ne (by omega)).of_eq (p3 d0 (Or.inl (by omega)) (fun e => (hbase d0 e).1 rfl))
    have hS2 : Sec h2 z0 512 zeroS := Sk.of_eq (by rw [p3 z0 (Or.inl (by omega)) (fun e => (hbase z0 e).2.1 rfl), get_set_ne (by omega)])
    have V2s : Vec h2 1 v2 (List.replicate (i + 1) (secV z0 512)) := by rw [List.replicate_succ']; exact V2
    have hb2 : ∀ γ, v2.base = some γ → γ ≠ d0 ∧ γ ≠ z0 ∧ m ≤ γ := by
      intro γ hγ
      rcases p4 with e | e
      · exact hbase γ (e ▸ hγ)
      · rw [e] at hγ; injection hγ with hγ; subst hγ; exact ⟨by omega, by omega, by omega⟩
    have hsame : ∀ γ, γ < m → h2.get γ = h.get γ := fun γ hγ => by rw [p3 γ (Or.inl (by omega)) (fun e => by have := (hbase γ e).2.2; omega), get_set_ne (by omega), samek γ hγ]
    have hB2 : Bd h2 m3 := (Bk.set (by omega) (Nat.le_succ_of_le (by omega))).of p1 (fun γ hγ => p3 γ (Or.inr hγ) (fun e => by have := Bk.base Vk e; omega))
    obtain ⟨β2, n2, rfl, -, -⟩ := V2.sl_of (by simp)
    refine SeqR.go rfl rfl rfl (st_pure rfl rfl) rfl ?_
    refine SeqR.go rfl rfl rfl (fld tF61_0) rfl ?_
    refine SeqR.go rfl rfl rfl (strr tz22) rfl ?_
    refine SeqR.nil ?_
    refine Ek.reg ?_
    refine SeqR.go rfl rfl rfl add1 rfl ?_
    refine SeqR.go rfl rfl rfl (st_pure rfl rfl) rfl ?_
    refine SeqR.nil ?_
    refine ⟨e - 1, by omega, i + 1, _, _, _, by omega, Le.put (Le.put (Le.put (Le.put (Le.nil _) rfl) rfl) rfl) rfl, rfl, by omega, (hB2.upd).mono (by omega), hR2.upd1 (by simp), V2s.of_eq (fun γ hγ => upd_ne (hb2 γ hγ).1), hb2, hS2.of_eq (upd_ne hdz.symm), fun γ hγ => ?_⟩
    rw [upd_ne (by omega)]; exact hsame γ hγ
  · refine Ek.condF rfl (by simp [hin]) ?_
    refine Ek.exit ?_
    simp only [AEx.then, AEx.inBlock, if_true]
    refine Ek.seq ?_
    have hin2 : i = n := by omega
    subst hin2
    obtain ⟨β3, n3, rfl, hn3, hR3⟩ := Vk.sl_of (by simp; omega)
    obtain rfl : n3 = i := by simpa using hn3.symm
    have hel : ∀ m2, elemsA ⟨hk, m2⟩ 1 (.sl β3 0 n3 n3 1) n3 = some (List.replicate n3 (secV z0 512)) := fun m2 => by rw [elems_row hR3 (by simp)]; simp
    refine Ek.drw (by kernel_rfl) ?_
    refine SeqD.go rfl rfl rfl (st_pure rfl rfl) rfl ?_
    refine SeqD.go rfl rfl rfl (st_pure rfl rfl) rfl ?_
    refine SeqD.go rfl rfl rfl (st_pure rfl rfl) rfl ?_
    refine SeqD.go rfl rfl rfl (fld tF61_1) rfl ?_
    refine SeqD.go rfl rfl rfl (ld ta22) rfl ?_
    refine SeqD.go rfl rfl rfl (st_pure rfl rfl) rfl ?_
    refine SeqD.go rfl rfl rfl (st_pure rfl rfl) rfl ?_
    refine SeqD.go rfl rfl rfl (fld tF61_0) rfl ?_
    refine SeqD.go rfl rfl rfl (ld ta22) rfl ?_
    refine SeqD.ex rfl rfl rfl (st_app (new := List.replicate n3 (secV z0 512)) (k := n3) te22 tz33 tb33 te22 (Or.inl ⟨rfl, rfl⟩) (by decide) (by decide) rfl (hel _) (by simp) (by rw [List.all_eq_true]; intro a ha; rw [(List.mem_replicate.1 ha).2]; rfl) tzo33 (by simp; omega)) ?_
    rintro v3 h3 m4 ⟨V3, p5, p6, p7, p8⟩
    refine ⟨_, rfl, ?_⟩
    obtain ⟨β4, n4, rfl, hn4, -⟩ := V3.sl_of (by simp; omega)
    obtain rfl : n4 = n3 := by simpa using hn4.symm
    have hb4 : β4 ≠ β3 ∧ β4 ≠ d0 ∧ m ≤ β4 := by
      have h3k := Bk.row hR3
      rcases p8 with e | e
      · cases e
      · injection e with e; subst e; exact ⟨by omega, by omega, by omega⟩
    have hb3 := hbase β3 rfl
    have hnb : ∀ γ, AV.nils.base ≠ some γ := fun γ e => by cases e
    have hR4 : Row h3 d0 _ := Rk.of_eq (p7 d0 (Or.inl (by omega)) (hnb _))
    have hB4 : Bd h3 m4 := Bk.of (by omega) (fun γ hγ => p7 γ (Or.inr hγ) (hnb _))
    refine SeqD.go rfl rfl rfl (st_pure rfl rfl) rfl ?_
    refine SeqD.go rfl rfl rfl (fld tF61_1) rfl ?_
    refine SeqD.go rfl rfl rfl (strr tz22) rfl ?_
    refine SeqD.nil ?_
    refine Ek.seq ?_
    refine Ek.reg ?_
    refine SeqR.go rfl rfl rfl (st_pure rfl rfl) rfl ?_
    refine SeqR.go rfl rfl rfl (st_pure rfl rfl) rfl ?_
    refine SeqR.nil ?_
    refine Ek.ret ⟨Or.inr rfl, _, rfl, _, _, rfl, d0, Ow d0 β3 β4 .nils, rfl, ⟨β3, β4, .nils, ?_, rfl⟩, (hB4.upd).mono (by omega), by omega, fun γ hγ => ?_, ?_⟩
    · have hs3 : SecV (h3.upd d0 (0 + 1) (AV.sl β4 0 n4 n4 1).cells) (secV z0 512) zeroS := ⟨z0, 512, rfl, Sk.of_eq (by rw [upd_ne (by omega), p7 z0 (Or.inl (by omega)) (hnb _)])⟩
      refine ⟨?_, ⟨_, ?_, secs_rep n4 hs3⟩, ⟨_, ?_, secs_rep n4 hs3⟩, ⟨[], Or.inl ⟨rfl, rfl⟩, [], rfl, rfl, SecVs.nil⟩, Or.inl rfl, hb3.1.symm, hb4.2.1.symm, hb4.1.symm, fun e => (by cases e), fun e => (by cases e), fun e => (by cases e), by simp [Dk.new], by simp [Dk.new]; omega, by simp [Dk.new]; omega, fun p hp => by simp [Dk.new] at hp, by simp [Dk.new], by simp [Dk.new]⟩
      · simp only [Dk.new, List.length_replicate]
        exact hR4.upd1 (by simp)
      · exact (hR3.of_eq (by rw [upd_ne hb3.1, p7 β3 (Or.inl (by have := Bk.row hR3; omega)) (hnb _)]))
      · obtain ⟨e, _⟩ | ⟨β, n, e, _, R⟩ := V3
        · cases e
        · injection e with e; subst e
          simpa using R.upd_ne hb4.2.1
    · rw [upd_ne (by omega), p7 γ (Or.inl (by omega)) (hnb _), samek γ hγ]
    · rintro γ (rfl | rfl | rfl | e)
      · omega
      · exact hb3.2.2
      · exact hb4.2.2
      · cases e
end
end Go.Xec
