/- WalWhole: the walk through the law's own code. -/
import Derived.Test.YtkmabheddbbndaaDoorXWh4
namespace Go.Xec
open Go.Proofs
section
variable {h h' hf : T ABlk} {l d m m' q : Nat} {v pv : AV} {D : Dk} {G : Lg} {own own' od : Nat → Prop} {ps : List Bool}
theorem w_limitL (A : Log h l d G own) (B : Bd h m) {n : Int} (hn : n < 4611686018427387904) :
    ∃ v' h' m', TC 21 [.ptr d 0, .int .i64 n] ⟨h, m⟩ = some (v', ⟨h', m'⟩) ∧ (v' = .tup [] ∧ ∃ own', Log h' l d { G with disk := G.disk.lim n } own' ∧ Bd h' m' ∧ Stp own h m own' h' m') := by
  obtain ⟨od, Ad, _⟩ := A.disk'
  obtain ⟨v1, h1, m1, e1, rfl, A1, B1, t1⟩ := w_limit Ad B hn
  obtain ⟨o2, A2, t2⟩ := Log.step (h' := h1) (m' := m1) (D' := G.disk.lim n) A B (fun o2 A2 => by
    obtain ⟨v2, h2, m2, e2, _, A3, _, t3⟩ := w_limit A2 B hn
    rw [e1] at e2
    cases e2
    exact ⟨_, A3, t3⟩)
  exact ⟨_, h1, m1, e1, rfl, o2, A2, B1, t2⟩
theorem sync_len (D : Dk) (ws : List (Nat × By)) : (syncD D ws).now.length = D.now.length := by
  unfold syncD
  split
  · rfl
  · unfold inst
    rw [Dk.flush_now, Dk.write_now, Dk.flush_now, instL_now, Dk.flush_now, Dk.write_now, Dk.flush_now, wrL_now]
theorem Disk.eqlen (A : Disk h d D own) : D.lasts.length = D.now.length := by obtain ⟨L, N, cv, A, rfl⟩ := A; exact A.len
theorem full1 : (fullOf [1])[0]? = some 1 := by kernel_rfl
theorem full2 : (fullOf [2])[0]? = some 2 := by kernel_rfl
theorem lim_of (h : Live D) (n : Nat) : (D.lim (n : Int)).now = D.now ∧ (D.lim (n : Int)).writes = D.writes := by
  unfold Dk.lim; rw [h.1]; exact ⟨rfl, rfl⟩
theorem Sec.at0 {β c : Nat} {bs : By} {b : UInt8} (s : Sec h β c bs) (e : bs[0]? = some b) : ∃ r, Row h β r ∧ r[0 + (0 : Int).toNat * 1]? = some (.int .u8 (b.toNat : Int)) := by
  obtain ⟨r, R, _⟩ := s.row
  refine ⟨_, R, ?_⟩
  show (cellsB bs ++ r)[0]? = _
  rw [List.getElem?_append_left (by rw [cellsB_len, s.len]; decide), cellsB, List.getElem?_map, e]; rfl
theorem Sec.is1 {β c : Nat} {bs : By} (s : Sec h β c bs) (e : bs[0]? = some 1) : ∃ r, Row h β r ∧ r[0 + (0 : Int).toNat * 1]? = some (.int .u8 1) := s.at0 e
theorem Sec.is2 {β c : Nat} {bs : By} (s : Sec h β c bs) (e : bs[0]? = some 2) : ∃ r, Row h β r ∧ r[0 + (0 : Int).toNat * 1]? = some (.int .u8 2) := s.at0 e
theorem getW_nil (k : Nat) : getW k [] = none := rfl
noncomputable def frW (n a : Nat) (pv : AV) (d l s i : Nat) : Fr := ((((((T.nil.set 0 (.int .i64 (n : Int))).set 1 (.int .i64 (a : Int))).set 2 pv).set 7 (.bool true)).set 8 (.ptr d 0)).set 9 (.ptr l 0)).set s (.int .i64 (i : Int))
noncomputable def frV (n : Nat) (bv : AV) (dd : Bool) (l o t k : Nat) : Fr := (((((((T.nil.set 0 (.int .i64 (n : Int))).set 7 (.bool true)).set 13 bv).set 14 (.bool dd)).set 15 (.ptr l 0)).set 16 (.int .i64 (o : Int))).set 17 (.int .i64 (t : Int))).set 18 (.int .i64 (k : Int))
set_option maxRecDepth 4000 in
theorem whole_body (n a : Int) (B : Bd h m) (V : PV h pv ps) : ∃ loops v st', bodyA Tryd.prog TC loops Tryd.f5 [.int .i64 n, .int .i64 a, pv] ⟨h, m⟩ = some (v, st') ∧ v = .bool true := by
  refine bodyA_of_ek rfl rfl (by rfl) ?_
  by_cases c1 : n < 1
  · skip
    refine Ek.seq ?_
    refine Ek.reg ?_
    refine SeqR.go rfl rfl rfl (st_pure rfl rfl) rfl ?_
    refine SeqR.nil ?_
    refine Ek.seq ?_
    refine Ek.reg ?_
    refine SeqR.go rfl rfl rfl (st_call rfl rfl (topA_ext rfl)) rfl ?_
    refine SeqR.go rfl rfl rfl (st_pure rfl rfl) rfl ?_
    refine SeqR.nil ?_
    refine Ek.seq ?_
    refine Ek.seq ?_
    refine Ek.reg ?_
    refine SeqR.go rfl rfl rfl (st_pure rfl rfl) rfl ?_
    refine SeqR.go rfl rfl rfl (st_pure rfl rfl) rfl ?_
    refine SeqR.nil ?_
    refine Ek.condF rfl rfl ?_
    refine Ek.skip ?_
    refine Ek.seq ?_
    refine Ek.seq ?_
    refine Ek.reg ?_
    refine SeqR.go rfl rfl rfl (st_pure rfl rfl) rfl ?_
    refine SeqR.go rfl rfl rfl (st_pure rfl rfl) rfl ?_
    refine SeqR.go rfl rfl rfl (st_pure rfl rfl) rfl ?_
    refine SeqR.hop rfl (by simp; omega) rfl ?_
    refine SeqR.hop rfl (by simp; omega) rfl ?_
    refine SeqR.go rfl rfl rfl (st_pickT (by simp; omega)) rfl ?_
    refine SeqR.go rfl rfl rfl (st_pure rfl rfl) rfl ?_
    refine SeqR.hop rfl rfl rfl ?_
    refine SeqR.hop rfl rfl rfl ?_
    refine SeqR.go rfl rfl rfl (st_pickT rfl) rfl ?_
    refine SeqR.go rfl rfl rfl (st_pure rfl rfl) rfl ?_
    refine SeqR.hop rfl rfl rfl ?_
    refine SeqR.hop rfl rfl rfl ?_
    refine SeqR.go rfl rfl rfl (st_pickT rfl) rfl ?_
    refine SeqR.nil ?_
    refine Ek.condT rfl rfl ?_
    refine Ek.seq ?_
    refine Ek.reg ?_
    refine SeqR.go rfl rfl rfl (st_pure rfl rfl) rfl ?_
    refine SeqR.go rfl rfl rfl (st_pure rfl rfl) rfl ?_
    refine SeqR.nil ?_
    exact Ek.ret ⟨Or.inr rfl, _, rfl, rfl⟩
  by_cases c2 : n > 40
  · skip
    refine Ek.seq ?_
    refine Ek.reg ?_
    refine SeqR.go rfl rfl rfl (st_pure rfl rfl) rfl ?_
    refine SeqR.nil ?_
    refine Ek.seq ?_
    refine Ek.reg ?_
    refine SeqR.go rfl rfl rfl (st_call rfl rfl (topA_ext rfl)) rfl ?_
    refine SeqR.go rfl rfl rfl (st_pure rfl rfl) rfl ?_
    refine SeqR.nil ?_
    refine Ek.seq ?_
    refine Ek.seq ?_
    refine Ek.reg ?_
    refine SeqR.go rfl rfl rfl (st_pure rfl rfl) rfl ?_
    refine SeqR.go rfl rfl rfl (st_pure rfl rfl) rfl ?_
    refine SeqR.nil ?_
    refine Ek.condF rfl rfl ?_
    refine Ek.skip ?_
    refine Ek.seq ?_
    refine Ek.seq ?_
    refine Ek.reg ?_
    refine SeqR.go rfl rfl rfl (st_pure rfl rfl) rfl ?_
    refine SeqR.go rfl rfl rfl (st_pure rfl rfl) rfl ?_
    refine SeqR.go rfl rfl rfl (st_pure rfl rfl) rfl ?_
    refine SeqR.go rfl (by simp; omega) rfl (st_pure rfl rfl) rfl ?_
    refine SeqR.go rfl (by simp; omega) rfl (st_pure rfl rfl) rfl ?_
    refine SeqR.go rfl rfl rfl (st_pickF (by simp; omega)) rfl ?_
    refine SeqR.go rfl rfl rfl (st_pure rfl rfl) rfl ?_
    refine SeqR.hop rfl (by simp; omega) rfl ?_
    refine SeqR.hop rfl (by simp; omega) rfl ?_
    refine SeqR.go rfl rfl rfl (st_pickT (by simp; omega)) rfl ?_
    refine SeqR.go rfl rfl rfl (st_pure rfl rfl) rfl ?_
    refine SeqR.hop rfl rfl rfl ?_
    refine SeqR.hop rfl rfl rfl ?_
    refine SeqR.go rfl rfl rfl (st_pickT rfl) rfl ?_
    refine SeqR.nil ?_
    refine Ek.condT rfl rfl ?_
    refine Ek.seq ?_
    refine Ek.reg ?_
    refine SeqR.go rfl rfl rfl (st_pure rfl rfl) rfl ?_
    refine SeqR.go rfl rfl rfl (st_pure rfl rfl) rfl ?_
    refine SeqR.nil ?_
    exact Ek.ret ⟨Or.inr rfl, _, rfl, rfl⟩
  by_cases c3 : a < 0
  · skip
    refine Ek.seq ?_
    refine Ek.reg ?_
    refine SeqR.go rfl rfl rfl (st_pure rfl rfl) rfl ?_
    refine SeqR.nil ?_
    refine Ek.seq ?_
    refine Ek.reg ?_
    refine SeqR.go rfl rfl rfl (st_call rfl rfl (topA_ext rfl)) rfl ?_
    refine SeqR.go rfl rfl rfl (st_pure rfl rfl) rfl ?_
    refine SeqR.nil ?_
    refine Ek.seq ?_
    refine Ek.seq ?_
    refine Ek.reg ?_
    refine SeqR.go rfl rfl rfl (st_pure rfl rfl) rfl ?_
    refine SeqR.go rfl rfl rfl (st_pure rfl rfl) rfl ?_
    refine SeqR.nil ?_
    refine Ek.condF rfl rfl ?_
    refine Ek.skip ?_
    refine Ek.seq ?_
    refine Ek.seq ?_
    refine Ek.reg ?_
    refine SeqR.go rfl rfl rfl (st_pure rfl rfl) rfl ?_
    refine SeqR.go rfl rfl rfl (st_pure rfl rfl) rfl ?_
    refine SeqR.go rfl rfl rfl (st_pure rfl rfl) rfl ?_
    refine SeqR.go rfl (by simp; omega) rfl (st_pure rfl rfl) rfl ?_
    refine SeqR.go rfl (by simp; omega) rfl (st_pure rfl rfl) rfl ?_
    refine SeqR.go rfl rfl rfl (st_pickF (by simp; omega)) rfl ?_
    refine SeqR.go rfl rfl rfl (st_pure rfl rfl) rfl ?_
    refine SeqR.go rfl (by simp; omega) rfl (st_pure rfl rfl) rfl ?_
    refine SeqR.go rfl (by simp; omega) rfl (st_pure rfl rfl) rfl ?_
    refine SeqR.go rfl rfl rfl (st_pickF (by simp; omega)) rfl ?_
    refine SeqR.go rfl rfl rfl (st_pure rfl rfl) rfl ?_
    refine SeqR.hop rfl (by simp; omega) rfl ?_
    refine SeqR.hop rfl (by simp; omega) rfl ?_
    refine SeqR.go rfl rfl rfl (st_pickT (by simp; omega)) rfl ?_
    refine SeqR.nil ?_
    refine Ek.condT rfl rfl ?_
    refine Ek.seq ?_
    refine Ek.reg ?_
    refine SeqR.go rfl rfl rfl (st_pure rfl rfl) rfl ?_
    refine SeqR.go rfl rfl rfl (st_pure rfl rfl) rfl ?_
    refine SeqR.nil ?_
    exact Ek.ret ⟨Or.inr rfl, _, rfl, rfl⟩
  by_cases c4 : a > 120
  · skip
    refine Ek.seq ?_
    refine Ek.reg ?_
    refine SeqR.go rfl rfl rfl (st_pure rfl rfl) rfl ?_
    refine SeqR.nil ?_
    refine Ek.seq ?_
    refine Ek.reg ?_
    refine SeqR.go rfl rfl rfl (st_call rfl rfl (topA_ext rfl)) rfl ?_
    refine SeqR.go rfl rfl rfl (st_pure rfl rfl) rfl ?_
    refine SeqR.nil ?_
    refine Ek.seq ?_
    refine Ek.seq ?_
    refine Ek.reg ?_
    refine SeqR.go rfl rfl rfl (st_pure rfl rfl) rfl ?_
    refine SeqR.go rfl rfl rfl (st_pure rfl rfl) rfl ?_
    refine SeqR.nil ?_
    refine Ek.condF rfl rfl ?_
    refine Ek.skip ?_
    refine Ek.seq ?_
    refine Ek.seq ?_
    refine Ek.reg ?_
    refine SeqR.go rfl rfl rfl (st_pure rfl rfl) rfl ?_
    refine SeqR.go rfl rfl rfl (st_pure rfl rfl) rfl ?_
    refine SeqR.go rfl rfl rfl (st_pure rfl rfl) rfl ?_
    refine SeqR.go rfl (by simp; omega) rfl (st_pure rfl rfl) rfl ?_
    refine SeqR.go rfl (by simp; omega) rfl (st_pure rfl rfl) rfl ?_
    refine SeqR.go rfl rfl rfl (st_pickF (by simp; omega)) rfl ?_
    refine SeqR.go rfl rfl rfl (st_pure rfl rfl) rfl ?_
    refine SeqR.go rfl (by simp; omega) rfl (st_pure rfl rfl) rfl ?_
    refine SeqR.go rfl (by simp; omega) rfl (st_pure rfl rfl) rfl ?_
    refine SeqR.go rfl rfl rfl (st_pickF (by simp; omega)) rfl ?_
    refine SeqR.go rfl rfl rfl (st_pure rfl rfl) rfl ?_
    refine SeqR.go rfl (by simp; omega) rfl (st_pure rfl rfl) rfl ?_
    refine SeqR.go rfl (by simp; omega) rfl (st_pure rfl rfl) rfl ?_
    refine SeqR.go rfl rfl rfl (st_pickF (by simp; omega)) rfl ?_
    refine SeqR.nil ?_
    refine Ek.condT rfl (by simp; omega) ?_
    refine Ek.seq ?_
    refine Ek.reg ?_
    refine SeqR.go rfl rfl rfl (st_pure rfl rfl) rfl ?_
    refine SeqR.go rfl rfl rfl (st_pure rfl rfl) rfl ?_
    refine SeqR.nil ?_
    exact Ek.ret ⟨Or.inr rfl, _, rfl, rfl⟩
  obtain ⟨N, rfl⟩ : ∃ N : Nat, n = (N : Int) := ⟨n.toNat, by omega⟩
  obtain ⟨A, rfl⟩ : ∃ A : Nat, a = (A : Int) := ⟨a.toNat, by omega⟩
  have hN1 : 1 ≤ N := by omega
  have hN40 : N ≤ 40 := by omega
  have hA120 : A ≤ 120 := by omega
  clear c1 c2 c3 c4
  have hnl : (Dk.new 200).now.length = 200 := List.length_replicate
  refine Ek.seq ?_
  refine Ek.reg ?_
  refine SeqR.go rfl rfl rfl (st_pure rfl rfl) rfl ?_
  refine SeqR.nil ?_
  refine Ek.seq ?_
  refine Ek.reg ?_
  refine SeqR.go rfl rfl rfl (st_call rfl rfl (topA_ext rfl)) rfl ?_
  refine SeqR.go rfl rfl rfl (st_pure rfl rfl) rfl ?_
  refine SeqR.nil ?_
  refine Ek.seq ?_
  refine Ek.seq ?_
  refine Ek.reg ?_
  refine SeqR.go rfl rfl rfl (st_pure rfl rfl) rfl ?_
  refine SeqR.go rfl rfl rfl (st_pure rfl rfl) rfl ?_
  refine SeqR.nil ?_
  refine Ek.condF rfl rfl ?_
  refine Ek.skip ?_
  refine Ek.seq ?_
  refine Ek.seq ?_
  refine Ek.reg ?_
  refine SeqR.go rfl rfl rfl (st_pure rfl rfl) rfl ?_
  refine SeqR.go rfl rfl rfl (st_pure rfl rfl) rfl ?_
  refine SeqR.go rfl rfl rfl (st_pure rfl rfl) rfl ?_
  refine SeqR.go rfl (by first | (simp; done) | (simp; omega)) rfl (st_pure rfl rfl) rfl ?_
  refine SeqR.go rfl (by first | (simp; done) | (simp; omega)) rfl (st_pure rfl rfl) rfl ?_
  refine SeqR.go rfl rfl rfl (st_pickF (by first | (simp; done) | (simp; omega))) rfl ?_
  refine SeqR.go rfl rfl rfl (st_pure rfl rfl) rfl ?_
  refine SeqR.go rfl (by first | (simp; done) | (simp; omega)) rfl (st_pure rfl rfl) rfl ?_
  refine SeqR.go rfl (by first | (simp; done) | (simp; omega)) rfl (st_pure rfl rfl) rfl ?_
  refine SeqR.go rfl rfl rfl (st_pickF (by first | (simp; done) | (simp; omega))) rfl ?_
  refine SeqR.go rfl rfl rfl (st_pure rfl rfl) rfl ?_
  refine SeqR.go rfl (by first | (simp; done) | (simp; omega)) rfl (st_pure rfl rfl) rfl ?_
  refine SeqR.go rfl (by first | (simp; done) | (simp; omega)) rfl (st_pure rfl rfl) rfl ?_
  refine SeqR.go rfl rfl rfl (st_pickF (by first | (simp; done) | (simp; omega))) rfl ?_
  refine SeqR.nil ?_
  refine Ek.condF rfl (by simp; omega) ?_
  refine Ek.skip ?_
  refine Ek.seq ?_
  refine Ek.reg ?_
  refine SeqR.cal rfl rfl rfl rfl rfl (w_new (n := 200) (B.mono (by omega)) (by decide) (by decide)) ?_
  rintro v1 h1 m1 ⟨d, od, rfl, Ad, Bd1, hm1, same1, hod⟩
  refine ⟨_, rfl, ?_⟩
  refine SeqR.go rfl rfl rfl (st_pure rfl rfl) rfl ?_
  refine SeqR.nil ?_
  refine Ek.seq ?_
  refine Ek.reg ?_
  refine SeqR.go rfl rfl rfl (st_pure rfl rfl) rfl ?_
  refine SeqR.cal rfl rfl rfl rfl rfl (w_open Ad (Bd1.mono (by omega)) rfl (by rw [hnl]; decide) (by show 0 < 80000; decide)) ?_
  rintro v2 h2 m2 ⟨l, ol, rfl, Al, B2, t2⟩
  refine ⟨_, rfl, ?_⟩
  refine SeqR.go rfl rfl rfl (st_pure rfl rfl) rfl ?_
  refine SeqR.go rfl rfl rfl (st_pure rfl rfl) rfl ?_
  refine SeqR.go rfl rfl rfl (st_pure rfl rfl) rfl ?_
  refine SeqR.go rfl rfl rfl (st_pure rfl rfl) rfl ?_
  refine SeqR.go rfl rfl rfl (st_pure rfl rfl) rfl ?_
  refine SeqR.nil ?_
  refine Ek.seq ?_
  refine Ek.seq ?_
  rw [open_new (by decide)] at Al
  have same2 : ∀ γ, γ < m → h2.get γ = h.get γ := fun γ hγ => (t2.same γ (by omega) (fun q => by have := hod γ q; omega)).trans (same1 γ (by omega))
  have t2u := t2.up
  have hol : ∀ γ, ol γ → m ≤ γ := fun γ q => (t2.sub γ q).elim (fun q => by have := hod γ q; omega) (fun q => by omega)
  refine Ek.reg ?_
  refine SeqR.go rfl rfl rfl (st_pure rfl rfl) rfl ?_
  refine SeqR.go rfl rfl rfl (neI0 tu29) rfl ?_
  refine SeqR.nil ?_
  refine Ek.condF rfl rfl ?_
  refine Ek.skip ?_
  refine Ek.seq ?_
  refine Ek.seq ?_
  refine Ek.reg ?_
  refine SeqR.go rfl rfl rfl (st_pure rfl rfl) rfl ?_
  refine SeqR.nil ?_
  refine Ek.block ?_
  refine Ek.loop_inv (fun e fr st => ∃ i hk mk ow, i + e = N ∧ Le (frW N A pv d l 11 i) fr ∧ st = ⟨hk, mk⟩ ∧ Log hk l d ⟨Dk.new 200, wts i (fullOf [1]), []⟩ ow ∧ Bd hk mk ∧ (∀ γ, γ < m → hk.get γ = h.get γ) ∧ (∀ γ, ow γ → m ≤ γ) ∧ m ≤ mk) ?_ (N) _ _ ⟨0, h2, _, ol, by omega, Le.put (Le.put (Le.put (Le.put (Le.put (Le.put (Le.put (Le.nil _) rfl) rfl) rfl) rfl) rfl) rfl) rfl, rfl, Al, B2.mono (by omega), same2, hol, by omega⟩
  rintro e fr st ⟨i, hk, mk, ow, hi, hle, rfl, Ak, Bk, samek, how, hmk⟩
  refine Ek.weaken hle ?_
  clear hle
  refine Ek.seq ?_
  refine Ek.seq ?_
  refine Ek.reg ?_
  refine SeqR.go rfl rfl rfl (st_pure rfl rfl) rfl ?_
  refine SeqR.go rfl rfl rfl (st_pure rfl rfl) rfl ?_
  refine SeqR.go rfl rfl rfl (st_pure rfl rfl) rfl ?_
  refine SeqR.nil ?_
  by_cases hkn : i < N
  · refine Ek.condT rfl (by simp; omega) ?_
    refine Ek.skip ?_
    refine Ek.seq ?_
    refine Ek.block ?_
    refine Ek.seq ?_
    refine Ek.reg ?_
    refine SeqR.go rfl rfl rfl (st_pure rfl rfl) rfl ?_
    refine SeqR.go rfl rfl rfl (st_pure rfl rfl) rfl ?_
    refine SeqR.go rfl rfl rfl (mulN (a := 3) (b := i) (by omega)) rfl ?_
    refine SeqR.go rfl rfl rfl (addK (a := 48) (b := 3 * i) (by omega)) rfl ?_
    refine SeqR.go rfl rfl rfl (bs1 te33 tz5 tzo5) rfl ?_
    refine SeqR.cal rfl rfl rfl rfl rfl (w_full (bs := [1]) (bv_one (b := 1)) (Bd.set Bk (by omega) (by omega)) (by simp)) ?_
    rintro vq1 hq1 mq1 ⟨Sq1, Bq1, hmq1, sameq1⟩
    refine ⟨_, rfl, ?_⟩
    refine SeqR.cal rfl rfl rfl rfl rfl (w_putL (Ak.keep Bk (fun γ hγ => (sameq1 γ (by omega)).trans (get_set_ne (by omega)))) (Bq1.mono (by omega)) Sq1 (by omega) (by show 48 + 3 * i < _; rw [hnl]; omega) (Or.inr (by show (wts i _).length < 40; rw [wts_len]; omega))) ?_
    rintro vp1 hp1 mp1 ⟨rfl, Ap1, Bp1, tp1⟩
    refine ⟨_, rfl, ?_⟩
    refine SeqR.go rfl rfl rfl (neI0 tu29) rfl ?_
    refine SeqR.nil ?_
    refine Ek.condF rfl rfl ?_
    refine Ek.skip ?_
    refine Ek.reg ?_
    refine SeqR.go rfl rfl rfl (st_pure rfl rfl) rfl ?_
    refine SeqR.go rfl rfl rfl add1 rfl ?_
    refine SeqR.go rfl rfl rfl (st_pure rfl rfl) rfl ?_
    refine SeqR.nil ?_
    have tpu := tp1.up
    refine ⟨e - 1, by omega, i + 1, hp1, _, ow, by omega, Le.put (Le.put (Le.put (Le.put (Le.put (Le.put (Le.put (Le.nil _) rfl) rfl) rfl) rfl) rfl) rfl) rfl, rfl, (by rw [← wts_put]; exact Ap1), Bp1.mono (by omega), fun γ hγ => ?_, how, by omega⟩
    exact (tp1.same γ (by omega) (fun q => by have := how γ q; omega)).trans ((sameq1 γ (by omega)).trans ((get_set_ne (by omega)).trans (samek γ hγ)))
  · refine Ek.condF rfl (by simp; omega) ?_
    refine Ek.exit ?_
    simp only [AEx.then, AEx.inBlock, if_true]
    refine Ek.seq ?_
    refine Ek.seq ?_
    obtain rfl : N = i := by omega
    refine Ek.reg ?_
    refine SeqR.go rfl rfl rfl (st_pure rfl rfl) rfl ?_
    refine SeqR.cal rfl rfl rfl rfl rfl (w_sync Ak (Bk.mono (by omega)) (fun p hp => by obtain ⟨h48, ⟨j, hj, ej⟩, _⟩ := wts_idx hp; show 48 ≤ p.1 ∧ p.1 < _; rw [hnl]; omega) (by show 128 ≤ _; rw [hnl]; decide) (by show (Dk.new 200).now.length ≤ 4096; rw [hnl]; decide) (by show 0 < 80000; decide)) ?_
    rintro v5 h5 m5 ⟨hv5, o5, A5, B5, t5⟩
    refine ⟨_, rfl, ?_⟩
    obtain ⟨F1, F2, F3, F4⟩ := first_sync (n := N) (S := fullOf [1]) hN1 hN40 (calm_new 200) hnl
    have hD1w := sync_wts (Dk.new 200) N (fullOf [1])
    have hD0w : (Dk.new 200).writes = 0 := rfl
    rw [hD0w] at hD1w
    dsimp only at hv5 A5
    generalize hD1 : syncD (Dk.new 200) (wts N (fullOf [1])) = D1 at hv5 A5 F1 F2 F3 F4 hD1w
    have hD1l : D1.now.length = 200 := F2
    obtain rfl : v5 = .nili := by
      rcases hv5 with ⟨_, q⟩ | ⟨q, _⟩
      · exact q
      · rw [F1.1.1] at q; cases q
    have same5 : ∀ γ, γ < m → h5.get γ = h.get γ := fun γ hγ => (t5.same γ (by omega) (fun q => by have := how γ q; omega)).trans (samek γ hγ)
    have ho5 : ∀ γ, o5 γ → m ≤ γ := fun γ q => (t5.sub γ q).elim (how γ) (fun q => by omega)
    have hm5 := t5.up
    refine SeqR.go rfl rfl rfl (neI0 tu29) rfl ?_
    refine SeqR.nil ?_
    refine Ek.condF rfl rfl ?_
    refine Ek.skip ?_
    refine Ek.seq ?_
    refine Ek.seq ?_
    refine Ek.reg ?_
    refine SeqR.go rfl rfl rfl (st_pure rfl rfl) rfl ?_
    refine SeqR.nil ?_
    refine Ek.block ?_
    refine Ek.loop_inv (fun e fr st => ∃ i hk mk ow, i + e = N ∧ Le (frW N A pv d l 12 i) fr ∧ st = ⟨hk, mk⟩ ∧ Log hk l d ⟨D1, wts i (fullOf [2]), []⟩ ow ∧ Bd hk mk ∧ (∀ γ, γ < m → hk.get γ = h.get γ) ∧ (∀ γ, ow γ → m ≤ γ) ∧ m ≤ mk) ?_ (N) _ _ ⟨0, h5, _, o5, by omega, Le.put (Le.put (Le.put (Le.put (Le.put (Le.put (Le.put (Le.nil _) rfl) rfl) rfl) rfl) rfl) rfl) rfl, rfl, A5, B5.mono (by omega), same5, ho5, by omega⟩
    rintro e fr st ⟨i, hk, mk, ow, hi, hle, rfl, Ak, Bk, samek, how, hmk⟩
    refine Ek.weaken hle ?_
    clear hle
    refine Ek.seq ?_
    refine Ek.seq ?_
    refine Ek.reg ?_
    refine SeqR.go rfl rfl rfl (st_pure rfl rfl) rfl ?_
    refine SeqR.go rfl rfl rfl (st_pure rfl rfl) rfl ?_
    refine SeqR.go rfl rfl rfl (st_pure rfl rfl) rfl ?_
    refine SeqR.nil ?_
    by_cases hkn : i < N
    · refine Ek.condT rfl (by simp; omega) ?_
      refine Ek.skip ?_
      refine Ek.seq ?_
      refine Ek.block ?_
      refine Ek.seq ?_
      refine Ek.reg ?_
      refine SeqR.go rfl rfl rfl (st_pure rfl rfl) rfl ?_
      refine SeqR.go rfl rfl rfl (st_pure rfl rfl) rfl ?_
      refine SeqR.go rfl rfl rfl (mulN (a := 3) (b := i) (by omega)) rfl ?_
      refine SeqR.go rfl rfl rfl (addK (a := 48) (b := 3 * i) (by omega)) rfl ?_
      refine SeqR.go rfl rfl rfl (bs1 te33 tz5 tzo5) rfl ?_
      refine SeqR.cal rfl rfl rfl rfl rfl (w_full (bs := [2]) (bv_one (b := 2)) (Bd.set Bk (by omega) (by omega)) (by simp)) ?_
      rintro vq2 hq2 mq2 ⟨Sq2, Bq2, hmq2, sameq2⟩
      refine ⟨_, rfl, ?_⟩
      refine SeqR.cal rfl rfl rfl rfl rfl (w_putL (Ak.keep Bk (fun γ hγ => (sameq2 γ (by omega)).trans (get_set_ne (by omega)))) (Bq2.mono (by omega)) Sq2 (by omega) (by show 48 + 3 * i < _; rw [hD1l]; omega) (Or.inr (by show (wts i _).length < 40; rw [wts_len]; omega))) ?_
      rintro vp2 hp2 mp2 ⟨rfl, Ap2, Bp2, tp2⟩
      refine ⟨_, rfl, ?_⟩
      refine SeqR.go rfl rfl rfl (neI0 tu29) rfl ?_
      refine SeqR.nil ?_
      refine Ek.condF rfl rfl ?_
      refine Ek.skip ?_
      refine Ek.reg ?_
      refine SeqR.go rfl rfl rfl (st_pure rfl rfl) rfl ?_
      refine SeqR.go rfl rfl rfl add1 rfl ?_
      refine SeqR.go rfl rfl rfl (st_pure rfl rfl) rfl ?_
      refine SeqR.nil ?_
      have tpu := tp2.up
      refine ⟨e - 1, by omega, i + 1, hp2, _, ow, by omega, Le.put (Le.put (Le.put (Le.put (Le.put (Le.put (Le.put (Le.nil _) rfl) rfl) rfl) rfl) rfl) rfl) rfl, rfl, (by rw [← wts_put]; exact Ap2), Bp2.mono (by omega), fun γ hγ => ?_, how, by omega⟩
      exact (tp2.same γ (by omega) (fun q => by have := how γ q; omega)).trans ((sameq2 γ (by omega)).trans ((get_set_ne (by omega)).trans (samek γ hγ)))
    · refine Ek.condF rfl (by simp; omega) ?_
      refine Ek.exit ?_
      simp only [AEx.then, AEx.inBlock, if_true]
      refine Ek.seq ?_
      obtain rfl : N = i := by omega
      have hlim := lim_of F1.1 A
      refine Ek.reg ?_
      refine SeqR.go rfl rfl rfl (st_pure rfl rfl) rfl ?_
      refine SeqR.go rfl rfl rfl (st_pure rfl rfl) rfl ?_
      refine SeqR.cal rfl rfl rfl rfl rfl (w_limitL Ak (Bk.mono (by omega)) (n := (A : Int)) (by omega)) ?_
      rintro v7 h7 m7 ⟨rfl, o7, A7, B7, t7⟩
      refine ⟨_, rfl, ?_⟩
      refine SeqR.nil ?_
      refine Ek.seq ?_
      refine Ek.reg ?_
      refine SeqR.go rfl rfl rfl (st_pure rfl rfl) rfl ?_
      refine SeqR.cal rfl rfl rfl rfl rfl (w_sync A7 (B7.mono (by omega)) (fun p hp => by obtain ⟨h48, ⟨j, hj, ej⟩, _⟩ := wts_idx hp; show 48 ≤ p.1 ∧ p.1 < _; rw [hlim.1, hD1l]; omega) (by show 128 ≤ (D1.lim (A : Int)).now.length; rw [hlim.1, hD1l]; decide) (by show (D1.lim (A : Int)).now.length ≤ 4096; rw [hlim.1, hD1l]; decide) (by show (D1.lim (A : Int)).writes < 80000; rw [hlim.2]; omega)) ?_
      rintro v8 h8 m8 ⟨hv8, o8, A8, B8, t8⟩
      refine ⟨_, rfl, ?_⟩
      refine SeqR.go rfl rfl rfl (st_pure rfl rfl) rfl ?_
      refine SeqR.nil ?_
      refine Ek.seq ?_
      have same8 : ∀ γ, γ < m → h8.get γ = h.get γ := fun γ hγ => (t8.same γ (by have := t7.up; omega) (fun q => (t7.sub γ q).elim (fun q => by have := how γ q; omega) (fun q => by omega))).trans ((t7.same γ (by omega) (fun q => by have := how γ q; omega)).trans (samek γ hγ))
      obtain ⟨od8, Ad8, _⟩ := A8.disk'
      have t7u := t7.up
      have t8u := t8.up
      refine Ek.reg ?_
      refine SeqR.go rfl rfl rfl (st_pure rfl rfl) rfl ?_
      refine SeqR.cal rfl rfl rfl rfl rfl (w_dead Ad8) ?_
      rintro vd _ m9 ⟨hvd, rfl, hm9⟩
      refine ⟨_, rfl, ?_⟩
      refine SeqR.go rfl rfl rfl (st_pure rfl rfl) rfl ?_
      refine SeqR.nil ?_
      refine Ek.seq ?_
      refine Ek.reg ?_
      refine SeqR.go rfl rfl rfl (st_pure rfl rfl) rfl ?_
      refine SeqR.go rfl rfl rfl (st_pure rfl rfl) rfl ?_
      refine SeqR.cal rfl rfl rfl rfl rfl (w_crash Ad8 (B8.mono (by omega)) (V.of_eq B same8) (by show (syncD (D1.lim (A : Int)) (wts N (fullOf [2]))).writes < 100000; have := sync_wts (D1.lim (A : Int)) N (fullOf [2]); rw [hlim.2] at this; omega)) ?_
      rintro v10 h10 m10 ⟨c, o10, rfl, A10, B10, hm10, same10, ho10⟩
      refine ⟨_, rfl, ?_⟩
      refine SeqR.cal rfl rfl rfl rfl rfl (w_open A10 (B10.mono (by omega)) rfl (by rw [crash_len, Ad8.eqlen, sync_len, hlim.1, hD1l]; decide) (by show 0 < 80000; decide)) ?_
      rintro v11 h11 m11 ⟨l2, o11, rfl, A11, B11, t11⟩
      refine ⟨_, rfl, ?_⟩
      refine SeqR.go rfl rfl rfl (st_pure rfl rfl) rfl ?_
      refine SeqR.go rfl rfl rfl (st_pure rfl rfl) rfl ?_
      refine SeqR.go rfl rfl rfl (st_pure rfl rfl) rfl ?_
      refine SeqR.go rfl rfl rfl (st_pure rfl rfl) rfl ?_
      refine SeqR.go rfl rfl rfl (st_pure rfl rfl) rfl ?_
      refine SeqR.nil ?_
      refine Ek.seq ?_
      refine Ek.seq ?_
      refine Ek.reg ?_
      refine SeqR.go rfl rfl rfl (st_pure rfl rfl) rfl ?_
      refine SeqR.go rfl rfl rfl (neI0 tu29) rfl ?_
      refine SeqR.nil ?_
      refine Ek.condF rfl rfl ?_
      refine Ek.skip ?_
      refine Ek.seq ?_
      have WL := whole_law (a := A) (ps := ps) (T := fullOf [2]) hN1 hN40 F1.1 F2 F1.2.1 F1.2.2 F3 F4
      dsimp only at hv8 A11 hvd
      generalize hdd : (syncD (D1.lim (A : Int)) (wts N (fullOf [2]))).dead = dd at WL hv8 hvd
      subst hvd
      generalize hX : openD ((syncD (D1.lim (A : Int)) (wts N (fullOf [2]))).crash ps) = X at WL A11
      obtain ⟨hXl, WL⟩ := WL
      obtain ⟨two, hall, hfin⟩ : ∃ two : Bool, (∀ i, i < N → X.now[48 + 3 * i]? = some (if two then fullOf [2] else fullOf [1])) ∧ (two = false → dd = true) := by
        rcases WL with ⟨q1, q2⟩ | q1
        · exact ⟨false, q1, fun _ => q2⟩
        · exact ⟨true, q1, fun q => by cases q⟩
      clear WL
      refine Ek.reg ?_
      refine SeqR.go rfl rfl rfl (st_pure rfl rfl) rfl ?_
      refine SeqR.go rfl rfl rfl (st_pure rfl rfl) rfl ?_
      refine SeqR.nil ?_
      refine Ek.seq ?_
      refine Ek.seq ?_
      refine Ek.reg ?_
      refine SeqR.go rfl rfl rfl (st_pure rfl rfl) rfl ?_
      refine SeqR.nil ?_
      refine Ek.block ?_
      refine Ek.loop_inv (fun e fr st => ∃ k o t hk mk, k + e = N ∧ Le (frV N v8 dd l2 o t k) fr ∧ st = ⟨hk, mk⟩ ∧ Log hk l2 c ⟨X, [], []⟩ o11 ∧ Bd hk mk ∧ (if two then 0 else k) = o ∧ (if two then k else 0) = t) ?_ (N) _ _ ⟨0, 0, 0, h11, _, by omega, Le.put (Le.put (Le.put (Le.put (Le.put (Le.put (Le.put (Le.put (Le.nil _) rfl) rfl) rfl) rfl) rfl) rfl) rfl) rfl, rfl, A11, B11.mono (by omega), by split <;> rfl, by split <;> rfl⟩
      rintro e fr st ⟨k, o, t, hk, mk, hi, hle, rfl, Ak, Bk, ho, ht⟩
      refine Ek.weaken hle ?_
      clear hle
      have cs : (k < N ∧ two = false) ∨ (k < N ∧ two = true) ∨ (k = N ∧ two = false ∧ dd = true) ∨ (k = N ∧ two = true ∧ dd = true) ∨ (k = N ∧ two = true ∧ dd = false) := by
        by_cases q : k < N
        · cases two <;> simp [q]
        · have : k = N := by omega
          cases two
          · exact Or.inr (Or.inr (Or.inl ⟨this, rfl, hfin rfl⟩))
          · cases dd <;> simp [this]
      rcases cs with ⟨hkN, rfl⟩ | ⟨hkN, rfl⟩ | ⟨hkN, rfl, rfl⟩ | ⟨hkN, rfl, rfl⟩ | ⟨hkN, rfl, rfl⟩ <;> simp only [if_true, if_false, Bool.false_eq_true] at ho ht <;> subst ho ht
      · skip
        refine Ek.seq ?_
        refine Ek.seq ?_
        refine Ek.reg ?_
        refine SeqR.go rfl rfl rfl (st_pure rfl rfl) rfl ?_
        refine SeqR.go rfl rfl rfl (st_pure rfl rfl) rfl ?_
        refine SeqR.go rfl rfl rfl (st_pure rfl rfl) rfl ?_
        refine SeqR.nil ?_
        refine Ek.condT rfl (by simp; omega) ?_
        refine Ek.skip ?_
        refine Ek.seq ?_
        refine Ek.block ?_
        refine Ek.seq ?_
        refine Ek.reg ?_
        refine SeqR.go rfl rfl rfl (st_pure rfl rfl) rfl ?_
        refine SeqR.go rfl rfl rfl (st_pure rfl rfl) rfl ?_
        refine SeqR.go rfl rfl rfl (mulN (a := 3) (b := k) (by omega)) rfl ?_
        refine SeqR.go rfl rfl rfl (addK (a := 48) (b := 3 * k) (by omega)) rfl ?_
        refine SeqR.cal rfl rfl rfl rfl rfl (w_readL Ak (Bk.mono (by omega)) (i := 48 + 3 * k) (by omega) (by show 48 + 3 * k < X.now.length; rw [hXl]; omega)) ?_
        rintro v12 h12 m12 ⟨_, rfl, ⟨β3, c3, rfl, S12⟩, B12, hm12, same12⟩
        refine ⟨_, rfl, ?_⟩
        refine SeqR.go rfl rfl rfl (st_pure rfl rfl) rfl ?_
        have e12 : (getW (48 + 3 * k) []).getD (X.now.getD (48 + 3 * k) []) = fullOf [1] := by rw [getW_nil, Option.getD_none]; exact getD_of ((hall k (by omega)).trans (congrArg some (if_neg (by decide))))
        rw [e12] at S12
        obtain ⟨r3, R3, e3⟩ := S12.is1 full1
        refine SeqR.go rfl rfl rfl (st_pure rfl rfl) rfl ?_
        refine SeqR.go rfl rfl rfl (st_pure rfl rfl) rfl ?_
        refine SeqR.go rfl rfl rfl (st_pure rfl rfl) rfl ?_
        refine SeqR.go rfl rfl rfl (st_pure rfl rfl) rfl ?_
        refine SeqR.nil ?_
        refine Ek.seq ?_
        refine Ek.seq ?_
        refine Ek.reg ?_
        refine SeqR.go rfl rfl rfl (st_pure rfl rfl) rfl ?_
        refine SeqR.go rfl rfl rfl (neI0 tu29) rfl ?_
        refine SeqR.nil ?_
        refine Ek.condF rfl rfl ?_
        refine Ek.skip ?_
        refine Ek.seq ?_
        refine Ek.reg ?_
        refine SeqR.go rfl rfl rfl (st_pure rfl rfl) rfl ?_
        refine SeqR.go rfl rfl rfl (idx te33 tz5) rfl ?_
        refine SeqR.go rfl rfl rfl (st_ld ta5 R3 e3) rfl ?_
        refine SeqR.nil ?_
        refine Ek.block ?_
        refine Ek.seq ?_
        refine Ek.reg ?_
        refine SeqR.go rfl rfl rfl (st_pure rfl rfl) rfl ?_
        refine SeqR.go rfl rfl rfl (st_pure rfl rfl) rfl ?_
        refine SeqR.nil ?_
        refine Ek.condT rfl rfl ?_
        refine Ek.reg ?_
        refine SeqR.go rfl rfl rfl (st_pure rfl rfl) rfl ?_
        refine SeqR.go rfl rfl rfl add1 rfl ?_
        refine SeqR.go rfl rfl rfl (st_pure rfl rfl) rfl ?_
        refine SeqR.nil ?_
        refine Ek.reg ?_
        refine SeqR.go rfl rfl rfl (st_pure rfl rfl) rfl ?_
        refine SeqR.go rfl rfl rfl add1 rfl ?_
        refine SeqR.go rfl rfl rfl (st_pure rfl rfl) rfl ?_
        refine SeqR.nil ?_
        exact ⟨e - 1, by omega, k + 1, k + 1, 0, h12, _, by omega, Le.put (Le.put (Le.put (Le.put (Le.put (Le.put (Le.put (Le.put (Le.nil _) rfl) rfl) rfl) rfl) rfl) rfl) rfl) rfl, rfl, Ak.keep Bk (fun γ hγ => same12 γ (by omega)), B12.mono (by omega), rfl, rfl⟩
      · skip
        refine Ek.seq ?_
        refine Ek.seq ?_
        refine Ek.reg ?_
        refine SeqR.go rfl rfl rfl (st_pure rfl rfl) rfl ?_
        refine SeqR.go rfl rfl rfl (st_pure rfl rfl) rfl ?_
        refine SeqR.go rfl rfl rfl (st_pure rfl rfl) rfl ?_
        refine SeqR.nil ?_
        refine Ek.condT rfl (by simp; omega) ?_
        refine Ek.skip ?_
        refine Ek.seq ?_
        refine Ek.block ?_
        refine Ek.seq ?_
        refine Ek.reg ?_
        refine SeqR.go rfl rfl rfl (st_pure rfl rfl) rfl ?_
        refine SeqR.go rfl rfl rfl (st_pure rfl rfl) rfl ?_
        refine SeqR.go rfl rfl rfl (mulN (a := 3) (b := k) (by omega)) rfl ?_
        refine SeqR.go rfl rfl rfl (addK (a := 48) (b := 3 * k) (by omega)) rfl ?_
        refine SeqR.cal rfl rfl rfl rfl rfl (w_readL Ak (Bk.mono (by omega)) (i := 48 + 3 * k) (by omega) (by show 48 + 3 * k < X.now.length; rw [hXl]; omega)) ?_
        rintro v12 h12 m12 ⟨_, rfl, ⟨β3, c3, rfl, S12⟩, B12, hm12, same12⟩
        refine ⟨_, rfl, ?_⟩
        refine SeqR.go rfl rfl rfl (st_pure rfl rfl) rfl ?_
        have e12 : (getW (48 + 3 * k) []).getD (X.now.getD (48 + 3 * k) []) = fullOf [2] := by rw [getW_nil, Option.getD_none]; exact getD_of ((hall k (by omega)).trans (congrArg some (if_pos rfl)))
        rw [e12] at S12
        obtain ⟨r3, R3, e3⟩ := S12.is2 full2
        refine SeqR.go rfl rfl rfl (st_pure rfl rfl) rfl ?_
        refine SeqR.go rfl rfl rfl (st_pure rfl rfl) rfl ?_
        refine SeqR.go rfl rfl rfl (st_pure rfl rfl) rfl ?_
        refine SeqR.go rfl rfl rfl (st_pure rfl rfl) rfl ?_
        refine SeqR.nil ?_
        refine Ek.seq ?_
        refine Ek.seq ?_
        refine Ek.reg ?_
        refine SeqR.go rfl rfl rfl (st_pure rfl rfl) rfl ?_
        refine SeqR.go rfl rfl rfl (neI0 tu29) rfl ?_
        refine SeqR.nil ?_
        refine Ek.condF rfl rfl ?_
        refine Ek.skip ?_
        refine Ek.seq ?_
        refine Ek.reg ?_
        refine SeqR.go rfl rfl rfl (st_pure rfl rfl) rfl ?_
        refine SeqR.go rfl rfl rfl (idx te33 tz5) rfl ?_
        refine SeqR.go rfl rfl rfl (st_ld ta5 R3 e3) rfl ?_
        refine SeqR.nil ?_
        refine Ek.block ?_
        refine Ek.seq ?_
        refine Ek.reg ?_
        refine SeqR.go rfl rfl rfl (st_pure rfl rfl) rfl ?_
        refine SeqR.go rfl rfl rfl (st_pure rfl rfl) rfl ?_
        refine SeqR.nil ?_
        refine Ek.condF rfl rfl ?_
        refine Ek.seq ?_
        refine Ek.reg ?_
        refine SeqR.go rfl rfl rfl (st_pure rfl rfl) rfl ?_
        refine SeqR.go rfl rfl rfl (st_pure rfl rfl) rfl ?_
        refine SeqR.nil ?_
        refine Ek.condT rfl rfl ?_
        refine Ek.reg ?_
        refine SeqR.go rfl rfl rfl (st_pure rfl rfl) rfl ?_
        refine SeqR.go rfl rfl rfl add1 rfl ?_
        refine SeqR.go rfl rfl rfl (st_pure rfl rfl) rfl ?_
        refine SeqR.nil ?_
        refine Ek.reg ?_
        refine SeqR.go rfl rfl rfl (st_pure rfl rfl) rfl ?_
        refine SeqR.go rfl rfl rfl add1 rfl ?_
        refine SeqR.go rfl rfl rfl (st_pure rfl rfl) rfl ?_
        refine SeqR.nil ?_
        exact ⟨e - 1, by omega, k + 1, 0, k + 1, h12, _, by omega, Le.put (Le.put (Le.put (Le.put (Le.put (Le.put (Le.put (Le.put (Le.nil _) rfl) rfl) rfl) rfl) rfl) rfl) rfl) rfl, rfl, Ak.keep Bk (fun γ hγ => same12 γ (by omega)), B12.mono (by omega), rfl, rfl⟩
      · obtain ⟨a8, rfl⟩ : ∃ a, v8 = .ifc 86 a := by rcases hv8 with ⟨q, _⟩ | ⟨_, q⟩; cases q; exact q
        refine Ek.seq ?_
        refine Ek.seq ?_
        refine Ek.reg ?_
        refine SeqR.go rfl rfl rfl (st_pure rfl rfl) rfl ?_
        refine SeqR.go rfl rfl rfl (st_pure rfl rfl) rfl ?_
        refine SeqR.go rfl rfl rfl (st_pure rfl rfl) rfl ?_
        refine SeqR.nil ?_
        refine Ek.condF rfl (by simp; omega) ?_
        refine Ek.exit ?_
        simp only [AEx.then, AEx.inBlock, if_true]
        refine Ek.seq ?_
        obtain rfl : N = k := by omega
        have hE1 : ((N : Int) == (N : Int)) = true := by rw [beq_iff_eq]
        refine Ek.reg ?_
        refine SeqR.go rfl rfl rfl (st_pure rfl rfl) rfl ?_
        refine SeqR.go rfl rfl rfl (st_pure rfl rfl) rfl ?_
        refine SeqR.go rfl rfl rfl (st_pure rfl rfl) rfl ?_
        refine SeqR.go rfl rfl rfl (st_pure rfl rfl) rfl ?_
        refine SeqR.go rfl rfl rfl (st_pure rfl rfl) rfl ?_
        refine SeqR.go rfl rfl rfl (st_pure rfl rfl) rfl ?_
        refine SeqR.hop rfl (by rw [hE1]; rfl) rfl ?_
        refine SeqR.hop rfl (by rw [hE1]; rfl) rfl ?_
        refine SeqR.hop rfl (by rw [hE1]; rfl) rfl ?_
        refine SeqR.go rfl rfl rfl (st_pickT hE1) rfl ?_
        refine SeqR.go rfl rfl rfl (st_pickT rfl) rfl ?_
        refine SeqR.go rfl rfl rfl (st_pure rfl rfl) rfl ?_
        refine SeqR.go rfl rfl rfl (st_pure rfl rfl) rfl ?_
        refine SeqR.go rfl rfl rfl (eqI1 tu29) rfl ?_
        refine SeqR.go rfl rfl rfl (st_pure rfl rfl) rfl ?_
        refine SeqR.go rfl rfl rfl (st_pure rfl rfl) rfl ?_
        refine SeqR.go rfl rfl rfl (st_eqbool tu4) rfl ?_
        refine SeqR.go rfl rfl rfl (st_pickT rfl) rfl ?_
        refine SeqR.go rfl rfl rfl (st_pure rfl rfl) rfl ?_
        refine SeqR.go rfl rfl rfl (st_pure rfl rfl) rfl ?_
        refine SeqR.go rfl rfl rfl (st_pure rfl rfl) rfl ?_
        refine SeqR.hop rfl rfl rfl ?_
        refine SeqR.hop rfl rfl rfl ?_
        refine SeqR.hop rfl rfl rfl ?_
        refine SeqR.go rfl rfl rfl (st_pickT rfl) rfl ?_
        refine SeqR.go rfl rfl rfl (st_pickT rfl) rfl ?_
        refine SeqR.go rfl rfl rfl (st_pure rfl rfl) rfl ?_
        refine SeqR.nil ?_
        exact Ek.ret ⟨Or.inr rfl, _, rfl, rfl⟩
      · obtain ⟨a8, rfl⟩ : ∃ a, v8 = .ifc 86 a := by rcases hv8 with ⟨q, _⟩ | ⟨_, q⟩; cases q; exact q
        refine Ek.seq ?_
        refine Ek.seq ?_
        refine Ek.reg ?_
        refine SeqR.go rfl rfl rfl (st_pure rfl rfl) rfl ?_
        refine SeqR.go rfl rfl rfl (st_pure rfl rfl) rfl ?_
        refine SeqR.go rfl rfl rfl (st_pure rfl rfl) rfl ?_
        refine SeqR.nil ?_
        refine Ek.condF rfl (by simp; omega) ?_
        refine Ek.exit ?_
        simp only [AEx.then, AEx.inBlock, if_true]
        refine Ek.seq ?_
        obtain rfl : N = k := by omega
        have hE1 : (((0 : Nat) : Int) == (N : Int)) = false := by rw [beq_eq_false_iff_ne]; omega
        have hE2 : ((N : Int) == (N : Int)) = true := by rw [beq_iff_eq]
        refine Ek.reg ?_
        refine SeqR.go rfl rfl rfl (st_pure rfl rfl) rfl ?_
        refine SeqR.go rfl rfl rfl (st_pure rfl rfl) rfl ?_
        refine SeqR.go rfl rfl rfl (st_pure rfl rfl) rfl ?_
        refine SeqR.go rfl rfl rfl (st_pure rfl rfl) rfl ?_
        refine SeqR.go rfl rfl rfl (st_pure rfl rfl) rfl ?_
        refine SeqR.go rfl rfl rfl (st_pure rfl rfl) rfl ?_
        refine SeqR.go rfl (by rw [hE1]; rfl) rfl (st_pure rfl rfl) rfl ?_
        refine SeqR.go rfl (by rw [hE1]; rfl) rfl (st_pure rfl rfl) rfl ?_
        refine SeqR.go rfl (by rw [hE1]; rfl) rfl (st_pure rfl rfl) rfl ?_
        refine SeqR.go rfl rfl rfl (st_pickF hE1) rfl ?_
        refine SeqR.go rfl rfl rfl (st_pickT rfl) rfl ?_
        refine SeqR.go rfl rfl rfl (st_pure rfl rfl) rfl ?_
        refine SeqR.go rfl (by rw [hE2]; rfl) rfl (st_pure rfl rfl) rfl ?_
        refine SeqR.go rfl (by rw [hE2]; rfl) rfl (eqI1 tu29) rfl ?_
        refine SeqR.go rfl (by rw [hE2]; rfl) rfl (st_pure rfl rfl) rfl ?_
        refine SeqR.go rfl (by rw [hE2]; rfl) rfl (st_pure rfl rfl) rfl ?_
        refine SeqR.go rfl (by rw [hE2]; rfl) rfl (st_eqbool tu4) rfl ?_
        refine SeqR.go rfl rfl rfl (st_pickT hE2) rfl ?_
        refine SeqR.go rfl rfl rfl (st_pure rfl rfl) rfl ?_
        refine SeqR.go rfl rfl rfl (st_pure rfl rfl) rfl ?_
        refine SeqR.go rfl rfl rfl (st_pure rfl rfl) rfl ?_
        refine SeqR.hop rfl rfl rfl ?_
        refine SeqR.hop rfl rfl rfl ?_
        refine SeqR.hop rfl rfl rfl ?_
        refine SeqR.go rfl rfl rfl (st_pickT rfl) rfl ?_
        refine SeqR.go rfl rfl rfl (st_pickT rfl) rfl ?_
        refine SeqR.go rfl rfl rfl (st_pure rfl rfl) rfl ?_
        refine SeqR.nil ?_
        exact Ek.ret ⟨Or.inr rfl, _, rfl, rfl⟩
      · obtain rfl : v8 = .nili := by rcases hv8 with ⟨_, q⟩ | ⟨q, _⟩; exact q; cases q
        refine Ek.seq ?_
        refine Ek.seq ?_
        refine Ek.reg ?_
        refine SeqR.go rfl rfl rfl (st_pure rfl rfl) rfl ?_
        refine SeqR.go rfl rfl rfl (st_pure rfl rfl) rfl ?_
        refine SeqR.go rfl rfl rfl (st_pure rfl rfl) rfl ?_
        refine SeqR.nil ?_
        refine Ek.condF rfl (by simp; omega) ?_
        refine Ek.exit ?_
        simp only [AEx.then, AEx.inBlock, if_true]
        refine Ek.seq ?_
        obtain rfl : N = k := by omega
        have hE1 : (((0 : Nat) : Int) == (N : Int)) = false := by rw [beq_eq_false_iff_ne]; omega
        have hE2 : ((N : Int) == (N : Int)) = true := by rw [beq_iff_eq]
        refine Ek.reg ?_
        refine SeqR.go rfl rfl rfl (st_pure rfl rfl) rfl ?_
        refine SeqR.go rfl rfl rfl (st_pure rfl rfl) rfl ?_
        refine SeqR.go rfl rfl rfl (st_pure rfl rfl) rfl ?_
        refine SeqR.go rfl rfl rfl (st_pure rfl rfl) rfl ?_
        refine SeqR.go rfl rfl rfl (st_pure rfl rfl) rfl ?_
        refine SeqR.go rfl rfl rfl (st_pure rfl rfl) rfl ?_
        refine SeqR.go rfl (by rw [hE1]; rfl) rfl (st_pure rfl rfl) rfl ?_
        refine SeqR.go rfl (by rw [hE1]; rfl) rfl (st_pure rfl rfl) rfl ?_
        refine SeqR.go rfl (by rw [hE1]; rfl) rfl (st_pure rfl rfl) rfl ?_
        refine SeqR.go rfl rfl rfl (st_pickF hE1) rfl ?_
        refine SeqR.go rfl rfl rfl (st_pickT rfl) rfl ?_
        refine SeqR.go rfl rfl rfl (st_pure rfl rfl) rfl ?_
        refine SeqR.go rfl (by rw [hE2]; rfl) rfl (st_pure rfl rfl) rfl ?_
        refine SeqR.go rfl (by rw [hE2]; rfl) rfl (eqI0 tu29) rfl ?_
        refine SeqR.go rfl (by rw [hE2]; rfl) rfl (st_pure rfl rfl) rfl ?_
        refine SeqR.go rfl (by rw [hE2]; rfl) rfl (st_pure rfl rfl) rfl ?_
        refine SeqR.go rfl (by rw [hE2]; rfl) rfl (st_eqbool tu4) rfl ?_
        refine SeqR.go rfl rfl rfl (st_pickT hE2) rfl ?_
        refine SeqR.go rfl rfl rfl (st_pure rfl rfl) rfl ?_
        refine SeqR.go rfl rfl rfl (st_pure rfl rfl) rfl ?_
        refine SeqR.go rfl rfl rfl (st_pure rfl rfl) rfl ?_
        refine SeqR.go rfl rfl rfl (st_pure rfl rfl) rfl ?_
        refine SeqR.go rfl rfl rfl (st_pure rfl rfl) rfl ?_
        refine SeqR.go rfl rfl rfl (st_pure rfl rfl) rfl ?_
        refine SeqR.go rfl rfl rfl (st_pickF rfl) rfl ?_
        refine SeqR.go rfl rfl rfl (st_pickT rfl) rfl ?_
        refine SeqR.go rfl rfl rfl (st_pure rfl rfl) rfl ?_
        refine SeqR.nil ?_
        exact Ek.ret ⟨Or.inr rfl, _, rfl, congrArg AV.bool hE2⟩
end
end Go.Xec
