/- WalGroups: the walk through the law's own code. -/
import Derived.Test.YtkmabheddbbndaaDoorXWf8
namespace Go.Xec
open Go.Proofs
/-- A disk whose power never goes. -/
def Live (D : Dk) : Prop := D.dead = false ∧ D.limit = -1
theorem Live.write {D : Dk} (L : Live D) (i : Nat) (b : By) : Live (D.write i b) := by
  unfold Dk.write
  rw [L.1]
  refine ⟨?_, ?_⟩
  · simp only; rw [L.2]; rfl
  · simp only; rw [L.2]; rfl
theorem Live.flush {D : Dk} (L : Live D) : Live D.flush := by
  unfold Dk.flush
  rw [L.1]
  exact ⟨rfl, L.2⟩
theorem Live.wrL : ∀ (r : List By) {D : Dk} (k : Nat), Live D → Live (wrL D k r)
  | [], _, _, L => L
  | b :: r, D, k, L => Live.wrL r (k + 1) (L.write k b)
theorem Live.instL : ∀ (r : List Nat) {D : Dk} (k : Nat), Live D → Live (instL D k r)
  | [], _, _, L => L
  | i :: r, D, k, L => Live.instL r (k + 1) (L.write i _)
theorem Live.inst {D : Dk} (L : Live D) (is : List Nat) : Live (inst D is) := ((Live.instL is 1 L).flush.write 0 zeroS).flush
theorem Live.sync {D : Dk} (L : Live D) (ws : List (Nat × By)) : Live (syncD D ws) := by
  unfold syncD
  split
  · exact L
  · exact (((Live.wrL _ 1 L).flush.write 0 _).flush).inst _
theorem Live.new (n : Nat) : Live (Dk.new n) := ⟨rfl, rfl⟩
theorem get4_zero : get4 zeroS = 0 := by kernel_rfl
theorem grp_zero {now : List By} (h : now.getD 0 [] = zeroS) : grp now = [] := grp_no (by rw [h, get4_zero]; intro q; omega)
theorem open_new {n : Nat} (hn : 1 ≤ n) : openD (Dk.new n) = Dk.new n := by
  unfold openD
  rw [if_pos (grp_zero ?_)]
  simp only [Dk.new, List.getD_eq_getElem?_getD, List.getElem?_replicate]
  rw [if_pos (by omega)]; rfl
theorem getW_none_of {k : Nat} : ∀ {ws : List (Nat × By)}, (∀ p ∈ ws, p.1 ≠ k) → getW k ws = none
  | [], _ => rfl
  | p :: l, h => by
    simp only [getW]
    rw [if_neg (h p (by simp))]
    exact getW_none_of (fun q hq => h q (by simp [hq]))
theorem putW_new {k : Nat} {b : By} {ws : List (Nat × By)} (h : getW k ws = none) : putW k b ws = ws ++ [(k, b)] := by
  induction ws with
  | nil => rfl
  | cons p l ih =>
    simp only [getW] at h
    split at h
    · cases h
    · rename_i hk
      simp only [putW, if_neg hk, ih h, List.cons_append]
theorem getW_put {k j : Nat} {b : By} : ∀ {ws : List (Nat × By)}, (getW j ws).isSome = true ∨ j = k → (getW j (putW k b ws)).isSome = true
  | [], h => by
    rcases h with h | rfl
    · cases h
    · simp [putW, getW]
  | p :: l, h => by
    simp only [putW]
    by_cases hk : p.1 = k
    · rw [if_pos hk]
      simp only [getW]
      by_cases hj : k = j
      · rw [if_pos hj]; rfl
      · rw [if_neg hj]
        rcases h with h | h
        · simp only [getW] at h
          rw [if_neg (by omega)] at h
          exact h
        · omega
    · rw [if_neg hk]
      simp only [getW]
      by_cases hj : p.1 = j
      · rw [if_pos hj]; rfl
      · rw [if_neg hj]
        refine getW_put ?_
        rcases h with h | h
        · simp only [getW] at h
          rw [if_neg hj] at h
          exact Or.inl h
        · exact Or.inr h
theorem putW_mem {k : Nat} {b : By} : ∀ {ws : List (Nat × By)} {p : Nat × By}, p ∈ putW k b ws → p.1 = k ∨ p ∈ ws
  | [], p, h => by simp [putW] at h; subst h; exact Or.inl rfl
  | q :: l, p, h => by
    simp only [putW] at h
    split at h
    · rcases List.mem_cons.1 h with rfl | h
      · exact Or.inl rfl
      · exact Or.inr (List.mem_cons_of_mem _ h)
    · rcases List.mem_cons.1 h with rfl | h
      · exact Or.inr (by simp)
      · rcases putW_mem h with h | h
        · exact Or.inl h
        · exact Or.inr (List.mem_cons_of_mem _ h)
theorem u8_wrap (i : Nat) : IntKind.u8.wrap (i : Int) = ((UInt8.ofNat i).toNat : Int) := by
  rw [IntKind.wrap_u8, UInt8.toNat_ofNat']; omega
theorem bv_one {h : T ABlk} {nm : Nat} {b : UInt8} : BV (h.set nm (blkOf (AV.int .u8 (b.toNat : Int)).cells)) (.sl nm 0 1 1 1) [b] := by
  refine Or.inr ⟨nm, 0, 1, 1, _, rfl, Row.new, rfl, fun j c hc => ?_⟩
  cases j with
  | zero => simp at hc; subst hc; rfl
  | succ j => simp at hc

noncomputable def frGr (n : Int) (l i : Nat) : Fr := (((T.nil.set 0 (.int .i64 n)).set 3 (.bool true)).set 4 (.ptr l 0)).set 6 (.int .i64 (i : Int))
theorem groups_body (n : Int) : ∃ loops v st', bodyA Tryd.prog TC loops Tryd.f4 [.int .i64 n] ⟨.nil, 0⟩ = some (v, st') ∧ v = .bool true := by
  refine bodyA_of_ek rfl rfl (by rfl) ?_
  by_cases hn0 : n < 0
  · skip
    refine Ek.seq ?_
    refine Ek.reg ?_
    refine SeqR.go rfl rfl rfl (st_pure rfl rfl) rfl ?_
    refine SeqR.nil ?_
    refine Ek.seq ?_
    refine Ek.reg ?_
    refine SeqR.go rfl rfl rfl (st_call rfl rfl (topA_ext rfl)) rfl ?_
    refine SeqR.go rfl rfl rfl (st_pure rfl rfl) rfl ?_
    refine SeqR.nil ?_
    refine Ek.seq ?_
    refine Ek.seq ?_
    refine Ek.reg ?_
    refine SeqR.go rfl rfl rfl (st_pure rfl rfl) rfl ?_
    refine SeqR.go rfl rfl rfl (st_pure rfl rfl) rfl ?_
    refine SeqR.nil ?_
    refine Ek.condF rfl rfl ?_
    refine Ek.skip ?_
    refine Ek.seq ?_
    refine Ek.seq ?_
    refine Ek.reg ?_
    refine SeqR.go rfl rfl rfl (st_pure rfl rfl) rfl ?_
    refine SeqR.go rfl rfl rfl (st_pure rfl rfl) rfl ?_
    refine SeqR.go rfl rfl rfl (st_pure rfl rfl) rfl ?_
    refine SeqR.hop rfl (by simp [hn0]) rfl ?_
    refine SeqR.hop rfl (by simp [hn0]) rfl ?_
    refine SeqR.go rfl rfl rfl (st_pickT (by simp [hn0])) rfl ?_
    refine SeqR.nil ?_
    refine Ek.condT rfl rfl ?_
    refine Ek.seq ?_
    refine Ek.reg ?_
    refine SeqR.go rfl rfl rfl (st_pure rfl rfl) rfl ?_
    refine SeqR.go rfl rfl rfl (st_pure rfl rfl) rfl ?_
    refine SeqR.nil ?_
    exact Ek.ret ⟨Or.inr rfl, _, rfl, rfl⟩
  by_cases hn60 : n > 60
  · skip
    refine Ek.seq ?_
    refine Ek.reg ?_
    refine SeqR.go rfl rfl rfl (st_pure rfl rfl) rfl ?_
    refine SeqR.nil ?_
    refine Ek.seq ?_
    refine Ek.reg ?_
    refine SeqR.go rfl rfl rfl (st_call rfl rfl (topA_ext rfl)) rfl ?_
    refine SeqR.go rfl rfl rfl (st_pure rfl rfl) rfl ?_
    refine SeqR.nil ?_
    refine Ek.seq ?_
    refine Ek.seq ?_
    refine Ek.reg ?_
    refine SeqR.go rfl rfl rfl (st_pure rfl rfl) rfl ?_
    refine SeqR.go rfl rfl rfl (st_pure rfl rfl) rfl ?_
    refine SeqR.nil ?_
    refine Ek.condF rfl rfl ?_
    refine Ek.skip ?_
    refine Ek.seq ?_
    refine Ek.seq ?_
    refine Ek.reg ?_
    refine SeqR.go rfl rfl rfl (st_pure rfl rfl) rfl ?_
    refine SeqR.go rfl rfl rfl (st_pure rfl rfl) rfl ?_
    refine SeqR.go rfl rfl rfl (st_pure rfl rfl) rfl ?_
    refine SeqR.go rfl (by simp [hn0]) rfl (st_pure rfl rfl) rfl ?_
    refine SeqR.go rfl (by simp [hn0]) rfl (st_pure rfl rfl) rfl ?_
    refine SeqR.go rfl rfl rfl (st_pickF (by simp [hn0])) rfl ?_
    refine SeqR.nil ?_
    refine Ek.condT rfl (by simp [hn60]) ?_
    refine Ek.seq ?_
    refine Ek.reg ?_
    refine SeqR.go rfl rfl rfl (st_pure rfl rfl) rfl ?_
    refine SeqR.go rfl rfl rfl (st_pure rfl rfl) rfl ?_
    refine SeqR.nil ?_
    exact Ek.ret ⟨Or.inr rfl, _, rfl, rfl⟩
  obtain ⟨N, rfl⟩ : ∃ N : Nat, n = (N : Int) := ⟨n.toNat, by omega⟩
  refine Ek.seq ?_
  refine Ek.reg ?_
  refine SeqR.go rfl rfl rfl (st_pure rfl rfl) rfl ?_
  refine SeqR.nil ?_
  refine Ek.seq ?_
  refine Ek.reg ?_
  refine SeqR.go rfl rfl rfl (st_call rfl rfl (topA_ext rfl)) rfl ?_
  refine SeqR.go rfl rfl rfl (st_pure rfl rfl) rfl ?_
  refine SeqR.nil ?_
  refine Ek.seq ?_
  refine Ek.seq ?_
  refine Ek.reg ?_
  refine SeqR.go rfl rfl rfl (st_pure rfl rfl) rfl ?_
  refine SeqR.go rfl rfl rfl (st_pure rfl rfl) rfl ?_
  refine SeqR.nil ?_
  refine Ek.condF rfl rfl ?_
  refine Ek.skip ?_
  refine Ek.seq ?_
  refine Ek.seq ?_
  refine Ek.reg ?_
  refine SeqR.go rfl rfl rfl (st_pure rfl rfl) rfl ?_
  refine SeqR.go rfl rfl rfl (st_pure rfl rfl) rfl ?_
  refine SeqR.go rfl rfl rfl (st_pure rfl rfl) rfl ?_
  refine SeqR.go rfl (by simp [hn0]) rfl (st_pure rfl rfl) rfl ?_
  refine SeqR.go rfl (by simp [hn0]) rfl (st_pure rfl rfl) rfl ?_
  refine SeqR.go rfl rfl rfl (st_pickF (by simp [hn0])) rfl ?_
  refine SeqR.nil ?_
  refine Ek.condF rfl (by simp [hn60]) ?_
  refine Ek.skip ?_
  refine Ek.seq ?_
  refine Ek.reg ?_
  refine SeqR.cal rfl rfl rfl rfl rfl (w_new (n := 200) (fun _ _ => rfl) (by decide) (by decide)) ?_
  rintro v1 h1 m1 ⟨d, od, rfl, Ad, Bd1, hm1, same1, hod⟩
  refine ⟨_, rfl, ?_⟩
  refine SeqR.cal rfl rfl rfl rfl rfl (w_open Ad (Bd1.mono (by omega)) rfl (by rw [show (Dk.new 200).now.length = 200 from List.length_replicate]; decide) (by show 0 < 80000; decide)) ?_
  rintro v2 h2 m2 ⟨l, ol, rfl, Al, B2, t2⟩
  refine ⟨_, rfl, ?_⟩
  refine SeqR.go rfl rfl rfl (st_pure rfl rfl) rfl ?_
  refine SeqR.go rfl rfl rfl (st_pure rfl rfl) rfl ?_
  refine SeqR.go rfl rfl rfl (st_pure rfl rfl) rfl ?_
  refine SeqR.go rfl rfl rfl (st_pure rfl rfl) rfl ?_
  refine SeqR.go rfl rfl rfl (st_pure rfl rfl) rfl ?_
  refine SeqR.nil ?_
  refine Ek.seq ?_
  refine Ek.seq ?_
  refine Ek.reg ?_
  refine SeqR.go rfl rfl rfl (st_pure rfl rfl) rfl ?_
  refine SeqR.go rfl rfl rfl (neI0 tu29) rfl ?_
  refine SeqR.nil ?_
  refine Ek.condF rfl rfl ?_
  refine Ek.skip ?_
  refine Ek.seq ?_
  refine Ek.seq ?_
  rw [open_new (by decide)] at Al
  refine Ek.reg ?_
  refine SeqR.go rfl rfl rfl (st_pure rfl rfl) rfl ?_
  refine SeqR.nil ?_
  refine Ek.block ?_
  refine Ek.loop_inv (fun e fr st => ∃ i hk mk ws ow, i + e = N ∧ Le (frGr (N : Int) l i) fr ∧ st = ⟨hk, mk⟩ ∧ Log hk l d ⟨Dk.new 200, ws, []⟩ ow ∧ Bd hk mk ∧ ws.length = min i 40 ∧ (∀ p ∈ ws, 60 ≤ p.1 ∧ p.1 < 60 + i) ∧ (0 < i → (getW 60 ws).isSome = true)) ?_ (N) _ _ ⟨0, h2, _, [], ol, by omega, Le.put (Le.put (Le.put (Le.put (Le.nil _) rfl) rfl) rfl) rfl, rfl, Al, B2.mono (by omega), rfl, fun p hp => (by cases hp), fun q => (by omega)⟩
  rintro e fr st ⟨i, hk, mk, ws, ow, hi, hle, rfl, Ak, Bk, hwl, hwr, hw60⟩
  refine Ek.weaken hle ?_
  clear hle
  have hnl : (Dk.new 200).now.length = 200 := List.length_replicate
  rcases (show (i < N ∧ i < 40) ∨ (i < N ∧ ¬ i < 40) ∨ (¬ i < N ∧ N = 0) ∨ (¬ i < N ∧ 0 < N) by omega) with ⟨hiN, hi40⟩ | ⟨hiN, hi40⟩ | ⟨hiN, hN0⟩ | ⟨hiN, hN0⟩
  · have hno : getW (60 + i) ws = none := getW_none_of (fun p hp => by have := hwr p hp; omega)
    refine Ek.seq ?_
    refine Ek.seq ?_
    refine Ek.reg ?_
    refine SeqR.go rfl rfl rfl (st_pure rfl rfl) rfl ?_
    refine SeqR.go rfl rfl rfl (st_pure rfl rfl) rfl ?_
    refine SeqR.go rfl rfl rfl (st_pure rfl rfl) rfl ?_
    refine SeqR.nil ?_
    refine Ek.condT rfl (by simp; omega) ?_
    refine Ek.skip ?_
    refine Ek.seq ?_
    refine Ek.block ?_
    refine Ek.seq ?_
    refine Ek.reg ?_
    refine SeqR.go rfl rfl rfl (st_pure rfl rfl) rfl ?_
    refine SeqR.go rfl rfl rfl (st_pure rfl rfl) rfl ?_
    refine SeqR.go rfl rfl rfl (addK (a := 60) (b := i) (by omega)) rfl ?_
    refine SeqR.go rfl rfl rfl (st_pure rfl rfl) rfl ?_
    refine SeqR.go rfl rfl rfl (cv tu3 tu5) rfl ?_
    rw [u8_wrap]
    refine SeqR.go rfl rfl rfl (bs1 te33 tz5 tzo5) rfl ?_
    refine SeqR.cal rfl rfl rfl rfl rfl (w_full (bs := [UInt8.ofNat i]) bv_one (Bd.set Bk (by omega) (by omega)) (by simp)) ?_
    rintro v3 h3 m3 ⟨S3, B3, hm3, same3⟩
    refine ⟨_, rfl, ?_⟩
    refine SeqR.cal rfl rfl rfl rfl rfl (w_putL (Ak.keep Bk (fun γ hγ => (same3 γ (by omega)).trans (get_set_ne (by omega)))) (B3.mono (by omega)) S3 (by omega) (by simp only [hnl]; omega) (Or.inr (by simp only [hwl]; omega))) ?_
    rintro v4 h4 m4 ⟨rfl, A4, B4, t4⟩
    refine ⟨_, rfl, ?_⟩
    refine SeqR.go rfl rfl rfl (st_pure rfl rfl) rfl ?_
    refine SeqR.nil ?_
    refine Ek.seq ?_
    refine Ek.reg ?_
    refine SeqR.go rfl rfl rfl (st_pure rfl rfl) rfl ?_
    refine SeqR.go rfl rfl rfl (st_pure rfl rfl) rfl ?_
    refine SeqR.go rfl rfl rfl (st_pure rfl rfl) rfl ?_
    refine SeqR.go rfl (by simp; omega) rfl (st_pure rfl rfl) rfl ?_
    refine SeqR.go rfl (by simp; omega) rfl (neI0 tu29) rfl ?_
    refine SeqR.go rfl rfl rfl (st_pickT (by simp; omega)) rfl ?_
    refine SeqR.go rfl rfl rfl (st_pure rfl rfl) rfl ?_
    refine SeqR.go rfl rfl rfl (st_pure rfl rfl) rfl ?_
    refine SeqR.go rfl rfl rfl (st_pure rfl rfl) rfl ?_
    refine SeqR.go rfl rfl rfl (st_pure rfl rfl) rfl ?_
    refine SeqR.hop rfl (by simp; omega) rfl ?_
    refine SeqR.hop rfl (by simp; omega) rfl ?_
    refine SeqR.hop rfl (by simp; omega) rfl ?_
    refine SeqR.go rfl rfl rfl (st_pickF (by simp; omega)) rfl ?_
    refine SeqR.go rfl rfl rfl (st_pickF rfl) rfl ?_
    refine SeqR.nil ?_
    refine Ek.condF rfl rfl ?_
    refine Ek.skip ?_
    refine Ek.reg ?_
    refine SeqR.go rfl rfl rfl (st_pure rfl rfl) rfl ?_
    refine SeqR.go rfl rfl rfl add1 rfl ?_
    refine SeqR.go rfl rfl rfl (st_pure rfl rfl) rfl ?_
    refine SeqR.nil ?_
    refine ⟨e - 1, by omega, i + 1, h4, _, _, ow, by omega, Le.put (Le.put (Le.put (Le.put (Le.nil _) rfl) rfl) rfl) rfl, rfl, A4, B4.mono (by omega), ?_, fun p hp => ?_, fun _ => ?_⟩
    · rw [putW_none hno, hwl]; omega
    · rcases putW_mem hp with q | q
      · omega
      · have := hwr p q; omega
    · refine getW_put ?_
      by_cases h0 : 0 < i
      · exact Or.inl (hw60 h0)
      · exact Or.inr (by omega)
  · have hno : getW (60 + i) ws = none := getW_none_of (fun p hp => by have := hwr p hp; omega)
    refine Ek.seq ?_
    refine Ek.seq ?_
    refine Ek.reg ?_
    refine SeqR.go rfl rfl rfl (st_pure rfl rfl) rfl ?_
    refine SeqR.go rfl rfl rfl (st_pure rfl rfl) rfl ?_
    refine SeqR.go rfl rfl rfl (st_pure rfl rfl) rfl ?_
    refine SeqR.nil ?_
    refine Ek.condT rfl (by simp; omega) ?_
    refine Ek.skip ?_
    refine Ek.seq ?_
    refine Ek.block ?_
    refine Ek.seq ?_
    refine Ek.reg ?_
    refine SeqR.go rfl rfl rfl (st_pure rfl rfl) rfl ?_
    refine SeqR.go rfl rfl rfl (st_pure rfl rfl) rfl ?_
    refine SeqR.go rfl rfl rfl (addK (a := 60) (b := i) (by omega)) rfl ?_
    refine SeqR.go rfl rfl rfl (st_pure rfl rfl) rfl ?_
    refine SeqR.go rfl rfl rfl (cv tu3 tu5) rfl ?_
    rw [u8_wrap]
    refine SeqR.go rfl rfl rfl (bs1 te33 tz5 tzo5) rfl ?_
    refine SeqR.cal rfl rfl rfl rfl rfl (w_full (bs := [UInt8.ofNat i]) bv_one (Bd.set Bk (by omega) (by omega)) (by simp)) ?_
    rintro v3 h3 m3 ⟨S3, B3, hm3, same3⟩
    refine ⟨_, rfl, ?_⟩
    refine SeqR.cal rfl rfl rfl rfl rfl (w_putFull (Ak.keep Bk (fun γ hγ => (same3 γ (by omega)).trans (get_set_ne (by omega)))) (B3.mono (by omega)) S3 (by omega) (by simp only [hnl]; omega) hno (by simp only [hwl]; omega)) ?_
    rintro v4 h4 m4 ⟨q4, rfl, R4, B4, hm4, same4⟩
    refine ⟨_, rfl, ?_⟩
    refine SeqR.go rfl rfl rfl (st_pure rfl rfl) rfl ?_
    refine SeqR.nil ?_
    refine Ek.seq ?_
    refine Ek.reg ?_
    refine SeqR.go rfl rfl rfl (st_pure rfl rfl) rfl ?_
    refine SeqR.go rfl rfl rfl (st_pure rfl rfl) rfl ?_
    refine SeqR.go rfl rfl rfl (st_pure rfl rfl) rfl ?_
    refine SeqR.hop rfl (by simp; omega) rfl ?_
    refine SeqR.hop rfl (by simp; omega) rfl ?_
    refine SeqR.go rfl rfl rfl (st_pickF (by simp; omega)) rfl ?_
    refine SeqR.go rfl rfl rfl (st_pure rfl rfl) rfl ?_
    refine SeqR.go rfl rfl rfl (st_pure rfl rfl) rfl ?_
    refine SeqR.go rfl rfl rfl (st_pure rfl rfl) rfl ?_
    refine SeqR.go rfl rfl rfl (st_pure rfl rfl) rfl ?_
    refine SeqR.go rfl (by simp; omega) rfl (st_pure rfl rfl) rfl ?_
    refine SeqR.cal rfl (by simp; omega) rfl rfl rfl (w_isFull R4) ?_
    rintro _ _ m5 ⟨rfl, rfl, hm5⟩
    refine ⟨_, rfl, ?_⟩
    refine SeqR.go rfl (by simp; omega) rfl (st_pure rfl rfl) rfl ?_
    refine SeqR.go rfl rfl rfl (st_pickT (by simp; omega)) rfl ?_
    refine SeqR.go rfl rfl rfl (st_pickF rfl) rfl ?_
    refine SeqR.nil ?_
    refine Ek.condF rfl rfl ?_
    refine Ek.skip ?_
    refine Ek.reg ?_
    refine SeqR.go rfl rfl rfl (st_pure rfl rfl) rfl ?_
    refine SeqR.go rfl rfl rfl add1 rfl ?_
    refine SeqR.go rfl rfl rfl (st_pure rfl rfl) rfl ?_
    refine SeqR.nil ?_
    exact ⟨e - 1, by omega, i + 1, h4, _, ws, ow, by omega, Le.put (Le.put (Le.put (Le.put (Le.nil _) rfl) rfl) rfl) rfl, rfl, (Ak.keep Bk (fun γ hγ => (same4 γ (by omega)).trans ((same3 γ (by omega)).trans (get_set_ne (by omega))))), B4.mono (by omega), by omega, fun p hp => by have := hwr p hp; omega, fun _ => hw60 (by omega)⟩
  · have hq : ((ws.length : Int) == if (40 : Int) < (N : Int) then (40 : Int) else (N : Int)) = true := by rw [beq_iff_eq]; split <;> omega
    refine Ek.seq ?_
    refine Ek.seq ?_
    refine Ek.reg ?_
    refine SeqR.go rfl rfl rfl (st_pure rfl rfl) rfl ?_
    refine SeqR.go rfl rfl rfl (st_pure rfl rfl) rfl ?_
    refine SeqR.go rfl rfl rfl (st_pure rfl rfl) rfl ?_
    refine SeqR.nil ?_
    refine Ek.condF rfl (by simp; omega) ?_
    refine Ek.exit ?_
    simp only [AEx.then, AEx.inBlock, if_true]
    refine Ek.seq ?_
    have hX0 : ((N : Int) == 0) = true := by rw [beq_iff_eq]; omega
    refine Ek.reg ?_
    refine SeqR.go rfl rfl rfl (st_pure rfl rfl) rfl ?_
    refine SeqR.go rfl rfl rfl (st_pure rfl rfl) rfl ?_
    refine SeqR.go rfl rfl rfl (st_pure rfl rfl) rfl ?_
    refine SeqR.cal rfl rfl rfl rfl rfl (w_waiting Ak) ?_
    rintro _ _ m5 ⟨rfl, rfl, hm5⟩
    refine ⟨_, rfl, ?_⟩
    refine SeqR.go rfl rfl rfl (st_pure rfl rfl) rfl ?_
    refine SeqR.go rfl rfl rfl (st_pure rfl rfl) rfl ?_
    refine SeqR.go rfl rfl rfl (st_pure rfl rfl) rfl ?_
    refine SeqR.go rfl rfl rfl (st_pickT rfl) rfl ?_
    refine SeqR.go rfl rfl rfl (st_pure rfl rfl) rfl ?_
    refine SeqR.go rfl (by rw [hq]; rfl) rfl (st_pure rfl rfl) rfl ?_
    refine SeqR.go rfl (by rw [hq]; rfl) rfl (st_pure rfl rfl) rfl ?_
    refine SeqR.go rfl (by rw [hq]; rfl) rfl (st_pure rfl rfl) rfl ?_
    refine SeqR.hop rfl (by rw [hX0]; rfl) rfl ?_
    refine SeqR.hop rfl (by rw [hX0]; rfl) rfl ?_
    refine SeqR.hop rfl (by rw [hX0]; rfl) rfl ?_
    refine SeqR.hop rfl (by rw [hX0]; rfl) rfl ?_
    refine SeqR.go rfl (by rw [hq]; rfl) rfl (st_pickT hX0) rfl ?_
    refine SeqR.go rfl rfl rfl (st_pickT hq) rfl ?_
    refine SeqR.go rfl rfl rfl (st_pure rfl rfl) rfl ?_
    refine SeqR.go rfl rfl rfl (st_pure rfl rfl) rfl ?_
    refine SeqR.cal rfl rfl rfl rfl rfl (w_sync Ak (Bk.mono (by omega)) (fun p hp => by have := hwr p hp; simp only [hnl]; omega) (by simp only [hnl]; decide) (by simp only [hnl]; decide) (by show 0 < 80000; decide)) ?_
    rintro v6 h6 m6 ⟨hv6, ow6, A6, B6, t6⟩
    refine ⟨_, rfl, ?_⟩
    obtain rfl : v6 = .nili := by
      rcases hv6 with ⟨_, q⟩ | ⟨q, _⟩
      · exact q
      · have := ((Live.new 200).sync ws).1; rw [this] at q; cases q
    refine SeqR.go rfl rfl rfl (eqI0 tu29) rfl ?_
    refine SeqR.go rfl rfl rfl (st_pickT rfl) rfl ?_
    refine SeqR.go rfl rfl rfl (st_pure rfl rfl) rfl ?_
    refine SeqR.go rfl rfl rfl (st_pure rfl rfl) rfl ?_
    refine SeqR.cal rfl rfl rfl rfl rfl (w_waiting A6) ?_
    rintro _ _ m7 ⟨rfl, rfl, hm7⟩
    refine ⟨_, rfl, ?_⟩
    refine SeqR.go rfl rfl rfl (st_pure rfl rfl) rfl ?_
    refine SeqR.go rfl rfl rfl (st_pickT rfl) rfl ?_
    refine SeqR.go rfl rfl rfl (st_pure rfl rfl) rfl ?_
    refine SeqR.nil ?_
    exact Ek.ret ⟨Or.inr rfl, _, rfl, rfl⟩
  · have hq : ((ws.length : Int) == if (40 : Int) < (N : Int) then (40 : Int) else (N : Int)) = true := by rw [beq_iff_eq]; split <;> omega
    refine Ek.seq ?_
    refine Ek.seq ?_
    refine Ek.reg ?_
    refine SeqR.go rfl rfl rfl (st_pure rfl rfl) rfl ?_
    refine SeqR.go rfl rfl rfl (st_pure rfl rfl) rfl ?_
    refine SeqR.go rfl rfl rfl (st_pure rfl rfl) rfl ?_
    refine SeqR.nil ?_
    refine Ek.condF rfl (by simp; omega) ?_
    refine Ek.exit ?_
    simp only [AEx.then, AEx.inBlock, if_true]
    refine Ek.seq ?_
    have hX0 : ((N : Int) == 0) = false := by rw [beq_eq_false_iff_ne]; omega
    refine Ek.reg ?_
    refine SeqR.go rfl rfl rfl (st_pure rfl rfl) rfl ?_
    refine SeqR.go rfl rfl rfl (st_pure rfl rfl) rfl ?_
    refine SeqR.go rfl rfl rfl (st_pure rfl rfl) rfl ?_
    refine SeqR.cal rfl rfl rfl rfl rfl (w_waiting Ak) ?_
    rintro _ _ m5 ⟨rfl, rfl, hm5⟩
    refine ⟨_, rfl, ?_⟩
    refine SeqR.go rfl rfl rfl (st_pure rfl rfl) rfl ?_
    refine SeqR.go rfl rfl rfl (st_pure rfl rfl) rfl ?_
    refine SeqR.go rfl rfl rfl (st_pure rfl rfl) rfl ?_
    refine SeqR.go rfl rfl rfl (st_pickT rfl) rfl ?_
    refine SeqR.go rfl rfl rfl (st_pure rfl rfl) rfl ?_
    refine SeqR.go rfl (by rw [hq]; rfl) rfl (st_pure rfl rfl) rfl ?_
    refine SeqR.go rfl (by rw [hq]; rfl) rfl (st_pure rfl rfl) rfl ?_
    refine SeqR.go rfl (by rw [hq]; rfl) rfl (st_pure rfl rfl) rfl ?_
    refine SeqR.go rfl (by rw [hX0]; rfl) rfl (st_pure rfl rfl) rfl ?_
    refine SeqR.cal rfl (by rw [hX0]; rfl) rfl rfl rfl (w_full (bs := []) (Or.inl ⟨rfl, rfl⟩) (Bk.mono (by omega)) (by simp)) ?_
    rintro v8 h8 m8 ⟨S8, B8, hm8, same8⟩
    refine ⟨_, rfl, ?_⟩
    refine SeqR.cal rfl (by rw [hX0]; rfl) rfl rfl rfl (w_putL (i := 60) (Ak.keep Bk (fun γ hγ => same8 γ (by omega))) (B8.mono (by omega)) S8 (by decide) (by simp only [hnl]; decide) (Or.inl (hw60 (by omega)))) ?_
    rintro v9 h9 m9 ⟨rfl, A9, B9, t9⟩
    refine ⟨_, rfl, ?_⟩
    refine SeqR.go rfl (by rw [hX0]; rfl) rfl (eqI0 tu29) rfl ?_
    refine SeqR.go rfl (by rw [hq]; rfl) rfl (st_pickF hX0) rfl ?_
    refine SeqR.go rfl rfl rfl (st_pickT hq) rfl ?_
    refine SeqR.go rfl rfl rfl (st_pure rfl rfl) rfl ?_
    refine SeqR.go rfl rfl rfl (st_pure rfl rfl) rfl ?_
    refine SeqR.cal rfl rfl rfl rfl rfl (w_sync A9 (B9.mono (by omega)) (fun p hp => by show 48 ≤ p.1 ∧ p.1 < (Dk.new 200).now.length; rw [hnl]; rcases putW_mem hp with q | q; omega; (have := hwr p q; omega)) (by show 128 ≤ (Dk.new 200).now.length; rw [hnl]; decide) (by show (Dk.new 200).now.length ≤ 4096; rw [hnl]; decide) (by show 0 < 80000; decide)) ?_
    rintro v6 h6 m6 ⟨hv6, ow6, A6, B6, t6⟩
    refine ⟨_, rfl, ?_⟩
    obtain rfl : v6 = .nili := by
      rcases hv6 with ⟨_, q⟩ | ⟨q, _⟩
      · exact q
      · have := ((Live.new 200).sync (putW 60 (fullOf []) ws)).1; simp only [Lg.put] at q; rw [this] at q; cases q
    refine SeqR.go rfl rfl rfl (eqI0 tu29) rfl ?_
    refine SeqR.go rfl rfl rfl (st_pickT rfl) rfl ?_
    refine SeqR.go rfl rfl rfl (st_pure rfl rfl) rfl ?_
    refine SeqR.go rfl rfl rfl (st_pure rfl rfl) rfl ?_
    refine SeqR.cal rfl rfl rfl rfl rfl (w_waiting A6) ?_
    rintro _ _ m7 ⟨rfl, rfl, hm7⟩
    refine ⟨_, rfl, ?_⟩
    refine SeqR.go rfl rfl rfl (st_pure rfl rfl) rfl ?_
    refine SeqR.go rfl rfl rfl (st_pickT rfl) rfl ?_
    refine SeqR.go rfl rfl rfl (st_pure rfl rfl) rfl ?_
    refine SeqR.nil ?_
    exact Ek.ret ⟨Or.inr rfl, _, rfl, rfl⟩
end Go.Xec
