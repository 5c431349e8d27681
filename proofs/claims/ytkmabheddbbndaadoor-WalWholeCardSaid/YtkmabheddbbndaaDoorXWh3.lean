/- WalWhole: the plain law, whole. -/
import Derived.Test.YtkmabheddbbndaaDoorXWh2
namespace Go.Xec
open Go.Proofs
section
variable {C D : Dk} {n a : Nat} {S T : By} {ps : List Bool}
def hdT (n : Nat) (T : By) : By := hdrB (nums n) (List.replicate n T)
theorem lgs_idx {p : Nat × By} (h : p ∈ lgs n T) : 1 ≤ p.1 ∧ p.1 ≤ n ∧ p.2 = T := by
  simp only [lgs, List.mem_map, List.mem_range] at h
  obtain ⟨k, hk, rfl⟩ := h
  exact ⟨by simp only; omega, by simp only; omega, rfl⟩
theorem wts_idx {p : Nat × By} (h : p ∈ wts n T) : 48 ≤ p.1 ∧ (∃ i, i < n ∧ p.1 = 48 + 3 * i) ∧ p.2 = T := by
  simp only [wts, List.mem_map] at h
  obtain ⟨j, hj, rfl⟩ := h
  obtain ⟨i, hi, rfl⟩ := nums_mem.1 hj
  exact ⟨by simp only; omega, ⟨i, hi, rfl⟩, rfl⟩
theorem wts_mem {i : Nat} (h : i < n) : ∃ p ∈ wts n T, p.1 = 48 + 3 * i := ⟨(48 + 3 * i, T), by simp only [wts, List.mem_map]; exact ⟨48 + 3 * i, nums_mem.2 ⟨i, h, rfl⟩, rfl⟩, rfl⟩
theorem lgs_mem {k : Nat} (h : k < n) : ∃ p ∈ lgs n T, p.1 = 1 + k := ⟨(1 + k, T), by simp only [lgs, List.mem_map, List.mem_range]; exact ⟨k, h, rfl⟩, rfl⟩
theorem lgs_len : (lgs n T).length = n := by simp [lgs]
theorem wts_len : (wts n T).length = n := by simp [wts, nums_len]
theorem getD_of {L : List By} {j : Nat} {b : By} (h : L[j]? = some b) : L.getD j [] = b := by rw [List.getD_eq_getElem?_getD, h]; rfl

/-- A disk on which the header stands brings the group home. -/
theorem open_hdr (hn : n ≤ 40) (h1 : 1 ≤ n) (hL : Live C) (hl : C.now.length = 200) (h0 : C.now[0]? = some (hdT n T)) (hk : ∀ k, k < n → C.now[1 + k]? = some T) :
    (openD C).now.length = 200 ∧ ∀ i, i < n → (openD C).now[48 + 3 * i]? = some T := by
  have hg : grp C.now = nums n := grp_back (cs := List.replicate n T) (getD_of h0) (by simp [nums_len]) (by rw [nums_len]; exact hn) (fun i hi => by obtain ⟨j, hj, rfl⟩ := nums_mem.1 hi; rw [hl]; omega) (by omega) (fun k hk2 => by
    rw [nums_len] at hk2
    rw [getD_of (hk k hk2), getD_of (b := T) (by rw [List.getElem?_replicate, if_pos hk2])])
  have hne : nums n ≠ [] := fun e => by have := congrArg List.length e; rw [nums_len, List.length_nil] at this; omega
  have he : openD C = ((wrs C (wts n T)).flush.write 0 zeroS).flush := by
    unfold openD
    rw [if_neg (by rw [hg]; exact hne), hg]
    unfold inst
    rw [instL_wrs (b := T) (nums n) C 1 (fun i hi => by obtain ⟨j, _, rfl⟩ := nums_mem.1 hi; omega) (by rw [nums_len]; omega) (Or.inr (fun j hj => by rw [nums_len] at hj; exact getD_of (hk j hj)))]
    rfl
  obtain ⟨g1, g2, g3, g4, g5⟩ := wrs_has (wts n T) (D := C) ⟨hL.1, Or.inl hL.2⟩
  have hnow : (openD C).now = (setAll C.now (wts n T)).set 0 zeroS := by
    rw [he, Dk.flush_now, write_go (by rw [flush_go g1]; exact g1)]
    simp only
    rw [Dk.flush_now, g2]
  rw [hnow]
  refine ⟨by rw [List.length_set, setAll_len, hl], fun i hi => ?_⟩
  rw [List.getElem?_set_ne (by omega)]
  exact setAll_const _ _ _ (fun p hp => (wts_idx hp).2.2) (wts_mem hi) (by omega)
theorem open_zero (h0 : C.now[0]? = some zeroS) : openD C = C := by
  unfold openD
  rw [if_pos (grp_zero (getD_of h0))]
theorem crash_live (D : Dk) (ps : List Bool) : Live (D.crash ps) := ⟨rfl, rfl⟩
theorem crash_len (D : Dk) (ps : List Bool) : (D.crash ps).now.length = D.lasts.length := crashK_len D ps _

/-- The law. -/
theorem whole_law (h1 : 1 ≤ n) (hn : n ≤ 40) (hL : Live D) (hl : D.now.length = 200) (hla : D.lasts = D.now) (hca : D.cache = []) (h0 : D.now[0]? = some zeroS) (hS : ∀ i, i < n → D.now[48 + 3 * i]? = some S) :
    (openD ((syncD (D.lim (a : Int)) (wts n T)).crash ps)).now.length = 200 ∧
    ((∀ i, i < n → (openD ((syncD (D.lim (a : Int)) (wts n T)).crash ps)).now[48 + 3 * i]? = some S) ∧ (syncD (D.lim (a : Int)) (wts n T)).dead = true ∨
     ∀ i, i < n → (openD ((syncD (D.lim (a : Int)) (wts n T)).crash ps)).now[48 + 3 * i]? = some T) := by
  have hne : nums n ≠ [] := fun e => by have := congrArg List.length e; rw [nums_len, List.length_nil] at this; omega
  have hsync : ∀ X : Dk, syncD X (wts n T) = ((instL (((wrs X (lgs n T)).flush.write 0 (hdT n T)).flush) 1 (nums n)).flush.write 0 zeroS).flush := by
    intro X
    unfold syncD
    rw [wts_keys, nums_sorted, if_neg hne, conts_wts, wrL_rep]
    rfl
  have hdd : D.lim (a : Int) = { D with limit := (a : Int), dead := decide ((a : Int) = 0) } := by
    unfold Dk.lim
    rw [hL.1]
    simp only
    rw [if_neg (by omega)]
  have dead_end : ∀ (X : Dk), X.dead = true → ((instL X 1 (nums n)).flush.write 0 zeroS).flush = X := by
    intro X hX
    rw [instL_wrs (b := T) (nums n) X 1 (fun i hi => by obtain ⟨j, _, rfl⟩ := nums_mem.1 hi; omega) (by rw [nums_len]; omega) (Or.inl hX), wrs_dead _ hX, flush_dead hX, write_dead hX, flush_dead hX]
  generalize hD2 : D.lim (a : Int) = D2 at hdd
  have e_now : D2.now = D.now := by rw [hdd]
  have e_lasts : D2.lasts = D.now := by rw [hdd]; exact hla
  have e_cache : D2.cache = [] := by rw [hdd]; exact hca
  have e_lim : D2.limit = (a : Int) := by rw [hdd]
  have e_dead : D2.dead = decide ((a : Int) = 0) := by rw [hdd]
  clear hdd
  rw [hsync D2]
  -- what is left if the power goes while the log's sectors are written
  have early : ∀ X : Dk, X.lasts = D.now → (∀ p ∈ X.cache, 1 ≤ p.1 ∧ p.1 ≤ n) → (openD (X.crash ps)).now.length = 200 ∧ ∀ i, i < n → (openD (X.crash ps)).now[48 + 3 * i]? = some S := by
    intro X hXl hXc
    have at0 : ∀ j, (∀ p ∈ X.cache, p.1 ≠ j) → j < 200 → (X.crash ps).now[j]? = D.now[j]? := by
      intro j hj hlt
      rcases crash_at X ps j (by rw [hXl, hl]; exact hlt) with h | ⟨p, hp, e, _⟩
      · rw [h, hXl]
      · exact absurd e (hj p hp)
    have z0 : (X.crash ps).now[0]? = some zeroS := by rw [at0 0 (fun p hp => by have := hXc p hp; omega) (by omega)]; exact h0
    rw [open_zero z0]
    refine ⟨by rw [crash_len, hXl, hl], fun i hi => ?_⟩
    rw [at0 _ (fun p hp => by have := hXc p hp; omega) (by omega)]; exact hS i hi
  by_cases ha0 : a = 0
  · have hd : D2.dead = true := by rw [e_dead, ha0]; rfl
    have eall : ((instL (((wrs D2 (lgs n T)).flush.write 0 (hdT n T)).flush) 1 (nums n)).flush.write 0 zeroS).flush = D2 := by
      rw [wrs_dead _ hd, flush_dead hd, write_dead hd, flush_dead hd]; exact dead_end D2 hd
    rw [eall]
    obtain ⟨q1, q2⟩ := early D2 e_lasts (by rw [e_cache]; intro p hp; cases hp)
    exact ⟨q1, Or.inl ⟨q2, hd⟩⟩
  have hd : D2.dead = false := by rw [e_dead, decide_eq_false_iff_not]; omega
  by_cases p1 : a ≤ n
  · obtain ⟨g1, g2, g3, _⟩ := wrs_stop (lgs n T) hd (by rw [e_lim]; omega) (by rw [e_lim, lgs_len]; omega)
    have eall : ((instL (((wrs D2 (lgs n T)).flush.write 0 (hdT n T)).flush) 1 (nums n)).flush.write 0 zeroS).flush = wrs D2 (lgs n T) := by
      rw [flush_dead g1, write_dead g1, flush_dead g1]; exact dead_end _ g1
    rw [eall]
    obtain ⟨q1, q2⟩ := early (wrs D2 (lgs n T)) (by rw [g2, e_lasts]) (fun p hp => by
      rw [g3, e_cache, List.nil_append] at hp
      have := lgs_idx (List.mem_of_mem_take hp); omega)
    exact ⟨q1, Or.inl ⟨q2, g1⟩⟩
  obtain ⟨g1, g2, g3, g4, g5⟩ := wrs_has (lgs n T) (D := D2) ⟨hd, Or.inr (by rw [e_lim, lgs_len]; omega)⟩
  rw [if_neg (by rw [e_lim]; omega), e_lim, lgs_len] at g5
  generalize hA1 : wrs D2 (lgs n T) = A1 at g1 g2 g3 g4 g5
  rw [e_now] at g2; rw [e_lasts] at g3; rw [e_cache, List.nil_append] at g4
  obtain ⟨L1, hL1⟩ : ∃ L1, L1 = setAll D.now (lgs n T) := ⟨_, rfl⟩
  have f1 : A1.flush = { A1 with lasts := L1, cache := [] } := by rw [flush_go g1, g3, g4, hL1]
  have l1len : L1.length = 200 := by rw [hL1, setAll_len, hl]
  have l1_0 : L1[0]? = some zeroS := by rw [hL1, setAll_get _ _ _ (fun p hp => by have := lgs_idx hp; omega)]; exact h0
  have l1_k : ∀ k, k < n → L1[1 + k]? = some T := fun k hk => by rw [hL1]; exact setAll_const _ _ _ (fun p hp => (lgs_idx hp).2.2) (lgs_mem hk) (by omega)
  have l1_h : ∀ i, i < n → L1[48 + 3 * i]? = some S := fun i hi => by rw [hL1, setAll_get _ _ _ (fun p hp => by have := lgs_idx hp; omega)]; exact hS i hi
  have f1d : A1.flush.dead = false := by rw [f1]; exact g1
  have f1l : A1.flush.lasts = L1 := by rw [f1]
  have f1n : A1.flush.now = L1 := by rw [Dk.flush_now, g2, hL1]
  have f1c : A1.flush.cache = [] := by rw [f1]
  have f1q : A1.flush.limit = (a : Int) - n := by rw [f1]; exact g5
  generalize hF1 : A1.flush = F1 at f1d f1l f1n f1c f1q
  clear f1
  have w2 := write_go f1d 0 (hdT n T)
  -- what is left of a disk whose lasting sectors hold the log's sectors
  have late : ∀ (X : Dk) (L : List By), X.lasts = L → L.length = 200 → (∀ k, k < n → L[1 + k]? = some T) → (∀ p ∈ X.cache, p.1 = 0 ∨ 48 ≤ p.1) → (X.crash ps).now[0]? = some (hdT n T) →
      (openD (X.crash ps)).now.length = 200 ∧ ∀ i, i < n → (openD (X.crash ps)).now[48 + 3 * i]? = some T := by
    intro X L hXl hLl hLk hXc hX0
    refine open_hdr hn h1 (crash_live X ps) (by rw [crash_len, hXl, hLl]) hX0 (fun k hk => ?_)
    rcases crash_at X ps (1 + k) (by rw [hXl, hLl]; omega) with h | ⟨p, hp, e, _⟩
    · rw [h, hXl]; exact hLk k hk
    · have := hXc p hp; omega
  by_cases p2 : a = n + 1
  · have b1 : (F1.write 0 (hdT n T)).dead = true := by
      rw [w2]; simp only; rw [f1q, decide_eq_true_eq, if_pos (by omega)]; omega
    have b2 : (F1.write 0 (hdT n T)).lasts = L1 := by rw [w2]; exact f1l
    have b3 : (F1.write 0 (hdT n T)).cache = [(0, hdT n T)] := by rw [w2]; simp only; rw [f1c]; rfl
    have eall : ((instL ((F1.write 0 (hdT n T)).flush) 1 (nums n)).flush.write 0 zeroS).flush = F1.write 0 (hdT n T) := by
      rw [flush_dead b1]; exact dead_end _ b1
    rw [eall]
    generalize F1.write 0 (hdT n T) = B at b1 b2 b3
    rcases crash_at B ps 0 (by rw [b2, l1len]; omega) with h | ⟨p, hp, _, e2⟩
    · rw [b2, l1_0] at h
      rw [open_zero h]
      refine ⟨by rw [crash_len, b2, l1len], Or.inl ⟨fun i hi => ?_, b1⟩⟩
      rcases crash_at B ps (48 + 3 * i) (by rw [b2, l1len]; omega) with h | ⟨p, hp, e, _⟩
      · rw [h, b2]; exact l1_h i hi
      · rw [b3] at hp; simp at hp; subst hp; simp at e; omega
    · rw [b3] at hp
      simp at hp; subst hp
      obtain ⟨q1, q2⟩ := late B L1 b2 l1len l1_k (fun p hp => by rw [b3] at hp; simp at hp; subst hp; exact Or.inl rfl) e2
      exact ⟨q1, Or.inr q2⟩
  have b1 : (F1.write 0 (hdT n T)).dead = false := by
    rw [w2]; simp only; rw [f1q, decide_eq_false_iff_not]; split <;> omega
  have b2 : (F1.write 0 (hdT n T)).lasts = L1 := by rw [w2]; exact f1l
  have b3 : (F1.write 0 (hdT n T)).cache = [(0, hdT n T)] := by rw [w2]; simp only; rw [f1c]; rfl
  have b4 : (F1.write 0 (hdT n T)).now = L1.set 0 (hdT n T) := by rw [w2]; simp only; rw [f1n]
  have b5 : (F1.write 0 (hdT n T)).limit = (a : Int) - n - 1 := by rw [w2]; simp only; rw [f1q, if_pos (by omega)]
  generalize F1.write 0 (hdT n T) = B at b1 b2 b3 b4 b5
  have c1 : B.flush = { B with lasts := L1.set 0 (hdT n T), cache := [] } := by rw [flush_go b1, b2, b3]; rfl
  have c1d : B.flush.dead = false := by rw [c1]; exact b1
  have c1l : B.flush.lasts = L1.set 0 (hdT n T) := by rw [c1]
  have c1n : B.flush.now = L1.set 0 (hdT n T) := by rw [Dk.flush_now, b4]
  have c1c : B.flush.cache = [] := by rw [c1]
  have c1q : B.flush.limit = (a : Int) - n - 1 := by rw [c1]; exact b5
  generalize B.flush = F2 at c1d c1l c1n c1c c1q
  clear c1
  obtain ⟨L2, hL2⟩ : ∃ L2, L2 = L1.set 0 (hdT n T) := ⟨_, rfl⟩
  rw [← hL2] at c1l c1n
  have l2len : L2.length = 200 := by rw [hL2, List.length_set, l1len]
  have l2_0 : L2[0]? = some (hdT n T) := by rw [hL2, List.getElem?_set_self (by omega)]
  have l2_k : ∀ k, k < n → L2[1 + k]? = some T := fun k hk => by rw [hL2, List.getElem?_set_ne (by omega)]; exact l1_k k hk
  have ei : instL F2 1 (nums n) = wrs F2 (wts n T) := instL_wrs (b := T) (nums n) F2 1 (fun i hi => by obtain ⟨j, _, rfl⟩ := nums_mem.1 hi; omega) (by rw [nums_len]; omega) (Or.inr (fun j hj => by rw [nums_len] at hj; rw [c1n]; exact getD_of (l2_k j hj)))
  rw [ei]
  by_cases p3 : a ≤ n + 1 + n
  · obtain ⟨d1, d2, d3, _⟩ := wrs_stop (wts n T) c1d (by rw [c1q]; omega) (by rw [c1q, wts_len]; omega)
    have eall : ((wrs F2 (wts n T)).flush.write 0 zeroS).flush = wrs F2 (wts n T) := by rw [flush_dead d1, write_dead d1, flush_dead d1]
    rw [eall]
    generalize wrs F2 (wts n T) = E at d1 d2 d3
    rw [c1l] at d2; rw [c1c, List.nil_append] at d3
    have hc : ∀ p ∈ E.cache, 48 ≤ p.1 := fun p hp => by rw [d3] at hp; exact (wts_idx (List.mem_of_mem_take hp)).1
    have e0 : (E.crash ps).now[0]? = some (hdT n T) := by
      rcases crash_at E ps 0 (by rw [d2, l2len]; omega) with h | ⟨p, hp, e, _⟩
      · rw [h, d2]; exact l2_0
      · have := hc p hp; omega
    obtain ⟨q1, q2⟩ := late E L2 d2 l2len l2_k (fun p hp => Or.inr (hc p hp)) e0
    exact ⟨q1, Or.inr q2⟩
  obtain ⟨d1, d2, d3, d4, d5⟩ := wrs_has (wts n T) (D := F2) ⟨c1d, Or.inr (by rw [c1q, wts_len]; omega)⟩
  rw [if_neg (by rw [c1q]; omega), c1q, wts_len] at d5
  generalize wrs F2 (wts n T) = E at d1 d2 d3 d4 d5
  rw [c1n] at d2; rw [c1l] at d3; rw [c1c, List.nil_append] at d4
  obtain ⟨L3, hL3⟩ : ∃ L3, L3 = setAll L2 (wts n T) := ⟨_, rfl⟩
  have l3len : L3.length = 200 := by rw [hL3, setAll_len, l2len]
  have l3_0 : L3[0]? = some (hdT n T) := by rw [hL3, setAll_get _ _ _ (fun p hp => by have := wts_idx hp; omega)]; exact l2_0
  have l3_k : ∀ k, k < n → L3[1 + k]? = some T := fun k hk => by rw [hL3, setAll_get _ _ _ (fun p hp => by have := wts_idx hp; omega)]; exact l2_k k hk
  have l3_h : ∀ i, i < n → L3[48 + 3 * i]? = some T := fun i hi => by rw [hL3]; exact setAll_const _ _ _ (fun p hp => (wts_idx hp).2.2) (wts_mem hi) (by omega)
  have f3 : E.flush = { E with lasts := L3, cache := [] } := by rw [flush_go d1, d3, d4, hL3]
  have f3d : E.flush.dead = false := by rw [f3]; exact d1
  have f3l : E.flush.lasts = L3 := by rw [f3]
  have f3c : E.flush.cache = [] := by rw [f3]
  have f3n : E.flush.now = L3 := by rw [Dk.flush_now, d2, hL3]
  have f3q : E.flush.limit = (a : Int) - n - 1 - n := by rw [f3]; exact d5
  generalize E.flush = F3 at f3d f3l f3c f3n f3q
  clear f3
  have w4 := write_go f3d 0 zeroS
  -- the header's last write: whatever lasts of it, the group is home
  have fin : ∀ X : Dk, X.lasts = L3 → (∀ p ∈ X.cache, p.1 = 0 ∧ p.2 = zeroS) → (openD (X.crash ps)).now.length = 200 ∧ ∀ i, i < n → (openD (X.crash ps)).now[48 + 3 * i]? = some T := by
    intro X hXl hXc
    rcases crash_at X ps 0 (by rw [hXl, l3len]; omega) with h | ⟨p, hp, _, e2⟩
    · rw [hXl, l3_0] at h
      exact late X L3 hXl l3len l3_k (fun p hp => Or.inl (hXc p hp).1) h
    · rw [(hXc p hp).2] at e2
      rw [open_zero e2]
      refine ⟨by rw [crash_len, hXl, l3len], fun i hi => ?_⟩
      rcases crash_at X ps (48 + 3 * i) (by rw [hXl, l3len]; omega) with h | ⟨p, hp, e, _⟩
      · rw [h, hXl]; exact l3_h i hi
      · have := (hXc p hp).1; omega
  by_cases p4 : a = n + 1 + n + 1
  · have x1 : (F3.write 0 zeroS).dead = true := by rw [w4]; simp only; rw [f3q, decide_eq_true_eq, if_pos (by omega)]; omega
    rw [flush_dead x1]
    obtain ⟨q1, q2⟩ := fin (F3.write 0 zeroS) (by rw [w4]; exact f3l) (fun p hp => by rw [w4] at hp; simp only at hp; rw [f3c] at hp; simp at hp; subst hp; exact ⟨rfl, rfl⟩)
    exact ⟨q1, Or.inr q2⟩
  have x1 : (F3.write 0 zeroS).dead = false := by rw [w4]; simp only; rw [f3q, decide_eq_false_iff_not]; split <;> omega
  have y : (F3.write 0 zeroS).flush = { (F3.write 0 zeroS) with lasts := L3.set 0 zeroS, cache := [] } := by
    rw [flush_go x1]
    have : (F3.write 0 zeroS).lasts = L3 ∧ (F3.write 0 zeroS).cache = [(0, zeroS)] := by
      rw [w4]; exact ⟨f3l, by simp only; rw [f3c]; rfl⟩
    rw [this.1, this.2]; rfl
  have yl : (F3.write 0 zeroS).flush.lasts = L3.set 0 zeroS := by rw [y]
  have yc : (F3.write 0 zeroS).flush.cache = [] := by rw [y]
  generalize (F3.write 0 zeroS).flush = Y at yl yc
  have zz : ∀ j, j < 200 → (Y.crash ps).now[j]? = (L3.set 0 zeroS)[j]? := by
    intro j hj
    rcases crash_at Y ps j (by rw [yl, List.length_set, l3len]; exact hj) with h | ⟨p, hp, _⟩
    · rw [h, yl]
    · rw [yc] at hp; cases hp
  rw [open_zero (by rw [zz 0 (by omega), List.getElem?_set_self (by omega)])]
  refine ⟨by rw [crash_len, yl, List.length_set, l3len], Or.inr (fun i hi => ?_)⟩
  rw [zz _ (by omega), List.getElem?_set_ne (by omega)]; exact l3_h i hi
end
end Go.Xec
