/- WalWhole: the plain law: what a crash within a Sync leaves. -/
import Derived.Test.YtkmabheddbbndaaDoorXWg1
import Derived.Test.YtkmabheddbbndaaDoorXWd6
namespace Go.Xec
open Go.Proofs

def wrs (D : Dk) : List (Nat × By) → Dk
  | [] => D
  | p :: l => wrs (D.write p.1 p.2) l
theorem write_dead {D : Dk} (h : D.dead = true) (i : Nat) (b : By) : D.write i b = D := by unfold Dk.write; rw [h]
theorem flush_dead {D : Dk} (h : D.dead = true) : D.flush = D := by unfold Dk.flush; rw [h]
theorem wrs_dead : ∀ (l : List (Nat × By)) {D : Dk}, D.dead = true → wrs D l = D
  | [], _, _ => rfl
  | p :: l, D, h => by
    show wrs (D.write p.1 p.2) l = D
    rw [write_dead h, wrs_dead l h]
theorem write_go {D : Dk} (h : D.dead = false) (i : Nat) (b : By) : D.write i b = { D with now := D.now.set i b, cache := D.cache ++ [(i, b)], writes := D.writes + 1, limit := if 0 < D.limit then D.limit - 1 else D.limit, dead := decide ((if 0 < D.limit then D.limit - 1 else D.limit) = 0) } := by
  unfold Dk.write; rw [h]
theorem flush_go {D : Dk} (h : D.dead = false) : D.flush = { D with lasts := setAll D.lasts D.cache, cache := [] } := by unfold Dk.flush; rw [h]

/-- So much power is left for k writes, and more. -/
def Has (D : Dk) (k : Nat) : Prop := D.dead = false ∧ (D.limit = -1 ∨ (k : Int) < D.limit)
theorem wrs_has : ∀ (l : List (Nat × By)) {D : Dk}, Has D l.length → (wrs D l).dead = false ∧ (wrs D l).now = setAll D.now l ∧ (wrs D l).lasts = D.lasts ∧ (wrs D l).cache = D.cache ++ l ∧ (wrs D l).limit = if D.limit = -1 then -1 else D.limit - l.length
  | [], D, h => by
    refine ⟨h.1, rfl, rfl, by simp [wrs], ?_⟩
    show D.limit = _
    split
    · assumption
    · simp
  | p :: l, D, h => by
    obtain ⟨h1, h2⟩ := h
    simp only [List.length_cons, Int.natCast_add] at h2
    have hlim : (D.write p.1 p.2).limit = if 0 < D.limit then D.limit - 1 else D.limit := by rw [write_go h1]
    have hd : (D.write p.1 p.2).dead = false := by
      rw [write_go h1]
      simp only [decide_eq_false_iff_not]
      split <;> omega
    have hH : Has (D.write p.1 p.2) l.length := ⟨hd, by rw [hlim]; split <;> omega⟩
    obtain ⟨g1, g2, g3, g4, g5⟩ := wrs_has l hH
    refine ⟨g1, ?_, ?_, ?_, ?_⟩
    · show (wrs (D.write p.1 p.2) l).now = _
      rw [g2, write_go h1]; rfl
    · show (wrs (D.write p.1 p.2) l).lasts = _
      rw [g3, write_go h1]
    · show (wrs (D.write p.1 p.2) l).cache = _
      rw [g4, write_go h1]; simp
    · show (wrs (D.write p.1 p.2) l).limit = _
      rw [g5, hlim, List.length_cons]
      by_cases h0 : D.limit = -1
      · rw [if_pos h0, h0]; rfl
      · rw [if_neg h0]
        have : (0 : Int) < D.limit := by omega
        rw [if_pos this, if_neg (by omega)]
        omega
theorem wrs_stop : ∀ (l : List (Nat × By)) {D : Dk}, D.dead = false → 0 < D.limit → D.limit ≤ l.length → (wrs D l).dead = true ∧ (wrs D l).lasts = D.lasts ∧ (wrs D l).cache = D.cache ++ l.take D.limit.toNat ∧ (wrs D l).now.length = D.now.length
  | [], D, h1, h2, h3 => by simp at h3; omega
  | p :: l, D, h1, h2, h3 => by
    simp only [List.length_cons, Int.natCast_add] at h3
    by_cases hq : D.limit = 1
    · have hd : (D.write p.1 p.2).dead = true := by
        rw [write_go h1, hq]; rfl
      show (wrs (D.write p.1 p.2) l).dead = true ∧ (wrs (D.write p.1 p.2) l).lasts = _ ∧ (wrs (D.write p.1 p.2) l).cache = _ ∧ (wrs (D.write p.1 p.2) l).now.length = _
      rw [wrs_dead l hd]
      refine ⟨hd, by rw [write_go h1], ?_, by rw [write_go h1]; simp⟩
      rw [write_go h1, hq]; rfl
    · have hd : (D.write p.1 p.2).dead = false := by
        rw [write_go h1]
        simp only [decide_eq_false_iff_not]
        split <;> omega
      have hlim : (D.write p.1 p.2).limit = D.limit - 1 := by rw [write_go h1]; simp only; rw [if_pos h2]
      obtain ⟨g1, g2, g3, g4⟩ := wrs_stop l hd (by rw [hlim]; omega) (by rw [hlim]; omega)
      refine ⟨g1, ?_, ?_, ?_⟩
      · show (wrs (D.write p.1 p.2) l).lasts = _
        rw [g2, write_go h1]
      · show (wrs (D.write p.1 p.2) l).cache = _
        rw [g3, hlim, write_go h1]
        obtain ⟨k, hk⟩ : ∃ k : Nat, D.limit.toNat = k + 1 := ⟨D.limit.toNat - 1, by omega⟩
        rw [hk, show (D.limit - 1).toNat = k by omega]
        simp
      · show (wrs (D.write p.1 p.2) l).now.length = _
        rw [g4, write_go h1]; simp

theorem setAll_get : ∀ (l : List (Nat × By)) (L : List By) (j : Nat), (∀ p ∈ l, p.1 ≠ j) → (setAll L l)[j]? = L[j]?
  | [], L, j, _ => rfl
  | p :: l, L, j, h => by
    show (setAll (L.set p.1 p.2) l)[j]? = _
    rw [setAll_get l _ j (fun q hq => h q (by simp [hq])), List.getElem?_set_ne (h p (by simp))]
theorem setAll_const {b : By} : ∀ (l : List (Nat × By)) (L : List By) (j : Nat), (∀ p ∈ l, p.2 = b) → (∃ p ∈ l, p.1 = j) → j < L.length → (setAll L l)[j]? = some b
  | [], _, _, _, h, _ => by obtain ⟨p, hp, _⟩ := h; cases hp
  | p :: l, L, j, hb, h, hj => by
    show (setAll (L.set p.1 p.2) l)[j]? = _
    by_cases hl : ∃ q ∈ l, q.1 = j
    · exact setAll_const l _ j (fun q hq => hb q (by simp [hq])) hl (by simpa using hj)
    · have hp : p.1 = j := by
        obtain ⟨q, hq, e⟩ := h
        rcases List.mem_cons.1 hq with rfl | hq
        · exact e
        · exact absurd ⟨q, hq, e⟩ hl
      rw [setAll_get l _ j (fun q hq e => hl ⟨q, hq, e⟩), hp, List.getElem?_set_self hj, hb p (by simp)]

/-- Where a crash looks, there stands what lasted, or a write that waited. -/
theorem crashK_at (D : Dk) (ps : List Bool) (j : Nat) : ∀ k, k ≤ D.cache.length → (crashK D ps k)[j]? = D.lasts[j]? ∨ ∃ p ∈ D.cache, p.1 = j ∧ ((crashK D ps k)[j]? = some p.2 ∨ D.lasts.length ≤ j)
  | 0, _ => Or.inl rfl
  | k + 1, h => by
    simp only [crashK]
    split
    · have hp : D.cache.getD k (0, []) ∈ D.cache := by
        rw [List.getD_eq_getElem?_getD, List.getElem?_eq_getElem (by omega)]; exact List.getElem_mem _
      by_cases hj : (D.cache.getD k (0, [])).1 = j
      · refine Or.inr ⟨_, hp, hj, ?_⟩
        by_cases hlt : j < D.lasts.length
        · left; rw [hj, List.getElem?_set_self (by rw [crashK_len]; exact hlt)]
        · right; omega
      · rw [List.getElem?_set_ne hj]
        exact crashK_at D ps j k (by omega)
    · exact crashK_at D ps j k (by omega)
theorem crash_at (D : Dk) (ps : List Bool) (j : Nat) (hj : j < D.lasts.length) : (D.crash ps).now[j]? = D.lasts[j]? ∨ ∃ p ∈ D.cache, p.1 = j ∧ (D.crash ps).now[j]? = some p.2 := by
  rcases crashK_at D ps j D.cache.length (Nat.le_refl _) with h | ⟨p, h1, h2, h3⟩
  · exact Or.inl h
  · rcases h3 with h3 | h3
    · exact Or.inr ⟨p, h1, h2, h3⟩
    · omega

/-- The numbers of the law's sectors. -/
def nums (n : Nat) : List Nat := (List.range n).map fun i => 48 + 3 * i
def wts (n : Nat) (b : By) : List (Nat × By) := (nums n).map fun i => (i, b)
theorem nums_at {n k : Nat} (h : k < n) : (nums n)[k]? = some (48 + 3 * k) := by simp [nums, h]
theorem nums_mem {n j : Nat} : j ∈ nums n ↔ ∃ i, i < n ∧ j = 48 + 3 * i := by
  simp only [nums, List.mem_map, List.mem_range]
  exact ⟨fun ⟨i, h1, h2⟩ => ⟨i, h1, h2.symm⟩, fun ⟨i, h1, h2⟩ => ⟨i, h1, h2.symm⟩⟩
theorem nums_len (n : Nat) : (nums n).length = n := by simp [nums]
theorem insN_le {a : Nat} : ∀ {l : List Nat}, (∀ b ∈ l, a ≤ b) → insN a l = a :: l
  | [], _ => rfl
  | b :: l, h => by simp only [insN]; rw [if_pos (h b (by simp))]
theorem sortN_of : ∀ {l : List Nat}, l.Pairwise (· < ·) → sortN l = l
  | [], _ => rfl
  | a :: l, h => by
    rw [List.pairwise_cons] at h
    simp only [sortN, sortN_of h.2]
    exact insN_le (fun b hb => Nat.le_of_lt (h.1 b hb))
theorem nums_sorted (n : Nat) : sortN (nums n) = nums n := by
  refine sortN_of ?_
  unfold nums
  rw [List.pairwise_map]
  exact List.pairwise_lt_range.imp (fun h => by omega)
theorem wts_keys (n : Nat) (b : By) : (wts n b).map (·.1) = nums n := by simp [wts, List.map_map, Function.comp_def]
theorem getW_wts {b : By} : ∀ {l : List Nat} {i : Nat}, i ∈ l → getW i (l.map fun i => (i, b)) = some b
  | [], _, h => by cases h
  | a :: l, i, h => by
    simp only [List.map_cons, getW]
    by_cases hi : a = i
    · rw [if_pos hi]
    · rw [if_neg hi]
      rcases List.mem_cons.1 h with e | h
      · exact absurd e.symm hi
      · exact getW_wts h
theorem conts_wts (n : Nat) (b : By) : conts (wts n b) (nums n) = List.replicate n b := by
  apply List.ext_getElem?
  intro k
  by_cases hk : k < n
  · rw [List.getElem?_replicate, if_pos hk, conts, List.getElem?_map, nums_at hk]
    show some ((getW (48 + 3 * k) (wts n b)).getD []) = _
    rw [wts, getW_wts (nums_mem.2 ⟨k, hk, rfl⟩)]; rfl
  · rw [List.getElem?_replicate, if_neg hk, List.getElem?_eq_none (by simp [conts, nums_len]; omega)]
theorem wts_put {n : Nat} {b : By} : putW (48 + 3 * n) b (wts n b) = wts (n + 1) b := by
  rw [putW_new (getW_none_of (fun p hp => ?_))]
  · simp [wts, nums, List.range_succ]
  · simp only [wts, List.mem_map] at hp
    obtain ⟨i, hi, rfl⟩ := hp
    obtain ⟨j, hj, rfl⟩ := nums_mem.1 hi
    simp only; omega
/-- The log's own sectors. -/
def lgs (n : Nat) (b : By) : List (Nat × By) := (List.range n).map fun k => (1 + k, b)
theorem wrL_wrs : ∀ (r : List By) (D : Dk) (k : Nat), wrL D k r = wrs D ((List.range' k r.length).zip r)
  | [], _, _ => rfl
  | b :: r, D, k => by
    show wrL (D.write k b) (k + 1) r = _
    rw [wrL_wrs r]; rfl
theorem wrL_rep (D : Dk) (n : Nat) (b : By) : wrL D 1 (List.replicate n b) = wrs D (lgs n b) := by
  rw [wrL_wrs]
  congr 1
  apply List.ext_getElem?
  intro k
  by_cases hk : k < n
  · rw [(List.getElem?_zip_eq_some (z := (1 + k, b))).2 ⟨by simp [List.getElem?_range', hk], by simp [hk]⟩]
    simp [lgs, hk]
  · rw [List.getElem?_eq_none (by simp; omega), List.getElem?_eq_none (by simp [lgs]; omega)]
theorem instL_wrs {b : By} : ∀ (r : List Nat) (D : Dk) (k : Nat), (∀ i ∈ r, 48 ≤ i) → k + r.length ≤ 48 → (D.dead = true ∨ ∀ j, j < r.length → D.now.getD (k + j) [] = b) → instL D k r = wrs D (r.map fun i => (i, b))
  | [], _, _, _, _, _ => rfl
  | i :: r, D, k, hi, hk, h => by
    show instL (D.write i (D.now.getD k [])) (k + 1) r = wrs (D.write i b) (r.map fun i => (i, b))
    have hi48 := hi i (by simp)
    simp only [List.length_cons] at hk
    have e : D.write i (D.now.getD k []) = D.write i b := by
      rcases h with h | h
      · rw [write_dead h, write_dead h]
      · have := h 0 (by simp)
        rw [Nat.add_zero] at this; rw [this]
    rw [e]
    refine instL_wrs r _ (k + 1) (fun j hj => hi j (by simp [hj])) (by omega) ?_
    rcases h with h | h
    · left; rw [write_dead h]; exact h
    · cases hd : D.dead with
      | true => left; rw [write_dead hd]; exact hd
      | false =>
        right
        intro j hj
        have := h (j + 1) (by simp; omega)
        rw [write_go hd]
        simp only
        rw [List.getD_eq_getElem?_getD, List.getElem?_set_ne (by omega), ← List.getD_eq_getElem?_getD, show k + 1 + j = k + (j + 1) by omega]
        exact this
end Go.Xec
