/- Sectors and disks as they lie in memory. -/
import Derived.Test.YtkmabheddbbndaaDoorXTf
namespace Go.Xec
open Go.Proofs
noncomputable abbrev TC : Callee := topA Tryd.prog extWb
abbrev By := List UInt8
def cellsB (bs : By) : List AV := bs.map fun b => .int .u8 b.toNat
/-- A block whose first 512 cells are a sector's bytes. -/
structure Sec (h : T ABlk) (β c : Nat) (bs : By) : Prop where
  row : ∃ r, Row h β (cellsB bs ++ r) ∧ r.length = c - 512
  len : bs.length = 512
  cap : 512 ≤ c
def secV (β c : Nat) : AV := .sl β 0 512 c 1
def SecV (h : T ABlk) (v : AV) (bs : By) : Prop := ∃ β c, v = secV β c ∧ Sec h β c bs
def SecVs (h : T ABlk) (vs : List AV) (bss : List By) : Prop := vs.length = bss.length ∧ ∀ (i : Nat) v b, vs[i]? = some v → bss[i]? = some b → SecV h v b

section
variable {h h' : T ABlk} {β m : Nat} {bs b : By} {v : AV} {vs ws : List AV} {bss css : List By}
theorem cellsB_len : (cellsB bs).length = bs.length := by simp [cellsB]
theorem cellsB_inj : ∀ {a b : By}, cellsB a = cellsB b → a = b
  | [], [], _ => rfl
  | [], y :: b, h => by simp [cellsB] at h
  | x :: a, [], h => by simp [cellsB] at h
  | x :: a, y :: b, h => by
    simp only [cellsB, List.map_cons, List.cons.injEq, AV.int.injEq, true_and] at h
    have hxy : x = y := UInt8.toNat_inj.1 (by have := h.1; omega)
    rw [hxy, cellsB_inj (a := a) (b := b) h.2]
theorem Sec.of_eq {c : Nat} (s : Sec h β c bs) (e : h'.get β = h.get β) : Sec h' β c bs := by
  obtain ⟨r, R, hr⟩ := s.row
  exact ⟨⟨r, R.of_eq e, hr⟩, s.len, s.cap⟩
theorem SecV.of_vec (V : Vec h 1 v (cellsB bs)) (hl : bs.length = 512) : SecV h v bs := by
  obtain ⟨_, e⟩ | ⟨β, n, rfl, e1, R⟩ := V
  · have := congrArg List.length e
    rw [cellsB_len, hl] at this; cases this
  · rw [cellsB_len, hl] at e1
    have hn : n = 512 := by omega
    subst hn
    exact ⟨β, 512, rfl, ⟨[], by simpa using R, rfl⟩, hl, Nat.le_refl _⟩
theorem SecVs.get {i : Nat} (S : SecVs h vs bss) (hi : bss[i]? = some b) : ∃ v, vs[i]? = some v ∧ SecV h v b := by
  have hlt := (List.getElem?_eq_some_iff.1 hi).1
  have hl : i < vs.length := by rw [S.1]; exact hlt
  exact ⟨vs[i], List.getElem?_eq_getElem hl, S.2 i _ b (List.getElem?_eq_getElem hl) hi⟩
theorem SecVs.nil : SecVs h [] [] := ⟨rfl, fun i v b hv => by simp at hv⟩
theorem SecVs.set {i : Nat} (S : SecVs h vs bss) (s : SecV h v b) : SecVs h (vs.set i v) (bss.set i b) := by
  refine ⟨by simp [S.1], fun j u c hu hc => ?_⟩
  rw [List.getElem?_set] at hu hc
  by_cases hij : i = j
  · subst hij
    simp only [if_true] at hu hc
    split at hu
    · split at hc
      · injection hu with hu; injection hc with hc; subst hu; subst hc; exact s
      · cases hc
    · cases hu
  · rw [if_neg hij] at hu hc
    exact S.2 j u c hu hc
theorem SecVs.append (S : SecVs h vs bss) (S' : SecVs h ws css) : SecVs h (vs ++ ws) (bss ++ css) := by
  refine ⟨by simp [S.1, S'.1], fun j u c hu hc => ?_⟩
  by_cases hj : j < vs.length
  · rw [List.getElem?_append_left hj] at hu
    rw [List.getElem?_append_left (by rw [← S.1]; exact hj)] at hc
    exact S.2 j u c hu hc
  · rw [List.getElem?_append_right (by omega)] at hu
    rw [List.getElem?_append_right (by rw [← S.1]; omega), ← S.1] at hc
    exact S'.2 _ u c hu hc
theorem SecVs.one (s : SecV h v b) : SecVs h [v] [b] := by
  refine ⟨rfl, fun i u c hu hc => ?_⟩
  cases i with
  | zero => simp at hu hc; subst hu; subst hc; exact s
  | succ i => simp at hu
theorem SecVs.mono (S : SecVs h vs bss) (hm : ∀ v b, SecV h v b → SecV h' v b) : SecVs h' vs bss := ⟨S.1, fun i v b hv hb => hm v b (S.2 i v b hv hb)⟩
theorem SecVs.one_cell (S : SecVs h vs bss) : vs.all AV.one = true := by
  rw [List.all_eq_true]
  intro v hv
  obtain ⟨i, hi, rfl⟩ := List.getElem_of_mem hv
  have hl : i < bss.length := by rw [← S.1]; exact hi
  obtain ⟨β, c, e, _⟩ := S.2 i _ bss[i] (List.getElem?_eq_getElem hi) (List.getElem?_eq_getElem hl)
  rw [e]; rfl
end

structure Dk where
  lasts : List By
  now : List By
  cache : List (Nat × By)
  writes : Nat
  limit : Int
  dead : Bool

def flat2 (cc : List (Nat × AV)) : List AV := cc.flatMap fun p => [.int .i64 p.1, p.2]
def CacV (h : T ABlk) (cs : List AV) (cache : List (Nat × By)) : Prop := ∃ cc : List (Nat × AV), cs = flat2 cc ∧ cc.map (·.1) = cache.map (·.1) ∧ SecVs h (cc.map (·.2)) (cache.map (·.2))

structure DiskAt (h : T ABlk) (d L N : Nat) (cv : AV) (D : Dk) : Prop where
  row : Row h d [.sl L 0 D.lasts.length D.lasts.length 1, .sl N 0 D.now.length D.now.length 1, cv, .int .i64 (D.writes : Int), .int .i64 D.limit, .bool D.dead]
  lasts : ∃ vs, Row h L vs ∧ SecVs h vs D.lasts
  now : ∃ vs, Row h N vs ∧ SecVs h vs D.now
  cac : ∃ cs, Vec h 2 cv cs ∧ CacV h cs D.cache
  cne : cv = .nils ∨ D.cache ≠ []
  dL : d ≠ L
  dN : d ≠ N
  LN : L ≠ N
  cd : cv.base ≠ some d
  cL : cv.base ≠ some L
  cN : cv.base ≠ some N
  len : D.lasts.length = D.now.length
  pos : 0 < D.now.length
  big : D.now.length ≤ 4096
  idx : ∀ p ∈ D.cache, p.1 < D.now.length
  few : D.cache.length ≤ D.writes
  lim : -1 ≤ D.limit ∧ D.limit < 4611686018427387904

def Ow (d L N : Nat) (cv : AV) : Nat → Prop := fun γ => γ = d ∨ γ = L ∨ γ = N ∨ cv.base = some γ
/-- A disk in memory, and what of memory is its own. -/
def Disk (h : T ABlk) (d : Nat) (D : Dk) (own : Nat → Prop) : Prop := ∃ L N cv, DiskAt h d L N cv D ∧ own = Ow d L N cv

section
variable {h h' : T ABlk} {d L N β m m' : Nat} {cv v : AV} {D : Dk} {own own' : Nat → Prop} {bs b : By}
theorem DiskAt.sec {c : Nat} (A : DiskAt h d L N cv D) (s : Sec h β c bs) : ¬ Ow d L N cv β := by
  obtain ⟨r, hR, _⟩ := s.row
  have hk : ∀ v, (cellsB bs ++ r)[0]? = some v → ∃ n, v = .int .u8 n := by
    intro v hv
    rw [List.getElem?_append_left (by rw [cellsB_len, s.len]; decide)] at hv
    simp only [cellsB, List.getElem?_map, Option.map_eq_some_iff] at hv
    obtain ⟨a, _, rfl⟩ := hv
    exact ⟨_, rfl⟩
  have key : ∀ (vs : List AV) (bss : List By), Row h β vs → SecVs h vs bss → 0 < bss.length → False := by
    intro vs bss R S hp
    have e := hR.uniq R
    obtain ⟨v, hv, γ, c, rfl, _⟩ := S.get (i := 0) (b := bss[0]) (List.getElem?_eq_getElem hp)
    rw [← e] at hv
    obtain ⟨n, hn⟩ := hk _ hv
    cases hn
  rintro (rfl | rfl | rfl | hc)
  · have e := congrArg List.length (hR.uniq A.row)
    rw [List.length_append, cellsB_len, s.len] at e
    simp at e
    omega
  · obtain ⟨vs, R, S⟩ := A.lasts
    exact key vs _ R S (by rw [A.len]; exact A.pos)
  · obtain ⟨vs, R, S⟩ := A.now
    exact key vs _ R S A.pos
  · obtain ⟨cs, V, cc, rfl, e1, S⟩ := A.cac
    obtain ⟨rfl, _⟩ | ⟨γ, n, rfl, e2, R⟩ := V
    · cases hc
    · injection hc with hc; subst hc
      obtain hn | hn := A.cne
      · cases hn
      · cases cc with
        | nil =>
          have : D.cache = [] := by
            cases hD : D.cache with
            | nil => rfl
            | cons p l => rw [hD] at e1; cases e1
          exact hn this
        | cons p l =>
          have e := hR.uniq R
          obtain ⟨n, hn⟩ := hk (.int .i64 p.1) (by rw [e]; rfl)
          cases hn
theorem Disk.sec {c : Nat} (A : Disk h d D own) (s : Sec h β c bs) : ¬ own β := by
  obtain ⟨L, N, cv, A, rfl⟩ := A; exact A.sec s
theorem SecV.stp (s : SecV h v b) (A : Disk h d D own) (B : Bd h m) (t : Stp own h m own' h' m') : SecV h' v b := by
  obtain ⟨β, c, rfl, s⟩ := s
  obtain ⟨r, R, _⟩ := s.row
  exact ⟨β, c, rfl, s.of_eq (t.same β (B.row R) (A.sec s))⟩
theorem SecV.keep (s : SecV h v b) (B : Bd h m) (hs : ∀ γ, γ < m → h'.get γ = h.get γ) : SecV h' v b := by
  obtain ⟨β, c, rfl, s⟩ := s
  obtain ⟨r, R, _⟩ := s.row
  exact ⟨β, c, rfl, s.of_eq (hs β (B.row R))⟩
end
end Go.Xec
