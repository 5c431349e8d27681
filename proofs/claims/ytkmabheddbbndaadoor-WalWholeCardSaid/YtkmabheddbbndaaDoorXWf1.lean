/- Logs as they lie in memory; home, Waiting, Put, Read, by contract. -/
import Derived.Test.YtkmabheddbbndaaDoorXWe2
namespace Go.Xec
open Go.Proofs
/-- What a map of sectors holds. -/
def WV (h : T ABlk) (kvs : List (Int × AV)) (ws : List (Nat × By)) : Prop := kvs.map (·.1) = ws.map (fun p => (p.1 : Int)) ∧ SecVs h (kvs.map (·.2)) (ws.map (·.2))
structure Lg where
  disk : Dk
  waits : List (Nat × By)
  mark : List (Nat × By)
structure LogAt (h : T ABlk) (l W M d : Nat) (G : Lg) (od : Nat → Prop) : Prop where
  row : Row h l [.ptr d 0, .mp W, .mp M]
  waits : ∃ kvs, MapI h W kvs ∧ WV h kvs G.waits
  mark : ∃ kvs, MapI h M kvs ∧ WV h kvs G.mark
  disk : Disk h d G.disk od
  nl : ¬ od l
  nW : ¬ od W
  nM : ¬ od M
  WM : W ≠ M
  few : G.waits.length ≤ 40
def Log (h : T ABlk) (l d : Nat) (G : Lg) (own : Nat → Prop) : Prop := ∃ W M od, LogAt h l W M d G od ∧ own = fun γ => γ = l ∨ γ = W ∨ γ = M ∨ od γ

def getW (k : Nat) : List (Nat × By) → Option By
  | [] => none
  | p :: l => if p.1 = k then some p.2 else getW k l
def putW (k : Nat) (b : By) : List (Nat × By) → List (Nat × By)
  | [] => [(k, b)]
  | p :: l => if p.1 = k then (k, b) :: l else p :: putW k b l

section
variable {h h' hf : T ABlk} {l d W M β m m' : Nat} {v : AV} {G : Lg} {own own' od : Nat → Prop} {bs b : By} {kvs : List (Int × AV)} {ws : List (Nat × By)}
theorem WV.len (X : WV h kvs ws) : kvs.length = ws.length := by have := congrArg List.length X.1; simpa using this
theorem WV.mono (X : WV h kvs ws) (sm : ∀ v b, SecV h v b → SecV h' v b) : WV h' kvs ws := ⟨X.1, X.2.mono sm⟩
theorem WV.nil : WV h [] [] := ⟨rfl, SecVs.nil⟩
theorem WV.tail {p : Int × AV} {q : Nat × By} (X : WV h (p :: kvs) (q :: ws)) : p.1 = (q.1 : Int) ∧ SecV h p.2 q.2 ∧ WV h kvs ws := by
  obtain ⟨e, S⟩ := X
  simp only [List.map_cons, List.cons.injEq] at e
  refine ⟨e.1, S.2 0 _ _ rfl rfl, e.2, by have := S.1; simpa using this, fun i u c hu hc => S.2 (i + 1) u c (by simpa using hu) (by simpa using hc)⟩
theorem WV.cons {p : Int × AV} {q : Nat × By} (e : p.1 = (q.1 : Int)) (s : SecV h p.2 q.2) (X : WV h kvs ws) : WV h (p :: kvs) (q :: ws) := by
  refine ⟨by simp [e, X.1], by have := X.2.1; simpa using this, fun i u c hu hc => ?_⟩
  cases i with
  | zero => simp at hu hc; subst hu; subst hc; exact s
  | succ i => exact X.2.2 i u c (by simpa using hu) (by simpa using hc)
theorem WV.get (k : Nat) : ∀ {kvs : List (Int × AV)} {ws : List (Nat × By)}, WV h kvs ws → (getI (k : Int) kvs = none ∧ getW k ws = none) ∨ ∃ v b, getI (k : Int) kvs = some v ∧ getW k ws = some b ∧ SecV h v b
  | [], [], _ => Or.inl ⟨rfl, rfl⟩
  | [], q :: ws, X => by have := X.1; simp at this
  | p :: kvs, [], X => by have := X.1; simp at this
  | p :: kvs, q :: ws, X => by
    obtain ⟨e, s, Y⟩ := X.tail
    simp only [getI, getW]
    by_cases hk : q.1 = k
    · rw [if_pos (by rw [e, hk]), if_pos hk]
      exact Or.inr ⟨_, _, rfl, rfl, s⟩
    · rw [if_neg (by rw [e]; omega), if_neg hk]
      exact WV.get k Y
theorem WV.put {k : Nat} (s : SecV h v b) : ∀ {kvs : List (Int × AV)} {ws : List (Nat × By)}, WV h kvs ws → WV h (putI (k : Int) v kvs) (putW k b ws)
  | [], [], _ => WV.cons rfl s WV.nil
  | [], q :: ws, X => by have := X.1; simp at this
  | p :: kvs, [], X => by have := X.1; simp at this
  | p :: kvs, q :: ws, X => by
    obtain ⟨e, s', Y⟩ := X.tail
    simp only [putI, putW]
    by_cases hk : q.1 = k
    · rw [if_pos (by rw [e, hk]), if_pos hk]
      exact WV.cons rfl s Y
    · rw [if_neg (by rw [e]; omega), if_neg hk]
      exact WV.cons e s' (WV.put s Y)

theorem row_ne_map {l : List AV} (R : Row h β l) (X : MapI h W kvs) : β ≠ W := by
  rintro rfl
  obtain ⟨cs, h1, _⟩ := R
  obtain ⟨es, c, h2, _⟩ := X
  rw [h1] at h2; cases h2
theorem Log.sec {c : Nat} (A : Log h l d G own) (s : Sec h β c bs) : ¬ own β := by
  obtain ⟨W, M, od, A, rfl⟩ := A
  obtain ⟨r, R, _⟩ := s.row
  rintro (rfl | rfl | rfl | e)
  · have e := congrArg List.length (R.uniq A.row)
    rw [List.length_append, cellsB_len, s.len] at e
    simp at e; omega
  · obtain ⟨kvs, X, _⟩ := A.waits; exact row_ne_map R X rfl
  · obtain ⟨kvs, X, _⟩ := A.mark; exact row_ne_map R X rfl
  · exact A.disk.sec s e
theorem SecV.stpL (s : SecV h v b) (A : Log h l d G own) (B : Bd h m) (t : Stp own h m own' h' m') : SecV h' v b := by
  obtain ⟨β, c, rfl, s⟩ := s
  obtain ⟨r, R, _⟩ := s.row
  exact ⟨β, c, rfl, s.of_eq (t.same β (B.row R) (A.sec s))⟩
theorem LogAt.keep (A : LogAt h l W M d G od) (B : Bd h m) (hs : ∀ γ, γ < m → h'.get γ = h.get γ) : LogAt h' l W M d G od := by
  have sm : ∀ v b, SecV h v b → SecV h' v b := fun v b s => s.keep B hs
  obtain ⟨kw, X, Xw⟩ := A.waits
  obtain ⟨km, Y, Yw⟩ := A.mark
  exact ⟨A.row.of_eq (hs _ (B.row A.row)), ⟨kw, X.of_eq (hs _ (B.mapI X)), Xw.mono sm⟩, ⟨km, Y.of_eq (hs _ (B.mapI Y)), Yw.mono sm⟩, A.disk.keep B hs, A.nl, A.nW, A.nM, A.WM, A.few⟩
theorem Log.keep (A : Log h l d G own) (B : Bd h m) (hs : ∀ γ, γ < m → h'.get γ = h.get γ) : Log h' l d G own := by
  obtain ⟨W, M, od, A, rfl⟩ := A
  exact ⟨W, M, od, A.keep B hs, rfl⟩

theorem w_home (A : Log h l d G own) {i : Int} : ∃ v h' m', TC 33 [.ptr l 0, .int .i64 i] ⟨h, m⟩ = some (v, ⟨h', m'⟩) ∧ (v = .bool (decide (48 ≤ i ∧ i < G.disk.now.length)) ∧ h = h' ∧ m ≤ m') := by
  obtain ⟨W, M, od, A, rfl⟩ := A
  have R := A.row
  refine top_fn Tryd.func33 (by rfl) rfl rfl (by rfl) ?_
  by_cases h48 : 48 ≤ i
  · skip
    refine Ek.seq ?_
    refine Ek.reg ?_
    refine SeqR.go rfl rfl rfl (st_pure rfl rfl) rfl ?_
    refine SeqR.nil ?_
    refine Ek.seq ?_
    refine Ek.reg ?_
    refine SeqR.go rfl rfl rfl (st_pure rfl rfl) rfl ?_
    refine SeqR.go rfl rfl rfl (st_nenil tu27) rfl ?_
    refine SeqR.go rfl rfl rfl (st_pure rfl rfl) rfl ?_
    refine SeqR.go rfl rfl rfl (st_pure rfl rfl) rfl ?_
    refine SeqR.go rfl rfl rfl (st_pure rfl rfl) rfl ?_
    refine SeqR.go rfl rfl rfl (st_pickT rfl) rfl ?_
    refine SeqR.go rfl rfl rfl (st_pure rfl rfl) rfl ?_
    refine SeqR.go rfl (by simp [h48]) rfl (st_pure rfl rfl) rfl ?_
    refine SeqR.go rfl (by simp [h48]) rfl (st_pure rfl rfl) rfl ?_
    refine SeqR.go rfl (by simp [h48]) rfl (st_pure rfl rfl) rfl ?_
    refine SeqR.go rfl (by simp [h48]) rfl (fld tF67_0) rfl ?_
    refine SeqR.go rfl (by simp [h48]) rfl (ld ta25) rfl ?_
    refine SeqR.cal rfl (by simp [h48]) rfl rfl rfl (w_len A.disk) ?_
    rintro _ _ m1 ⟨rfl, rfl, hm1⟩
    refine ⟨_, rfl, ?_⟩
    refine SeqR.go rfl (by simp [h48]) rfl (st_pure rfl rfl) rfl ?_
    refine SeqR.go rfl rfl rfl (st_pickT (by simp [h48])) rfl ?_
    refine SeqR.go rfl rfl rfl (st_pure rfl rfl) rfl ?_
    refine SeqR.nil ?_
    exact Ek.ret ⟨Or.inr rfl, _, rfl, _, _, rfl, by simp [h48], rfl, by omega⟩
  · skip
    refine Ek.seq ?_
    refine Ek.reg ?_
    refine SeqR.go rfl rfl rfl (st_pure rfl rfl) rfl ?_
    refine SeqR.nil ?_
    refine Ek.seq ?_
    refine Ek.reg ?_
    refine SeqR.go rfl rfl rfl (st_pure rfl rfl) rfl ?_
    refine SeqR.go rfl rfl rfl (st_nenil tu27) rfl ?_
    refine SeqR.go rfl rfl rfl (st_pure rfl rfl) rfl ?_
    refine SeqR.go rfl rfl rfl (st_pure rfl rfl) rfl ?_
    refine SeqR.go rfl rfl rfl (st_pure rfl rfl) rfl ?_
    refine SeqR.go rfl rfl rfl (st_pickT rfl) rfl ?_
    refine SeqR.go rfl rfl rfl (st_pure rfl rfl) rfl ?_
    refine SeqR.hop rfl (by simp [h48]) rfl ?_
    refine SeqR.hop rfl (by simp [h48]) rfl ?_
    refine SeqR.hop rfl (by simp [h48]) rfl ?_
    refine SeqR.hop rfl (by simp [h48]) rfl ?_
    refine SeqR.hop rfl (by simp [h48]) rfl ?_
    refine SeqR.hop rfl (by simp [h48]) rfl ?_
    refine SeqR.hop rfl (by simp [h48]) rfl ?_
    refine SeqR.go rfl rfl rfl (st_pickF (by simp [h48])) rfl ?_
    refine SeqR.go rfl rfl rfl (st_pure rfl rfl) rfl ?_
    refine SeqR.nil ?_
    exact Ek.ret ⟨Or.inr rfl, _, rfl, _, _, rfl, by simp [h48], rfl, by omega⟩

theorem w_waiting (A : Log h l d G own) : ∃ v h' m', TC 20 [.ptr l 0] ⟨h, m⟩ = some (v, ⟨h', m'⟩) ∧ (v = .int .i64 G.waits.length ∧ h = h' ∧ m ≤ m') := by
  obtain ⟨W, M, od, A, rfl⟩ := A
  have R := A.row
  obtain ⟨kw, X, Xw⟩ := A.waits
  refine top_fn Tryd.func20 (by rfl) rfl rfl (by rfl) ?_
  refine Ek.seq ?_
  refine Ek.reg ?_
  refine SeqR.go rfl rfl rfl (st_pure rfl rfl) rfl ?_
  refine SeqR.nil ?_
  refine Ek.seq ?_
  refine Ek.seq ?_
  refine Ek.reg ?_
  refine SeqR.go rfl rfl rfl (st_pure rfl rfl) rfl ?_
  refine SeqR.go rfl rfl rfl (st_eqnil tu27) rfl ?_
  refine SeqR.nil ?_
  refine Ek.condF rfl rfl ?_
  refine Ek.skip ?_
  refine Ek.seq ?_
  refine Ek.reg ?_
  refine SeqR.go rfl rfl rfl (st_pure rfl rfl) rfl ?_
  refine SeqR.go rfl rfl rfl (st_pure rfl rfl) rfl ?_
  refine SeqR.go rfl rfl rfl (fld tF67_1) rfl ?_
  refine SeqR.go rfl rfl rfl (ld ta65) rfl ?_
  refine SeqR.go rfl rfl rfl (st_lenmap tu65 X) rfl ?_
  refine SeqR.go rfl rfl rfl (st_pure rfl rfl) rfl ?_
  refine SeqR.nil ?_
  exact Ek.ret ⟨Or.inr rfl, _, rfl, _, _, rfl, by rw [Xw.len], rfl, by omega⟩

def Lg.put (G : Lg) (i : Nat) (b : By) : Lg := { G with waits := putW i b G.waits }
theorem rd_ld {P : Program} {t k : Nat} {x : Operand} {l : List AV} {v : AV} (ha : aggT P t = some false) (R : Row h β l) (hv : l[k]? = some v) : readA P ⟨h, m⟩ (.load t x) [.ptr β k] = some v := by
  obtain ⟨cs, h1, h2⟩ := R
  have : Nat.blt k l.length = true := by simpa using (List.getElem?_eq_some_iff.1 hv).1
  simp only [readA, loadA, ha, h1, this, h2 k v hv]
theorem putW_none {k : Nat} {b : By} : ∀ {ws : List (Nat × By)}, getW k ws = none → (putW k b ws).length = ws.length + 1
  | [], _ => rfl
  | p :: l, h => by
    simp only [getW] at h
    split at h
    · cases h
    · rename_i hk
      simp only [putW, if_neg hk, List.length_cons, putW_none h]
theorem putW_some {k : Nat} {b : By} : ∀ {ws : List (Nat × By)}, (getW k ws).isSome = true → (putW k b ws).length = ws.length
  | [], h => by cases h
  | p :: l, h => by
    simp only [getW] at h
    split at h
    · rename_i hk; simp only [putW, if_pos hk, List.length_cons]
    · rename_i hk
      simp only [putW, if_neg hk, List.length_cons, putW_some h]
theorem tv33 : zeroT Tryd.prog 33 = some .nils := by kernel_rfl
theorem LogAt.upW (A : LogAt h l W M d G od) (B : Bd h m) (s : SecV h v b) {i : Nat} {kw : List (Int × AV)} (X : MapI h W kw) (Xw : WV h kw G.waits) (hf : T ABlk) (Xf : MapI hf W (putI (i : Int) v kw)) (hfe : ∀ γ, γ ≠ W → hf.get γ = h.get γ) (hc : (putW i b G.waits).length ≤ 40) : LogAt hf l W M d (G.put i b) od := by
  have sm : ∀ v b, SecV h v b → SecV hf v b := fun v b s => by
    obtain ⟨β, c, rfl, s⟩ := s
    obtain ⟨r, R, _⟩ := s.row
    exact ⟨β, c, rfl, s.of_eq (hfe β (row_ne_map R X))⟩
  obtain ⟨km, Y, Yw⟩ := A.mark
  have Ad := A.disk
  refine ⟨A.row.of_eq (hfe l (row_ne_map A.row X)), ⟨_, Xf, (Xw.mono sm).put (sm _ _ s)⟩, ⟨km, Y.of_eq (hfe M (Ne.symm A.WM)), Yw.mono sm⟩, ?_, A.nl, A.nW, A.nM, A.WM, hc⟩
  obtain ⟨L, N, cv, Q, rfl⟩ := Ad
  obtain ⟨vl, Rl, Sl⟩ := Q.lasts
  obtain ⟨vn, Rn, Sn⟩ := Q.now
  obtain ⟨cs, V, C⟩ := Q.cac
  have nW := A.nW
  exact ⟨L, N, cv, ⟨Q.row.of_eq (hfe d fun e => nW (Or.inl e.symm)), ⟨vl, Rl.of_eq (hfe L fun e => nW (Or.inr (Or.inl e.symm))), Sl.mono sm⟩, ⟨vn, Rn.of_eq (hfe N fun e => nW (Or.inr (Or.inr (Or.inl e.symm)))), Sn.mono sm⟩,
    ⟨cs, V.of_eq fun γ hγ => hfe γ fun e => nW (Or.inr (Or.inr (Or.inr (e ▸ hγ)))), C.mono sm⟩, Q.cne, Q.dL, Q.dN, Q.LN, Q.cd, Q.cL, Q.cN, Q.len, Q.pos, Q.big, Q.idx, Q.few, Q.lim⟩, rfl⟩

theorem w_putL (A : Log h l d G own) (B : Bd h m) (s : SecV h v bs) {i : Nat} (hi : 48 ≤ i) (hi2 : i < G.disk.now.length) (hroom : (getW i G.waits).isSome ∨ G.waits.length < 40) :
    ∃ v' h' m', TC 11 [.ptr l 0, .int .i64 (i : Int), v] ⟨h, m⟩ = some (v', ⟨h', m'⟩) ∧ (v' = .nili ∧ Log h' l d (G.put i bs) own ∧ Bd h' m' ∧ Stp own h m own h' m') := by
  have A0 := A
  obtain ⟨W, M, od, A, rfl⟩ := A
  have R := A.row
  have hlm := B.row R
  obtain ⟨kw, X, Xw⟩ := A.waits
  have hWm := B.mapI X
  have hkl := Xw.len
  have hfew := A.few
  have s0 := s
  obtain ⟨β, cp, rfl, s⟩ := s
  have hpl40 : (putW i bs G.waits).length ≤ 40 := by
    cases hg : getW i G.waits with
    | none => rw [putW_none hg]; rw [hg] at hroom; simp at hroom; omega
    | some b => rw [putW_some (by rw [hg]; rfl)]; exact hfew
  refine top_fn Tryd.func11 (by rfl) rfl rfl (by rfl) ?_
  obtain ⟨g1, g2⟩ | ⟨v0, b0, g1, g2, g3⟩ := Xw.get i
  · rw [g2] at hroom
    have hlt : G.waits.length < 40 := by simpa using hroom
    refine Ek.seq ?_
    refine Ek.reg ?_
    refine SeqR.go rfl rfl rfl (st_pure rfl rfl) rfl ?_
    refine SeqR.nil ?_
    refine Ek.seq ?_
    refine Ek.seq ?_
    refine Ek.reg ?_
    refine SeqR.go rfl rfl rfl (st_pure rfl rfl) rfl ?_
    refine SeqR.go rfl rfl rfl (st_pure rfl rfl) rfl ?_
    refine SeqR.cal rfl rfl rfl rfl rfl (w_home A0) ?_
    rintro _ _ m1 ⟨rfl, rfl, hm1⟩
    refine ⟨_, rfl, ?_⟩
    refine SeqR.go rfl rfl rfl (st_pure rfl rfl) rfl ?_
    refine SeqR.go rfl rfl rfl (st_pure rfl rfl) rfl ?_
    refine SeqR.go rfl (by simp; omega) rfl (st_pure rfl rfl) rfl ?_
    refine SeqR.go rfl (by simp; omega) rfl (st_len te33) rfl ?_
    refine SeqR.go rfl (by simp; omega) rfl (st_pure rfl rfl) rfl ?_
    refine SeqR.go rfl rfl rfl (st_pickF (by simp; omega)) rfl ?_
    refine SeqR.nil ?_
    refine Ek.condF rfl rfl ?_
    refine Ek.skip ?_
    refine Ek.seq ?_
    refine Ek.seq ?_
    refine Ek.reg ?_
    refine SeqR.go rfl rfl rfl (st_pure rfl rfl) rfl ?_
    refine SeqR.go rfl rfl rfl (st_pure rfl rfl) rfl ?_
    refine SeqR.go rfl rfl rfl (fld tF67_1) rfl ?_
    refine SeqR.go rfl rfl rfl (ld ta65) rfl ?_
    refine SeqR.go rfl rfl rfl (st_pure rfl rfl) rfl ?_
    refine SeqR.go rfl rfl rfl (st_lookup_no tm65 (tk3 _) tv33 X g1) rfl ?_
    refine SeqR.go rfl rfl rfl (st_pure rfl rfl) rfl ?_
    refine SeqR.go rfl rfl rfl (st_pure rfl rfl) rfl ?_
    refine SeqR.go rfl rfl rfl (st_pure rfl rfl) rfl ?_
    refine SeqR.go rfl rfl rfl (st_pure rfl rfl) rfl ?_
    refine SeqR.go rfl rfl rfl (st_pure rfl rfl) rfl ?_
    refine SeqR.nil ?_
    refine Ek.seq ?_
    refine Ek.reg ?_
    refine SeqR.go rfl rfl rfl (st_pure rfl rfl) rfl ?_
    refine SeqR.go rfl rfl rfl (st_pure rfl rfl) rfl ?_
    refine SeqR.go rfl rfl rfl (st_pure rfl rfl) rfl ?_
    refine SeqR.go rfl rfl rfl (st_pure rfl rfl) rfl ?_
    refine SeqR.go rfl rfl rfl (st_pure rfl rfl) rfl ?_
    refine SeqR.go rfl rfl rfl (fld tF67_1) rfl ?_
    refine SeqR.go rfl rfl rfl (ld ta65) rfl ?_
    refine SeqR.go rfl rfl rfl (st_lenmap tu65 X) rfl ?_
    refine SeqR.go rfl rfl rfl (st_pure rfl rfl) rfl ?_
    refine SeqR.go rfl rfl rfl (st_pickT rfl) rfl ?_
    refine SeqR.nil ?_
    refine Ek.condF rfl (by simp; omega) ?_
    refine Ek.skip ?_
    refine Ek.seq ?_
    refine Ek.drtz (z := 8) [(3, 6)] (by kernel_rfl) rfl ?_
    refine SeqT.go rfl rfl rfl (st_pure rfl rfl) rfl ?_
    refine SeqT.go rfl rfl rfl (st_pure rfl rfl) rfl ?_
    refine SeqT.go rfl rfl rfl (fld tF67_1) rfl ?_
    refine SeqT.go rfl rfl rfl (ld ta65) rfl ?_
    refine SeqT.go rfl rfl rfl (st_pure rfl rfl) rfl ?_
    refine SeqT.go rfl rfl rfl (st_pure rfl rfl) rfl ?_
    refine SeqT.cal rfl rfl rfl rfl rfl (w_clone s0 (B.mono (by omega))) ?_
    rintro s1 h1 m2 ⟨q1, q2, q3, q4⟩
    refine ⟨_, rfl, ?_⟩
    have hR1 := R.of_eq (q4 l (by omega))
    have X1 := X.of_eq (q4 W (by omega))
    refine SeqT.ex rfl rfl rfl (st_mapput_ex tm65 (tk3 _) X1) ?_
    rintro v3 h3 m3 ⟨rfl, rfl, X3, hfe⟩
    refine ⟨_, rfl, ?_⟩
    refine SeqT.nil ⟨?_, ?_⟩
    · intro p hp a b ha hb
      simp only [List.mem_singleton] at hp
      subst hp
      obtain rfl := Option.some.inj ha
      obtain rfl := Option.some.inj hb
      exact dyn_rd rfl (rd_ld ta65 hR1 rfl) (by simp [AV.beq])
    refine Ek.seq ?_
    refine Ek.reg ?_
    refine SeqR.go rfl rfl rfl (st_pure rfl rfl) rfl ?_
    refine SeqR.nil ?_
    have A1 := (A.keep B (fun γ hγ => q4 γ (by omega)))
    refine Ek.ret ⟨Or.inr rfl, _, rfl, _, _, rfl, rfl, ⟨W, M, od, A1.upW q2 q1 X1 (Xw.mono (fun v b s => s.keep B (fun γ hγ => q4 γ (by omega)))) _ X3 hfe hpl40, rfl⟩, Bd.of (m' := m2 + 1) q2 (by omega) (fun γ hγ => hfe γ (by omega)), ⟨by omega, fun γ k1 k2 => ?_, fun γ q => Or.inl q⟩⟩
    rw [hfe γ (fun e => k2 (Or.inr (Or.inl e))), q4 γ (by omega)]
  · skip
    refine Ek.seq ?_
    refine Ek.reg ?_
    refine SeqR.go rfl rfl rfl (st_pure rfl rfl) rfl ?_
    refine SeqR.nil ?_
    refine Ek.seq ?_
    refine Ek.seq ?_
    refine Ek.reg ?_
    refine SeqR.go rfl rfl rfl (st_pure rfl rfl) rfl ?_
    refine SeqR.go rfl rfl rfl (st_pure rfl rfl) rfl ?_
    refine SeqR.cal rfl rfl rfl rfl rfl (w_home A0) ?_
    rintro _ _ m1 ⟨rfl, rfl, hm1⟩
    refine ⟨_, rfl, ?_⟩
    refine SeqR.go rfl rfl rfl (st_pure rfl rfl) rfl ?_
    refine SeqR.go rfl rfl rfl (st_pure rfl rfl) rfl ?_
    refine SeqR.go rfl (by simp; omega) rfl (st_pure rfl rfl) rfl ?_
    refine SeqR.go rfl (by simp; omega) rfl (st_len te33) rfl ?_
    refine SeqR.go rfl (by simp; omega) rfl (st_pure rfl rfl) rfl ?_
    refine SeqR.go rfl rfl rfl (st_pickF (by simp; omega)) rfl ?_
    refine SeqR.nil ?_
    refine Ek.condF rfl rfl ?_
    refine Ek.skip ?_
    refine Ek.seq ?_
    refine Ek.seq ?_
    refine Ek.reg ?_
    refine SeqR.go rfl rfl rfl (st_pure rfl rfl) rfl ?_
    refine SeqR.go rfl rfl rfl (st_pure rfl rfl) rfl ?_
    refine SeqR.go rfl rfl rfl (fld tF67_1) rfl ?_
    refine SeqR.go rfl rfl rfl (ld ta65) rfl ?_
    refine SeqR.go rfl rfl rfl (st_pure rfl rfl) rfl ?_
    refine SeqR.go rfl rfl rfl (st_lookup_ok tm65 (tk3 _) X g1) rfl ?_
    refine SeqR.go rfl rfl rfl (st_pure rfl rfl) rfl ?_
    refine SeqR.go rfl rfl rfl (st_pure rfl rfl) rfl ?_
    refine SeqR.go rfl rfl rfl (st_pure rfl rfl) rfl ?_
    refine SeqR.go rfl rfl rfl (st_pure rfl rfl) rfl ?_
    refine SeqR.go rfl rfl rfl (st_pure rfl rfl) rfl ?_
    refine SeqR.nil ?_
    refine Ek.seq ?_
    refine Ek.reg ?_
    refine SeqR.go rfl rfl rfl (st_pure rfl rfl) rfl ?_
    refine SeqR.go rfl rfl rfl (st_pure rfl rfl) rfl ?_
    refine SeqR.go rfl rfl rfl (st_pure rfl rfl) rfl ?_
    refine SeqR.hop rfl rfl rfl ?_
    refine SeqR.hop rfl rfl rfl ?_
    refine SeqR.hop rfl rfl rfl ?_
    refine SeqR.hop rfl rfl rfl ?_
    refine SeqR.hop rfl rfl rfl ?_
    refine SeqR.hop rfl rfl rfl ?_
    refine SeqR.go rfl rfl rfl (st_pickF rfl) rfl ?_
    refine SeqR.nil ?_
    refine Ek.condF rfl (by simp) ?_
    refine Ek.skip ?_
    refine Ek.seq ?_
    refine Ek.drtz (z := 8) [(3, 6)] (by kernel_rfl) rfl ?_
    refine SeqT.go rfl rfl rfl (st_pure rfl rfl) rfl ?_
    refine SeqT.go rfl rfl rfl (st_pure rfl rfl) rfl ?_
    refine SeqT.go rfl rfl rfl (fld tF67_1) rfl ?_
    refine SeqT.go rfl rfl rfl (ld ta65) rfl ?_
    refine SeqT.go rfl rfl rfl (st_pure rfl rfl) rfl ?_
    refine SeqT.go rfl rfl rfl (st_pure rfl rfl) rfl ?_
    refine SeqT.cal rfl rfl rfl rfl rfl (w_clone s0 (B.mono (by omega))) ?_
    rintro s1 h1 m2 ⟨q1, q2, q3, q4⟩
    refine ⟨_, rfl, ?_⟩
    have hR1 := R.of_eq (q4 l (by omega))
    have X1 := X.of_eq (q4 W (by omega))
    refine SeqT.ex rfl rfl rfl (st_mapput_ex tm65 (tk3 _) X1) ?_
    rintro v3 h3 m3 ⟨rfl, rfl, X3, hfe⟩
    refine ⟨_, rfl, ?_⟩
    refine SeqT.nil ⟨?_, ?_⟩
    · intro p hp a b ha hb
      simp only [List.mem_singleton] at hp
      subst hp
      obtain rfl := Option.some.inj ha
      obtain rfl := Option.some.inj hb
      exact dyn_rd rfl (rd_ld ta65 hR1 rfl) (by simp [AV.beq])
    refine Ek.seq ?_
    refine Ek.reg ?_
    refine SeqR.go rfl rfl rfl (st_pure rfl rfl) rfl ?_
    refine SeqR.nil ?_
    have A1 := (A.keep B (fun γ hγ => q4 γ (by omega)))
    refine Ek.ret ⟨Or.inr rfl, _, rfl, _, _, rfl, rfl, ⟨W, M, od, A1.upW q2 q1 X1 (Xw.mono (fun v b s => s.keep B (fun γ hγ => q4 γ (by omega)))) _ X3 hfe hpl40, rfl⟩, Bd.of (m' := m2 + 1) q2 (by omega) (fun γ hγ => hfe γ (by omega)), ⟨by omega, fun γ k1 k2 => ?_, fun γ q => Or.inl q⟩⟩
    rw [hfe γ (fun e => k2 (Or.inr (Or.inl e))), q4 γ (by omega)]

theorem zv69 : zeroT Tryd.prog 33 = some .nils := tv33
theorem w_readL (A : Log h l d G own) (B : Bd h m) {i : Nat} (hi : 48 ≤ i) (hi2 : i < G.disk.now.length) :
    ∃ v' h' m', TC 18 [.ptr l 0, .int .i64 (i : Int)] ⟨h, m⟩ = some (v', ⟨h', m'⟩) ∧ (∃ s, v' = .tup [s, .nili] ∧ SecV h' s ((getW i G.waits).getD (G.disk.now.getD i [])) ∧ Bd h' m' ∧ m ≤ m' ∧ ∀ γ, γ < m → h'.get γ = h.get γ) := by
  have A0 := A
  obtain ⟨W, M, od, A, rfl⟩ := A
  have R := A.row
  obtain ⟨kw, X, Xw⟩ := A.waits
  have hnow : G.disk.now[i]? = some (G.disk.now.getD i []) := by rw [List.getD_eq_getElem?_getD, List.getElem?_eq_getElem hi2]; rfl
  refine top_fn Tryd.func18 (by rfl) rfl rfl (by rfl) ?_
  obtain ⟨g1, g2⟩ | ⟨v0, b0, g1, g2, g3⟩ := Xw.get i
  · skip
    refine Ek.seq ?_
    refine Ek.reg ?_
    refine SeqR.go rfl rfl rfl (st_pure rfl rfl) rfl ?_
    refine SeqR.go rfl rfl rfl (st_pure rfl rfl) rfl ?_
    refine SeqR.nil ?_
    refine Ek.seq ?_
    refine Ek.seq ?_
    refine Ek.reg ?_
    refine SeqR.go rfl rfl rfl (st_pure rfl rfl) rfl ?_
    refine SeqR.go rfl rfl rfl (st_pure rfl rfl) rfl ?_
    refine SeqR.cal rfl rfl rfl rfl rfl (w_home A0) ?_
    rintro _ _ m1 ⟨rfl, rfl, hm1⟩
    refine ⟨_, rfl, ?_⟩
    refine SeqR.go rfl rfl rfl (st_pure rfl rfl) rfl ?_
    refine SeqR.nil ?_
    refine Ek.condF rfl (by simp; omega) ?_
    refine Ek.skip ?_
    refine Ek.seq ?_
    refine Ek.seq ?_
    refine Ek.reg ?_
    refine SeqR.go rfl rfl rfl (st_pure rfl rfl) rfl ?_
    refine SeqR.go rfl rfl rfl (st_pure rfl rfl) rfl ?_
    refine SeqR.go rfl rfl rfl (fld tF67_1) rfl ?_
    refine SeqR.go rfl rfl rfl (ld ta65) rfl ?_
    refine SeqR.go rfl rfl rfl (st_pure rfl rfl) rfl ?_
    refine SeqR.go rfl rfl rfl (st_lookup_no tm65 (tk3 _) tv33 X g1) rfl ?_
    refine SeqR.go rfl rfl rfl (st_pure rfl rfl) rfl ?_
    refine SeqR.go rfl rfl rfl (st_pure rfl rfl) rfl ?_
    refine SeqR.go rfl rfl rfl (st_pure rfl rfl) rfl ?_
    refine SeqR.go rfl rfl rfl (st_pure rfl rfl) rfl ?_
    refine SeqR.go rfl rfl rfl (st_pure rfl rfl) rfl ?_
    refine SeqR.nil ?_
    refine Ek.seq ?_
    refine Ek.reg ?_
    refine SeqR.go rfl rfl rfl (st_pure rfl rfl) rfl ?_
    refine SeqR.nil ?_
    refine Ek.condF rfl rfl ?_
    refine Ek.skip ?_
    refine Ek.seq ?_
    refine Ek.reg ?_
    refine SeqR.go rfl rfl rfl (st_pure rfl rfl) rfl ?_
    refine SeqR.go rfl rfl rfl (st_pure rfl rfl) rfl ?_
    refine SeqR.go rfl rfl rfl (fld tF67_0) rfl ?_
    refine SeqR.go rfl rfl rfl (ld ta25) rfl ?_
    refine SeqR.go rfl rfl rfl (st_pure rfl rfl) rfl ?_
    refine SeqR.cal rfl rfl rfl rfl rfl (w_read A.disk (B.mono (by omega)) hnow) ?_
    rintro v1 h1 m1 ⟨s1, rfl, q1, q2, q3, q4⟩
    refine ⟨_, rfl, ?_⟩
    refine SeqR.go rfl rfl rfl (st_pure rfl rfl) rfl ?_
    refine SeqR.go rfl rfl rfl (st_pure rfl rfl) rfl ?_
    refine SeqR.go rfl rfl rfl (st_pure rfl rfl) rfl ?_
    refine SeqR.go rfl rfl rfl (st_pure rfl rfl) rfl ?_
    refine SeqR.nil ?_
    exact Ek.ret ⟨Or.inr rfl, _, rfl, _, _, rfl, s1, rfl, by rw [g2]; exact q1, q2.mono (by omega), by omega, fun γ hγ => q4 γ (by omega)⟩
  · skip
    refine Ek.seq ?_
    refine Ek.reg ?_
    refine SeqR.go rfl rfl rfl (st_pure rfl rfl) rfl ?_
    refine SeqR.go rfl rfl rfl (st_pure rfl rfl) rfl ?_
    refine SeqR.nil ?_
    refine Ek.seq ?_
    refine Ek.seq ?_
    refine Ek.reg ?_
    refine SeqR.go rfl rfl rfl (st_pure rfl rfl) rfl ?_
    refine SeqR.go rfl rfl rfl (st_pure rfl rfl) rfl ?_
    refine SeqR.cal rfl rfl rfl rfl rfl (w_home A0) ?_
    rintro _ _ m1 ⟨rfl, rfl, hm1⟩
    refine ⟨_, rfl, ?_⟩
    refine SeqR.go rfl rfl rfl (st_pure rfl rfl) rfl ?_
    refine SeqR.nil ?_
    refine Ek.condF rfl (by simp; omega) ?_
    refine Ek.skip ?_
    refine Ek.seq ?_
    refine Ek.seq ?_
    refine Ek.reg ?_
    refine SeqR.go rfl rfl rfl (st_pure rfl rfl) rfl ?_
    refine SeqR.go rfl rfl rfl (st_pure rfl rfl) rfl ?_
    refine SeqR.go rfl rfl rfl (fld tF67_1) rfl ?_
    refine SeqR.go rfl rfl rfl (ld ta65) rfl ?_
    refine SeqR.go rfl rfl rfl (st_pure rfl rfl) rfl ?_
    refine SeqR.go rfl rfl rfl (st_lookup_ok tm65 (tk3 _) X g1) rfl ?_
    refine SeqR.go rfl rfl rfl (st_pure rfl rfl) rfl ?_
    refine SeqR.go rfl rfl rfl (st_pure rfl rfl) rfl ?_
    refine SeqR.go rfl rfl rfl (st_pure rfl rfl) rfl ?_
    refine SeqR.go rfl rfl rfl (st_pure rfl rfl) rfl ?_
    refine SeqR.go rfl rfl rfl (st_pure rfl rfl) rfl ?_
    refine SeqR.nil ?_
    refine Ek.seq ?_
    refine Ek.reg ?_
    refine SeqR.go rfl rfl rfl (st_pure rfl rfl) rfl ?_
    refine SeqR.nil ?_
    refine Ek.condT rfl rfl ?_
    refine Ek.seq ?_
    refine Ek.reg ?_
    refine SeqR.go rfl rfl rfl (st_pure rfl rfl) rfl ?_
    refine SeqR.cal rfl rfl rfl rfl rfl (w_clone g3 (B.mono (by omega))) ?_
    rintro s1 h1 m1 ⟨q1, q2, q3, q4⟩
    refine ⟨_, rfl, ?_⟩
    refine SeqR.go rfl rfl rfl (st_pure rfl rfl) rfl ?_
    refine SeqR.go rfl rfl rfl (st_pure rfl rfl) rfl ?_
    refine SeqR.nil ?_
    exact Ek.ret ⟨Or.inr rfl, _, rfl, _, _, rfl, s1, rfl, by rw [g2]; exact q1, q2.mono (by omega), by omega, fun γ hγ => q4 γ (by omega)⟩

theorem Log.disk' (A : Log h l d G own) : ∃ od, Disk h d G.disk od ∧ (∀ γ, od γ → own γ) := by
  obtain ⟨W, M, od, A, rfl⟩ := A
  exact ⟨od, A.disk, fun γ q => Or.inr (Or.inr (Or.inr q))⟩
/-- The disk beneath a log goes on by itself. -/
theorem Log.step (A : Log h l d G own) (B : Bd h m) {D' : Dk} (f : ∀ od, Disk h d G.disk od → ∃ od', Disk h' d D' od' ∧ Stp od h m od' h' m') : ∃ own', Log h' l d { G with disk := D' } own' ∧ Stp own h m own' h' m' := by
  obtain ⟨W, M, od, A, rfl⟩ := A
  obtain ⟨od', A', t⟩ := f od A.disk
  obtain ⟨kw, X, Xw⟩ := A.waits
  obtain ⟨km, Y, Yw⟩ := A.mark
  have sm : ∀ v b, SecV h v b → SecV h' v b := fun v b s => s.stp A.disk B t
  have hl := B.row A.row
  have hW := B.mapI X
  have hM := B.mapI Y
  refine ⟨_, ⟨W, M, od', ⟨A.row.of_eq (t.same l hl A.nl), ⟨kw, X.of_eq (t.same W hW A.nW), Xw.mono sm⟩, ⟨km, Y.of_eq (t.same M hM A.nM), Yw.mono sm⟩, A', fun q => ?_, fun q => ?_, fun q => ?_, A.WM, A.few⟩, rfl⟩, t.up, fun γ h1 h2 => t.same γ h1 (fun q => h2 (Or.inr (Or.inr (Or.inr q)))), ?_⟩
  · exact (t.sub l q).elim A.nl (fun r => by omega)
  · exact (t.sub W q).elim A.nW (fun r => by omega)
  · exact (t.sub M q).elim A.nM (fun r => by omega)
  · rintro γ (rfl | rfl | rfl | q)
    · exact Or.inl (Or.inl rfl)
    · exact Or.inl (Or.inr (Or.inl rfl))
    · exact Or.inl (Or.inr (Or.inr (Or.inl rfl)))
    · exact (t.sub γ q).elim (fun r => Or.inl (Or.inr (Or.inr (Or.inr r)))) (fun r => Or.inr r)
end
end Go.Xec
