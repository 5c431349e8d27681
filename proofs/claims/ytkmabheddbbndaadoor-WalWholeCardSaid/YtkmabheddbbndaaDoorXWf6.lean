/- slices.Sorted(maps.Keys(..)), zbyte.Wrap and the log's Sync, by contract. -/
import Derived.Test.YtkmabheddbbndaaDoorXWf5
namespace Go.Xec
open Go.Proofs
section
variable {h h' hf : T ABlk} {l d W M β m m' : Nat} {v : AV} {D : Dk} {G : Lg} {own own' od : Nat → Prop} {bs b : By}
theorem w_keys : ∃ v' h' m', TC 37 [.mp W] ⟨h, m⟩ = some (v', ⟨h', m'⟩) ∧ (∃ q, v' = .fn (.func 49) [] [.ptr q 0] ∧ m ≤ q ∧ q < m' ∧ h' = h.set q (blkOf [.mp W])) := by
  refine top_fn Tryd.func37 (by rfl) rfl rfl (by rfl) ?_
  refine Ek.seq ?_
  refine Ek.reg ?_
  refine SeqR.go rfl rfl rfl st_box rfl ?_
  refine SeqR.go rfl rfl rfl (st_pure rfl rfl) rfl ?_
  refine SeqR.nil ?_
  refine Ek.seq ?_
  refine Ek.reg ?_
  refine SeqR.go rfl rfl rfl (st_pure rfl rfl) rfl ?_
  refine SeqR.go rfl rfl rfl (st_pure rfl rfl) rfl ?_
  refine SeqR.nil ?_
  exact Ek.ret ⟨Or.inr rfl, _, rfl, _, _, rfl, _, rfl, by omega, by omega, rfl⟩

theorem nodupN_of : ∀ {l : List Nat}, l.Nodup → nodupN l = true
  | [], _ => rfl
  | a :: l, h => by
    rw [List.nodup_cons] at h
    simp only [nodupN, Bool.and_eq_true, Bool.not_eq_true', List.contains_eq_mem, decide_eq_false_iff_not]
    exact ⟨h.1, nodupN_of h.2⟩
theorem nodupI_of : ∀ {l : List Int}, l.Nodup → nodupI l = true
  | [], _ => rfl
  | a :: l, h => by
    rw [List.nodup_cons] at h
    simp only [nodupI, Bool.and_eq_true, Bool.not_eq_true', List.contains_eq_mem, decide_eq_false_iff_not]
    exact ⟨h.1, nodupI_of h.2⟩
theorem keysI_of : ∀ {es : List (AV × AV × Nat)} {kvs : List (Int × AV)}, es.map (fun e => (e.1, e.2.1)) = kvs.map (fun p => (.int .i64 p.1, p.2)) → keysI es = some (kvs.map (·.1))
  | [], [], _ => rfl
  | [], p :: kvs, h => by simp at h
  | e :: es, [], h => by simp at h
  | e :: es, p :: kvs, h => by
    simp only [List.map_cons, List.cons.injEq, Prod.mk.injEq] at h
    simp only [keysI, h.1.1, keysI_of h.2, List.map_cons]
theorem w_sorted {q : Nat} {kvs : List (Int × AV)} (Q : Row h q [.mp W]) (X : MapI h W kvs) (B : Bd h m) (hl : kvs.length ≤ 1000000) (hk : ∀ p ∈ kvs, -9223372036854775808 ≤ p.1 ∧ p.1 ≤ 9223372036854775807) :
    ∃ v' h' m', TC 36 [.fn (.func 49) [] [.ptr q 0]] ⟨h, m⟩ = some (v', ⟨h', m'⟩) ∧ (Vec h' 1 v' ((sortI (kvs.map (·.1))).map (AV.int .i64)) ∧ Bd h' m' ∧ m ≤ m' ∧ (∀ γ, γ < m → h'.get γ = h.get γ) ∧ ∀ γ, v'.base = some γ → m ≤ γ) := by
  obtain ⟨cs, h1, h2⟩ := Q
  obtain ⟨es, clock, g1, g2, g3, g4, g5⟩ := X
  have hel : es.length = kvs.length := by have := congrArg List.length g2; simpa using this
  have hok : mapOkI es clock (kvs.map (·.1)) = true := by
    simp only [mapOkI, Bool.and_eq_true]
    refine ⟨⟨⟨⟨Nat.ble_eq_true_of_le (by omega), g3⟩, nodupN_of g4⟩, nodupI_of g5⟩, ?_⟩
    rw [List.all_eq_true]
    intro k hkm
    obtain ⟨p, hp, rfl⟩ := List.mem_map.1 hkm
    have := hk p hp
    have e1 : IntKind.i64.min = -9223372036854775808 := by decide
    have e2 : IntKind.i64.max = 9223372036854775807 := by decide
    simp only [Lit.wf, e1, e2, Bool.and_eq_true, decide_eq_true_eq]
    exact this
  have hext : extSort 36 [.fn (.func 49) [] [.ptr q 0]] ⟨h, m⟩ = some (sortedA ⟨h, m⟩ (kvs.map (·.1))) := by
    unfold extSort
    have b1 : Nat.beq 36 36 = true := rfl
    have b2 : Nat.beq 49 49 = true := rfl
    have h1' : h.get q = some (.cells (0 + 1) cs) := h1
    simp only [b1, b2, h1', h2 0 _ rfl, g1, keysI_of g2, hok]
  have hext2 : extWb 36 [.fn (.func 49) [] [.ptr q 0]] ⟨h, m⟩ = some (sortedA ⟨h, m⟩ (kvs.map (·.1))) := by
    have e : extWal 36 [.fn (.func 49) [] [.ptr q 0]] ⟨h, m⟩ = some (sortedA ⟨h, m⟩ (kvs.map (·.1))) := by
      unfold extWal orA; rw [hext]
    exact e
  have ht := topA_ext (P := Tryd.prog) hext2
  cases hks : kvs.map (·.1) with
  | nil =>
    rw [hks] at ht
    exact ⟨.nils, h, m, ht, Or.inl ⟨rfl, rfl⟩, B, Nat.le_refl _, fun _ _ => rfl, fun γ hγ => (by cases hγ)⟩
  | cons a r =>
    rw [hks] at ht
    have hlen : ((sortI (a :: r)).map (AV.int .i64)).length = (a :: r).length := by rw [List.length_map, (sortI_perm (a :: r)).length_eq]
    refine ⟨_, _, _, ht, Or.inr ⟨m, (a :: r).length, rfl, by rw [hlen]; omega, Row.new⟩, B.set (by simp) (by simp), by simp, fun γ hγ => get_set_ne (by simp only; omega), fun γ hγ => ?_⟩
    simp only [AV.base, Option.some.injEq] at hγ
    omega
def insN (a : Nat) : List Nat → List Nat
  | [] => [a]
  | b :: l => if a ≤ b then a :: b :: l else b :: insN a l
def sortN : List Nat → List Nat
  | [] => []
  | a :: l => insN a (sortN l)
theorem insN_mem {a x : Nat} : ∀ {l : List Nat}, x ∈ insN a l ↔ x = a ∨ x ∈ l
  | [] => by simp [insN]
  | b :: l => by
    simp only [insN]
    split
    · simp
    · simp only [List.mem_cons, insN_mem (l := l)]
      constructor
      · rintro (h | h | h) <;> simp [h]
      · rintro (h | h | h) <;> simp [h]
theorem sortN_mem {x : Nat} : ∀ {l : List Nat}, x ∈ sortN l ↔ x ∈ l
  | [] => by simp [sortN]
  | a :: l => by simp only [sortN, insN_mem, sortN_mem (l := l), List.mem_cons]
theorem insN_len {a : Nat} : ∀ l : List Nat, (insN a l).length = l.length + 1
  | [] => rfl
  | b :: l => by
    simp only [insN]
    split
    · simp
    · simp [insN_len l]
theorem sortN_len : ∀ l : List Nat, (sortN l).length = l.length
  | [] => rfl
  | a :: l => by simp [sortN, insN_len, sortN_len l]
theorem insI_cast (a : Nat) : ∀ l : List Nat, insI (a : Int) (l.map fun (x : Nat) => (x : Int)) = (insN a l).map fun (x : Nat) => (x : Int)
  | [] => rfl
  | b :: l => by
    simp only [List.map_cons, insI, insN]
    by_cases hab : a ≤ b
    · rw [decide_eq_true (by omega : (a : Int) ≤ (b : Int)), if_pos hab]; rfl
    · rw [decide_eq_false (by omega : ¬ (a : Int) ≤ (b : Int)), if_neg hab, insI_cast a l]; rfl
theorem sortI_cast : ∀ l : List Nat, sortI (l.map fun (x : Nat) => (x : Int)) = (sortN l).map fun (x : Nat) => (x : Int)
  | [] => rfl
  | a :: l => by simp only [List.map_cons, sortI, sortN, sortI_cast l, insI_cast]

def wrL (D : Dk) : Nat → List By → Dk
  | _, [] => D
  | k, b :: r => wrL (D.write k b) (k + 1) r
theorem wrL_snoc : ∀ (r : List By) (D : Dk) (k : Nat) (b : By), wrL D k (r ++ [b]) = (wrL D k r).write (k + r.length) b
  | [], D, k, b => rfl
  | c :: r, D, k, b => by
    show wrL (D.write k c) (k + 1) (r ++ [b]) = _
    rw [wrL_snoc r, List.length_cons, show k + 1 + r.length = k + (r.length + 1) by omega]; rfl
theorem wrL_now : ∀ (r : List By) (D : Dk) (k : Nat), (wrL D k r).now.length = D.now.length
  | [], _, _ => rfl
  | b :: r, D, k => by
    show (wrL (D.write k b) (k + 1) r).now.length = _
    rw [wrL_now r, Dk.write_now]
theorem wrL_writes : ∀ (r : List By) (D : Dk) (k : Nat), (wrL D k r).writes ≤ D.writes + r.length
  | [], _, _ => Nat.le_refl _
  | b :: r, D, k => by
    show (wrL (D.write k b) (k + 1) r).writes ≤ _
    have h1 := wrL_writes r (D.write k b) (k + 1)
    have h2 := D.write_writes k b
    rw [List.length_cons]; omega
def syncD (D : Dk) (ws : List (Nat × By)) : Dk := if sortN (ws.map (·.1)) = [] then D else inst (((wrL D 1 (conts ws (sortN (ws.map (·.1))))).flush.write 0 (hdrB (sortN (ws.map (·.1))) (conts ws (sortN (ws.map (·.1)))))).flush) (sortN (ws.map (·.1)))

theorem Disk.keep2 {ev : AV} (A : Disk h d D own) (hq : ∀ γ, ev.base = some γ → ¬ own γ) (hqs : ∀ β c bs, Sec h β c bs → ev.base ≠ some β) (hs : ∀ γ b, h.get γ = some b → ev.base ≠ some γ → h'.get γ = h.get γ) : Disk h' d D own := by
  obtain ⟨L, N, cv, A, rfl⟩ := A
  have rowE : ∀ {γ : Nat} {l : List AV}, Row h γ l → ∃ b, h.get γ = some b := fun R => by obtain ⟨cs, h1, _⟩ := R; exact ⟨_, h1⟩
  have sm : ∀ v b, SecV h v b → SecV h' v b := fun v b s => by
    obtain ⟨β, c, rfl, s⟩ := s
    obtain ⟨r, R, _⟩ := s.row
    obtain ⟨b0, hb0⟩ := rowE R
    exact ⟨β, c, rfl, s.of_eq (hs β b0 hb0 (hqs β c b s))⟩
  have go : ∀ γ b, h.get γ = some b → Ow d L N cv γ → h'.get γ = h.get γ := fun γ b h1 h2 => hs γ b h1 fun e => hq γ e h2
  obtain ⟨vl, Rl, Sl⟩ := A.lasts
  obtain ⟨vn, Rn, Sn⟩ := A.now
  obtain ⟨cs, V, C⟩ := A.cac
  obtain ⟨b1, hb1⟩ := rowE A.row
  obtain ⟨b2, hb2⟩ := rowE Rl
  obtain ⟨b3, hb3⟩ := rowE Rn
  refine ⟨L, N, cv, ⟨A.row.of_eq (go d b1 hb1 (Or.inl rfl)), ⟨vl, Rl.of_eq (go L b2 hb2 (Or.inr (Or.inl rfl))), Sl.mono sm⟩, ⟨vn, Rn.of_eq (go N b3 hb3 (Or.inr (Or.inr (Or.inl rfl)))), Sn.mono sm⟩,
    ⟨cs, V.of_eq fun γ hγ => ?_, C.mono sm⟩, A.cne, A.dL, A.dN, A.LN, A.cd, A.cL, A.cN, A.len, A.pos, A.big, A.idx, A.few, A.lim⟩, rfl⟩
  obtain ⟨rfl, _⟩ | ⟨β, n, rfl, _, R⟩ := V
  · cases hγ
  · injection hγ with hγ; subst hγ
    obtain ⟨b4, hb4⟩ := rowE R
    exact go _ b4 hb4 (Or.inr (Or.inr (Or.inr rfl)))
theorem Vec.set_free {z nm : Nat} {l : List AV} {b : ABlk} (V : Vec h z v l) (hfree : h.get nm = none) : Vec (h.set nm b) z v l := V.of_eq fun γ hγ => get_set_ne (by
  obtain ⟨rfl, _⟩ | ⟨β, n, rfl, _, cs, R, _⟩ := V
  · cases hγ
  · injection hγ with hγ; subst hγ
    rintro rfl; rw [hfree] at R; cases R)
theorem err_app2 {hk h3 : T ABlk} {mk nm m2 m3 k : Nat} {blk : ABlk} {ev v3 : AV} {ok : Nat → Prop} (A : Disk hk d D ok) (Bk : Bd hk mk) (tk : Stp own h m ok hk mk) (Ve : Vec hk 1 ev (List.replicate k .nili)) (hek : ∀ γ, ev.base = some γ → ¬ ok γ ∧ m ≤ γ)
    (hfree : hk.get nm = none) (hnmm : m ≤ nm) (hnm2 : nm < m2) (hmk : mk ≤ m2) (p1 : m2 ≤ m3) (p3 : ∀ γ, γ < m2 ∨ m3 ≤ γ → ev.base ≠ some γ → h3.get γ = (hk.set nm blk).get γ) (p4 : v3.base = ev.base ∨ v3.base = some m2) (V3 : Vec h3 1 v3 (List.replicate k .nili ++ [.nili])) :
    Disk h3 d D ok ∧ Bd h3 m3 ∧ Stp own h m ok h3 m3 ∧ Vec h3 1 v3 (List.replicate (k + 1) .nili) ∧ ∀ γ, v3.base = some γ → ¬ ok γ ∧ m ≤ γ := by
  have sm : ∀ γ b, hk.get γ = some b → ev.base ≠ some γ → h3.get γ = hk.get γ := fun γ b h1 h2 => by
    have := Bk.lt h1
    rw [p3 γ (Or.inl (by omega)) h2, get_set_ne (by rintro rfl; rw [hfree] at h1; cases h1)]
  have tu := tk.up
  refine ⟨A.keep2 (fun γ hγ => (hek γ hγ).1) (nil_not_sec Ve) sm, fun γ hγ => ?_, ⟨by omega, fun γ h1 h2 => ?_, tk.sub⟩, by rw [List.replicate_succ']; exact V3, fun γ hγ => ?_⟩
  · rw [p3 γ (Or.inr hγ) (fun e => by have := Bk.base Ve e; omega), get_set_ne (by omega)]; exact Bk γ (by omega)
  · rw [p3 γ (Or.inl (by omega)) (fun e => by have := (hek γ e).2; omega), get_set_ne (by omega)]; exact tk.same γ h1 h2
  · rcases p4 with e | e
    · exact hek γ (e ▸ hγ)
    · rw [e] at hγ; injection hγ with hγ; subst hγ
      exact ⟨fun q => by have := A.own_lt Bk q; omega, by omega⟩

theorem wrap_build (s : List UInt8) (n : Int) : pureA Tryd.prog (.build 88 #[(0, .tmp 7), (1, .tmp 8)]) [.str s, .ifc 41 (.int .i64 n)] = some (.agg [.str s, .ifc 41 (.int .i64 n)]) := by kernel_rfl
theorem w_wrap (B : Bd h m) {s : List UInt8} {n : Int} : ∃ v' h' m', TC 30 [.str s, .ifc 41 (.int .i64 n)] ⟨h, m⟩ = some (v', ⟨h', m'⟩) ∧ (∃ q, v' = .ifc 86 (.ptr q 0) ∧ Row h' q [.str s, .ifc 41 (.int .i64 n)] ∧ Bd h' m' ∧ m ≤ m' ∧ m ≤ q ∧ ∀ γ, γ < m → h'.get γ = h.get γ) := by
  refine top_fn Tryd.func30 (by rfl) rfl rfl (by rfl) ?_
  refine Ek.seq ?_
  refine Ek.reg ?_
  refine SeqR.go rfl rfl rfl (st_pure rfl rfl) rfl ?_
  refine SeqR.nil ?_
  refine Ek.seq ?_
  refine Ek.seq ?_
  refine Ek.reg ?_
  refine SeqR.go rfl rfl rfl (st_pure rfl rfl) rfl ?_
  refine SeqR.go rfl rfl rfl (eqI1 tu29) rfl ?_
  refine SeqR.nil ?_
  refine Ek.condF rfl rfl ?_
  refine Ek.skip ?_
  refine Ek.seq ?_
  refine Ek.reg ?_
  refine SeqR.go rfl rfl rfl (st_pure rfl rfl) rfl ?_
  refine SeqR.go rfl rfl rfl (st_pure rfl rfl) rfl ?_
  refine SeqR.go rfl rfl rfl (st_pure rfl (wrap_build _ _)) rfl ?_
  refine SeqR.go rfl rfl rfl st_box rfl ?_
  refine SeqR.go rfl rfl rfl (mkif tu86) rfl ?_
  refine SeqR.go rfl rfl rfl (st_pure rfl rfl) rfl ?_
  refine SeqR.nil ?_
  exact Ek.ret ⟨Or.inr rfl, _, rfl, _, _, rfl, _, rfl, Row.new, Bd.set B (by omega) (by omega), by omega, by omega, fun γ hγ => get_set_ne (by omega)⟩
end
end Go.Xec
