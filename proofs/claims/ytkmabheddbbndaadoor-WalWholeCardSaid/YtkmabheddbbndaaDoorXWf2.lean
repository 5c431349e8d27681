/- errors.Join of none, crc.More and Sum, wal.install, by contract. -/
import Derived.Test.YtkmabheddbbndaaDoorXWf1
namespace Go.Xec
open Go.Proofs
section
theorem addK {P : Program} {call : Callee} {nm : Nat} {st : St} {t a b : Nat} {x y : Operand} {yt : TypeId} (hb : a + b < 9223372036854775808) : stepA P call nm st (.binOp .add t x y yt) [.int .i64 (a : Int), .int .i64 (b : Int)] = some (.int .i64 ((a + b : Nat) : Int), st) :=
  st_add (by rw [IntWalk.i64_in _ (by omega)]; omega)
variable {h h' hf : T ABlk} {l d W M β m m' : Nat} {v : AV} {D : Dk} {own own' od : Nat → Prop} {bs b : By}
noncomputable def frJn (v : AV) (n i : Nat) : Fr := (((T.nil.set 3 (.int .i64 0)).set 9 v).set 10 (.int .i64 (n : Int))).set 11 (.int .i64 (i : Int))
theorem w_join {n : Nat} (V : Vec h 1 v (List.replicate n .nili)) (hn : n < 1000000) : ∃ v' h' m', TC 39 [v] ⟨h, m⟩ = some (v', ⟨h', m'⟩) ∧ (v' = .nili ∧ h = h' ∧ m ≤ m') := by
  refine top_fn Tryd.func39 (by rfl) rfl rfl (by rfl) ?_
  refine Ek.seq ?_
  refine Ek.reg ?_
  refine SeqR.go rfl rfl rfl (st_pure rfl rfl) rfl ?_
  refine SeqR.nil ?_
  refine Ek.seq ?_
  refine Ek.reg ?_
  refine SeqR.go rfl rfl rfl (st_pure rfl rfl) rfl ?_
  refine SeqR.nil ?_
  refine Ek.seq ?_
  refine Ek.seq ?_
  refine Ek.reg ?_
  refine SeqR.go rfl rfl rfl (st_pure rfl rfl) rfl ?_
  refine SeqR.go rfl rfl rfl (st_lenV (n := n) te77 V (by decide) (by simp)) rfl ?_
  refine SeqR.go rfl rfl rfl (st_pure rfl rfl) rfl ?_
  refine SeqR.nil ?_
  refine Ek.block ?_
  refine Ek.loop_inv (fun e fr st => ∃ i mk, i + e = n ∧ Le (frJn v n i) fr ∧ st = ⟨h, mk⟩ ∧ m ≤ mk) ?_ (n) _ _ ⟨0, _, by omega, Le.put (Le.put (Le.put (Le.put (Le.nil _) rfl) rfl) rfl) rfl, rfl, by omega⟩
  rintro e fr st ⟨i, mk, hi, hle, rfl, hmk⟩
  refine Ek.weaken hle ?_
  clear hle
  refine Ek.seq ?_
  refine Ek.reg ?_
  refine SeqR.go rfl rfl rfl (st_pure rfl rfl) rfl ?_
  refine SeqR.nil ?_
  refine Ek.seq ?_
  by_cases hin : i < n
  · refine Ek.condT rfl (by simp; omega) ?_
    refine Ek.skip ?_
    refine Ek.seq ?_
    refine Ek.block ?_
    refine Ek.seq ?_
    obtain ⟨γ, n2, rfl, hn2, R⟩ := V.sl_of (by intro e; have := congrArg List.length e; simp at this; omega)
    have hn2i : i < n2 := by simp at hn2; omega
    have hri : (List.replicate n AV.nili)[0 + (i : Int).toNat * 1]? = some .nili := by rw [List.getElem?_replicate, if_pos (by simp; omega)]
    refine Ek.reg ?_
    refine SeqR.go rfl rfl rfl (idx te77 tz29) rfl ?_
    refine SeqR.go rfl rfl rfl (ld ta29) rfl ?_
    refine SeqR.go rfl rfl rfl (st_pure rfl rfl) rfl ?_
    refine SeqR.nil ?_
    refine Ek.seq ?_
    refine Ek.reg ?_
    refine SeqR.go rfl rfl rfl (st_pure rfl rfl) rfl ?_
    refine SeqR.go rfl rfl rfl (neI0 tu29) rfl ?_
    refine SeqR.nil ?_
    refine Ek.condF rfl rfl ?_
    refine Ek.skip ?_
    refine Ek.reg ?_
    refine SeqR.go rfl rfl rfl add1 rfl ?_
    refine SeqR.go rfl rfl rfl (st_pure rfl rfl) rfl ?_
    refine SeqR.nil ?_
    exact ⟨e - 1, by omega, i + 1, _, by omega, Le.put (Le.put (Le.put (Le.put (Le.nil _) rfl) rfl) rfl) rfl, rfl, by omega⟩
  · refine Ek.condF rfl (by simp; omega) ?_
    refine Ek.exit ?_
    simp only [AEx.then, AEx.inBlock, if_true]
    refine Ek.seq ?_
    refine Ek.seq ?_
    refine Ek.reg ?_
    refine SeqR.go rfl rfl rfl (st_pure rfl rfl) rfl ?_
    refine SeqR.go rfl rfl rfl (st_pure rfl rfl) rfl ?_
    refine SeqR.nil ?_
    refine Ek.condT rfl rfl ?_
    refine Ek.seq ?_
    refine Ek.reg ?_
    refine SeqR.go rfl rfl rfl (st_pure rfl rfl) rfl ?_
    refine SeqR.nil ?_
    exact Ek.ret ⟨Or.inr rfl, _, rfl, _, _, rfl, rfl, rfl, by omega⟩

def crcM (s : Int) (bs : By) : Int := notI (crcL (notI s) (bs.map fun b => (b.toNat : Int)))
theorem bytesI_cells : ∀ bs : By, bytesI (cellsB bs) = some (bs.map fun b => (b.toNat : Int))
  | [] => rfl
  | b :: l => by
    show (match bytesI (cellsB l) with | some r => some ((b.toNat : Int) :: r) | none => none) = _
    rw [bytesI_cells l]; rfl
theorem readN_cells {cs : T AV} : ∀ (bs : By) (o : Nat), (∀ (i : Nat) b, bs[i]? = some b → cs.get (o + i) = some (.int .u8 (b.toNat : Int))) → readN cs o bs.length = some (cellsB bs)
  | [], o, _ => rfl
  | b :: l, o, hg => by
    have h1 := hg 0 b rfl
    have h2 := readN_cells l (o + 1) (fun i c hc => by rw [show o + 1 + i = o + (i + 1) by omega]; exact hg (i + 1) c (by simpa using hc))
    simp only [List.length_cons, readN, h1, h2, Nat.add_zero]
    rw [show cs.get o = some (.int .u8 (b.toNat : Int)) from h1]
    rfl
/-- crc.More of the bytes of a slice. -/
theorem w_more {s : Int} {l : List AV} {o c : Nat} (R : Row h β l) (hg : ∀ (i : Nat) b, bs[i]? = some b → l[o + i]? = some (.int .u8 (b.toNat : Int))) (hfit : o + bs.length ≤ l.length) (hl : bs.length < 1000000) :
    ∃ v' h' m', TC 45 [.int .u32 s, .sl β o bs.length c 1] ⟨h, m⟩ = some (v', ⟨h', m'⟩) ∧ (v' = .int .u32 (crcM s bs) ∧ h = h' ∧ m ≤ m') := by
  obtain ⟨cs, h1, h2⟩ := R
  refine ⟨_, h, m + (11 + bs.length * 101), topA_ext ?_, rfl, rfl, by omega⟩
  have hr := readN_cells (cs := cs) bs o (fun i b hb => h2 _ _ (hg i b hb))
  have hc : (Nat.ble (o + bs.length) l.length && Nat.blt bs.length 1000000) = true := by
    rw [Nat.ble_eq_true_of_le hfit, Bool.true_and]; simpa using hl
  have e : extCrc 45 [.int .u32 s, .sl β o bs.length c 1] ⟨h, m⟩ = some (.int .u32 (crcM s bs), ⟨h, m + (11 + bs.length * 101)⟩) := by
    unfold extCrc
    have hb : Nat.beq 45 45 = true := rfl
    simp only [hb, h1, hc, hr, bytesI_cells, List.length_map]
    rfl
  show extWb 45 _ _ = _
  have e2 : extWal 45 [.int .u32 s, .sl β o bs.length c 1] ⟨h, m⟩ = some (.int .u32 (crcM s bs), ⟨h, m + (11 + bs.length * 101)⟩) := by
    unfold extWal orA
    have : extSort 45 [.int .u32 s, .sl β o bs.length c 1] ⟨h, m⟩ = none := rfl
    rw [this]
    simp only
    rw [e]
  exact e2
theorem w_moreS {s : Int} (S : SecV h v bs) : ∃ v' h' m', TC 45 [.int .u32 s, v] ⟨h, m⟩ = some (v', ⟨h', m'⟩) ∧ (v' = .int .u32 (crcM s bs) ∧ h = h' ∧ m ≤ m') := by
  obtain ⟨β, c, rfl, ⟨r, R, hr⟩, hl, hc⟩ := S
  have := w_more (m := m) (s := s) (bs := bs) (o := 0) (c := c) R (fun i b hb => by
    rw [Nat.zero_add, List.getElem?_append_left (by rw [cellsB_len]; exact (List.getElem?_eq_some_iff.1 hb).1), cellsB, List.getElem?_map, hb]; rfl) (by rw [List.length_append, cellsB_len]; omega) (by omega)
  rw [hl] at this; exact this

noncomputable def frS (v : AV) (s : Int) (i : Nat) : Fr := (((T.nil.set 6 v).set 7 (.int .i64 1)).set 8 (.int .i64 (i : Int))).set 3 (.int .u32 s)
/-- crc.Sum of one part. -/
theorem w_sum {l : List AV} {o c q : Nat} (Q : Row h q [.sl β o bs.length c 1]) (R : Row h β l) (hg : ∀ (i : Nat) b, bs[i]? = some b → l[o + i]? = some (.int .u8 (b.toNat : Int))) (hfit : o + bs.length ≤ l.length) (hl : bs.length < 1000000) :
    ∃ v' h' m', TC 44 [.sl q 0 1 1 1] ⟨h, m⟩ = some (v', ⟨h', m'⟩) ∧ (v' = .int .u32 (crcM 0 bs) ∧ h = h' ∧ m ≤ m') := by
  refine top_fn Tryd.func44 (by rfl) rfl rfl (by rfl) ?_
  refine Ek.seq ?_
  refine Ek.reg ?_
  refine SeqR.go rfl rfl rfl (st_pure rfl rfl) rfl ?_
  refine SeqR.nil ?_
  refine Ek.seq ?_
  refine Ek.reg ?_
  refine SeqR.go rfl rfl rfl (st_pure rfl rfl) rfl ?_
  refine SeqR.nil ?_
  refine Ek.seq ?_
  refine Ek.seq ?_
  refine Ek.reg ?_
  refine SeqR.go rfl rfl rfl (st_pure rfl rfl) rfl ?_
  refine SeqR.go rfl rfl rfl (st_len te22) rfl ?_
  refine SeqR.go rfl rfl rfl (st_pure rfl rfl) rfl ?_
  refine SeqR.nil ?_
  refine Ek.block ?_
  refine Ek.loop ?_
  refine Ek.seq ?_
  refine Ek.reg ?_
  refine SeqR.go rfl rfl rfl (st_pure rfl rfl) rfl ?_
  refine SeqR.nil ?_
  refine Ek.seq ?_
  refine Ek.condT rfl rfl ?_
  refine Ek.skip ?_
  refine Ek.seq ?_
  refine Ek.block ?_
  refine Ek.seq ?_
  refine Ek.reg ?_
  refine SeqR.go rfl rfl rfl (idx te22 tz33) rfl ?_
  refine SeqR.go rfl rfl rfl (ld ta33) rfl ?_
  refine SeqR.go rfl rfl rfl (st_pure rfl rfl) rfl ?_
  refine SeqR.nil ?_
  refine Ek.reg ?_
  refine SeqR.go rfl rfl rfl (st_pure rfl rfl) rfl ?_
  refine SeqR.go rfl rfl rfl (st_pure rfl rfl) rfl ?_
  refine SeqR.cal rfl rfl rfl rfl rfl (w_more R hg hfit hl) ?_
  rintro _ _ m1 ⟨rfl, rfl, hm1⟩
  refine ⟨_, rfl, ?_⟩
  refine SeqR.go rfl rfl rfl (st_pure rfl rfl) rfl ?_
  refine SeqR.nil ?_
  refine Ek.reg ?_
  refine SeqR.go rfl rfl rfl (st_add (r := 1) (by rfl)) rfl ?_
  refine SeqR.go rfl rfl rfl (st_pure rfl rfl) rfl ?_
  refine SeqR.nil ?_
  refine Ek.loop ?_
  refine Ek.seq ?_
  refine Ek.reg ?_
  refine SeqR.go rfl rfl rfl (st_pure rfl rfl) rfl ?_
  refine SeqR.nil ?_
  refine Ek.seq ?_
  refine Ek.condF rfl rfl ?_
  refine Ek.exit ?_
  simp only [AEx.then, AEx.inBlock, if_true]
  refine Ek.seq ?_
  refine Ek.reg ?_
  refine SeqR.go rfl rfl rfl (st_pure rfl rfl) rfl ?_
  refine SeqR.go rfl rfl rfl (st_pure rfl rfl) rfl ?_
  refine SeqR.nil ?_
  exact Ek.ret ⟨Or.inr rfl, _, rfl, _, _, rfl, rfl, rfl, by omega⟩

def instL (D : Dk) : Nat → List Nat → Dk
  | _, [] => D
  | k, i :: r => instL (D.write i (D.now.getD k [])) (k + 1) r
theorem instL_snoc : ∀ (r : List Nat) (D : Dk) (k i : Nat), instL D k (r ++ [i]) = (instL D k r).write i ((instL D k r).now.getD (k + r.length) [])
  | [], D, k, i => rfl
  | j :: r, D, k, i => by
    show instL (D.write j _) (k + 1) (r ++ [i]) = _
    rw [instL_snoc r, List.length_cons, show k + 1 + r.length = k + (r.length + 1) by omega]; rfl
theorem Dk.write_now (D : Dk) (i : Nat) (b : By) : (D.write i b).now.length = D.now.length := by
  unfold Dk.write; split <;> simp
theorem Dk.write_writes (D : Dk) (i : Nat) (b : By) : (D.write i b).writes ≤ D.writes + 1 := by
  unfold Dk.write; split <;> simp
theorem Dk.flush_now (D : Dk) : D.flush.now = D.now := by unfold Dk.flush; split <;> rfl
theorem Dk.flush_writes (D : Dk) : D.flush.writes = D.writes := by unfold Dk.flush; split <;> rfl
theorem instL_now : ∀ (r : List Nat) (D : Dk) (k : Nat), (instL D k r).now.length = D.now.length
  | [], _, _ => rfl
  | i :: r, D, k => by
    show (instL (D.write i _) (k + 1) r).now.length = _
    rw [instL_now r, Dk.write_now]
theorem instL_writes : ∀ (r : List Nat) (D : Dk) (k : Nat), (instL D k r).writes ≤ D.writes + r.length
  | [], _, _ => Nat.le_refl _
  | i :: r, D, k => by
    show (instL (D.write i _) (k + 1) r).writes ≤ _
    have h1 := instL_writes r (D.write i (D.now.getD k [])) (k + 1)
    have h2 := D.write_writes i (D.now.getD k [])
    rw [List.length_cons]; omega
def inst (D : Dk) (is : List Nat) : Dk := ((instL D 1 is).flush.write 0 zeroS).flush
def intsV (is : List Nat) : List AV := is.map fun (i : Nat) => AV.int .i64 (i : Int)
theorem intsV_at {is : List Nat} {k i : Nat} (h : is[k]? = some i) : (intsV is)[k]? = some (.int .i64 (i : Int)) := by simp [intsV, h]

theorem Vec.stp {z : Nat} {l : List AV} (V : Vec h z v l) (B : Bd h m) (t : Stp own h m own' h' m') (hs : ∀ γ, v.base = some γ → ¬ own γ) : Vec h' z v l :=
  V.of_eq fun γ hγ => t.same γ (B.base V hγ) (hs γ hγ)

theorem Stp.mono {m'' : Nat} (t : Stp own h m own' h' m') (hm : m' ≤ m'') : Stp own h m own' h' m'' := ⟨Nat.le_trans t.up hm, t.same, t.sub⟩
theorem Stp.keep {m' : Nat} (hm : m ≤ m') (hs : ∀ γ, γ < m → h'.get γ = h.get γ) : Stp own h m own h' m' := ⟨hm, fun γ h1 _ => hs γ h1, fun _ q => Or.inl q⟩
theorem Disk.keep1 {ev : AV} (A : Disk h d D own) (B : Bd h m) (hq : ∀ γ, ev.base = some γ → ¬ own γ) (hqs : ∀ β c bs, Sec h β c bs → ev.base ≠ some β) (hs : ∀ γ, γ < m → ev.base ≠ some γ → h'.get γ = h.get γ) : Disk h' d D own := by
  obtain ⟨L, N, cv, A, rfl⟩ := A
  have sm : ∀ v b, SecV h v b → SecV h' v b := fun v b s => by
    obtain ⟨β, c, rfl, s⟩ := s
    obtain ⟨r, R, _⟩ := s.row
    exact ⟨β, c, rfl, s.of_eq (hs β (B.row R) (hqs β c b s))⟩
  have go : ∀ γ, γ < m → Ow d L N cv γ → h'.get γ = h.get γ := fun γ h1 h2 => hs γ h1 fun e => hq γ e h2
  obtain ⟨vl, Rl, Sl⟩ := A.lasts
  obtain ⟨vn, Rn, Sn⟩ := A.now
  obtain ⟨cs, V, C⟩ := A.cac
  exact ⟨L, N, cv, ⟨A.row.of_eq (go d (B.row A.row) (Or.inl rfl)), ⟨vl, Rl.of_eq (go L (B.row Rl) (Or.inr (Or.inl rfl))), Sl.mono sm⟩, ⟨vn, Rn.of_eq (go N (B.row Rn) (Or.inr (Or.inr (Or.inl rfl)))), Sn.mono sm⟩,
    ⟨cs, V.of_eq fun γ hγ => go γ (B.base V hγ) (Or.inr (Or.inr (Or.inr hγ))), C.mono sm⟩, A.cne, A.dL, A.dN, A.LN, A.cd, A.cL, A.cN, A.len, A.pos, A.big, A.idx, A.few, A.lim⟩, rfl⟩
theorem nil_not_sec {ev : AV} {k : Nat} (Ve : Vec h 1 ev (List.replicate k .nili)) : ∀ β c bs, Sec h β c bs → ev.base ≠ some β := by
  intro β c bs s hb
  obtain ⟨r, R, _⟩ := s.row
  obtain ⟨rfl, _⟩ | ⟨γ, n, rfl, _, Q⟩ := Ve
  · cases hb
  · injection hb with hb; subst hb
    have e := R.uniq Q
    have hl := congrArg List.length e
    rw [List.length_append, cellsB_len, s.len, List.length_replicate] at hl
    have h0 : (cellsB bs ++ r)[0]? = some .nili := by rw [e, List.getElem?_replicate, if_pos (by omega)]
    rw [List.getElem?_append_left (by rw [cellsB_len, s.len]; decide)] at h0
    simp only [cellsB, List.getElem?_map, Option.map_eq_some_iff] at h0
    obtain ⟨a, _, ha⟩ := h0
    cases ha
theorem err_app {hk h3 : T ABlk} {mk nm m2 m3 k : Nat} {blk : ABlk} {ev v3 : AV} {ok : Nat → Prop} (A : Disk hk d D ok) (Bk : Bd hk mk) (tk : Stp own h m ok hk mk) (Ve : Vec hk 1 ev (List.replicate k .nili)) (hek : ∀ γ, ev.base = some γ → ¬ ok γ ∧ m ≤ γ)
    (hnm : mk ≤ nm) (hnm2 : nm < m2) (p1 : m2 ≤ m3) (p3 : ∀ γ, γ < m2 ∨ m3 ≤ γ → ev.base ≠ some γ → h3.get γ = (hk.set nm blk).get γ) (p4 : v3.base = ev.base ∨ v3.base = some m2) (V3 : Vec h3 1 v3 (List.replicate k .nili ++ [.nili])) :
    Disk h3 d D ok ∧ Bd h3 m3 ∧ Stp own h m ok h3 m3 ∧ Vec h3 1 v3 (List.replicate (k + 1) .nili) ∧ ∀ γ, v3.base = some γ → ¬ ok γ ∧ m ≤ γ := by
  have sm : ∀ γ, γ < mk → ev.base ≠ some γ → h3.get γ = hk.get γ := fun γ h1 h2 => by rw [p3 γ (Or.inl (by omega)) h2, get_set_ne (by omega)]
  have tu := tk.up
  refine ⟨A.keep1 Bk (fun γ hγ => (hek γ hγ).1) (nil_not_sec Ve) sm, fun γ hγ => ?_, ⟨by omega, fun γ h1 h2 => ?_, tk.sub⟩, by rw [List.replicate_succ']; exact V3, fun γ hγ => ?_⟩
  · rw [p3 γ (Or.inr hγ) (fun e => by have := Bk.base Ve e; omega), get_set_ne (by omega)]; exact Bk γ (by omega)
  · rw [sm γ (by omega) (fun e => by have := (hek γ e).2; omega)]; exact tk.same γ h1 h2
  · rcases p4 with e | e
    · exact hek γ (e ▸ hγ)
    · rw [e] at hγ; injection hγ with hγ; subst hγ
      exact ⟨fun q => by have := A.own_lt Bk q; omega, by omega⟩
theorem hek_stp {hk h2 : T ABlk} {mk m2 z : Nat} {ev : AV} {ok own2 : Nat → Prop} {l : List AV} (t : Stp ok hk mk own2 h2 m2) (Bk : Bd hk mk) (Ve : Vec hk z ev l) (hek : ∀ γ, ev.base = some γ → ¬ ok γ ∧ m ≤ γ) : ∀ γ, ev.base = some γ → ¬ own2 γ ∧ m ≤ γ :=
  fun γ hγ => ⟨fun q => (t.sub γ q).elim (hek γ hγ).1 (fun r => by have := Bk.base Ve hγ; omega), (hek γ hγ).2⟩

noncomputable def frI (d : Nat) (ev v : AV) (n k : Nat) : Fr := ((((T.nil.set 0 (.ptr d 0)).set 5 ev).set 10 v).set 11 (.int .i64 (n : Int))).set 12 (.int .i64 (k : Int))
theorem w_install (A : Disk h d D own) (B : Bd h m) {is : List Nat} (V : Vec h 1 v (intsV is)) (hsep : ∀ γ, v.base = some γ → ¬ own γ) (his : ∀ i ∈ is, i < D.now.length) (hlen : is.length ≤ 40) (hnow : 42 ≤ D.now.length) (hw : D.writes < 90000) :
    ∃ v' h' m', TC 32 [.ptr d 0, v] ⟨h, m⟩ = some (v', ⟨h', m'⟩) ∧ (v' = .nili ∧ ∃ own', Disk h' d (inst D is) own' ∧ Bd h' m' ∧ Stp own h m own' h' m') := by
  have hil : (intsV is).length = is.length := by simp [intsV]
  refine top_fn Tryd.func32 (by rfl) rfl rfl (by rfl) ?_
  refine Ek.seq ?_
  refine Ek.reg ?_
  refine SeqR.go rfl rfl rfl (st_pure rfl rfl) rfl ?_
  refine SeqR.nil ?_
  refine Ek.seq ?_
  refine Ek.reg ?_
  refine SeqR.go rfl rfl rfl (st_pure rfl rfl) rfl ?_
  refine SeqR.nil ?_
  refine Ek.seq ?_
  refine Ek.seq ?_
  refine Ek.reg ?_
  refine SeqR.go rfl rfl rfl (st_pure rfl rfl) rfl ?_
  refine SeqR.go rfl rfl rfl (st_lenV (n := is.length) te23 V (by decide) (by simp [intsV])) rfl ?_
  refine SeqR.go rfl rfl rfl (st_pure rfl rfl) rfl ?_
  refine SeqR.nil ?_
  refine Ek.block ?_
  refine Ek.loop_inv (fun e fr st => ∃ k hk mk ev ok, k + e = is.length ∧ Le (frI d ev v is.length k) fr ∧ st = ⟨hk, mk⟩ ∧ Disk hk d (instL D 1 (is.take k)) ok ∧ Bd hk mk ∧ Stp own h m ok hk mk ∧ Vec hk 1 ev (List.replicate k .nili) ∧ (∀ γ, ev.base = some γ → ¬ ok γ ∧ m ≤ γ)) ?_ (is.length) _ _ ⟨0, h, _, .nils, own, by omega, Le.put (Le.put (Le.put (Le.put (Le.put (Le.nil _) rfl) rfl) rfl) rfl) rfl, rfl, A, B.mono (by omega), Stp.refl (by omega), Or.inl ⟨rfl, rfl⟩, fun γ hγ => (by cases hγ)⟩
  rintro e fr st ⟨k, hk, mk, ev, ok, hi, hle, rfl, Ak, Bk, tk, Vk, hek⟩
  refine Ek.weaken hle ?_
  clear hle
  have hww := instL_writes (is.take k) D 1
  have htk : (is.take k).length = k := by simp; omega
  rw [htk] at hww
  refine Ek.seq ?_
  refine Ek.reg ?_
  refine SeqR.go rfl rfl rfl (st_pure rfl rfl) rfl ?_
  refine SeqR.nil ?_
  refine Ek.seq ?_
  by_cases hkn : k < is.length
  · refine Ek.condT rfl (by simp; omega) ?_
    refine Ek.skip ?_
    refine Ek.seq ?_
    refine Ek.block ?_
    refine Ek.seq ?_
    obtain ⟨i, hci⟩ : ∃ i, is[k]? = some i := ⟨is[k], List.getElem?_eq_getElem hkn⟩
    have hi2 := his i (List.mem_of_getElem? hci)
    have Vk2 : Vec hk 1 v (intsV is) := V.stp B tk hsep
    obtain ⟨γ, n2, rfl, hn2, Rv⟩ := Vk2.sl_of (by intro e; rw [e] at hil; simp at hil; omega)
    have hn2k : k < n2 := by omega
    have hvk : (intsV is)[0 + (k : Int).toNat * 1]? = some (.int .i64 (i : Int)) := by simpa using intsV_at hci
    have hnk : (instL D 1 (is.take k)).now[1 + k]? = some ((instL D 1 (is.take k)).now.getD (1 + k) []) := by rw [List.getD_eq_getElem?_getD, List.getElem?_eq_getElem (by rw [instL_now]; omega)]; rfl
    refine Ek.reg ?_
    refine SeqR.go rfl rfl rfl (st_pure rfl rfl) rfl ?_
    refine SeqR.go rfl rfl rfl (idx te23 tz3) rfl ?_
    refine SeqR.go rfl rfl rfl (ld ta3) rfl ?_
    refine SeqR.go rfl rfl rfl (st_pure rfl rfl) rfl ?_
    refine SeqR.go rfl rfl rfl (st_pure rfl rfl) rfl ?_
    refine SeqR.nil ?_
    refine Ek.seq ?_
    refine Ek.reg ?_
    refine SeqR.go rfl rfl rfl (st_pure rfl rfl) rfl ?_
    refine SeqR.go rfl rfl rfl (st_pure rfl rfl) rfl ?_
    refine SeqR.go rfl rfl rfl (addK (a := 1) (b := k) (by omega)) rfl ?_
    refine SeqR.cal rfl rfl rfl rfl rfl (w_read Ak (Bk.mono (by omega)) hnk) ?_
    rintro v1 h1 m1 ⟨s1, rfl, S1, B1, hm1, same1⟩
    refine ⟨_, rfl, ?_⟩
    refine SeqR.go rfl rfl rfl (st_pure rfl rfl) rfl ?_
    refine SeqR.go rfl rfl rfl (st_pure rfl rfl) rfl ?_
    refine SeqR.go rfl rfl rfl (st_pure rfl rfl) rfl ?_
    refine SeqR.go rfl rfl rfl (st_pure rfl rfl) rfl ?_
    refine SeqR.go rfl rfl rfl (st_pure rfl rfl) rfl ?_
    refine SeqR.nil ?_
    refine Ek.reg ?_
    refine SeqR.go rfl rfl rfl (st_pure rfl rfl) rfl ?_
    refine SeqR.go rfl rfl rfl (st_pure rfl rfl) rfl ?_
    refine SeqR.go rfl rfl rfl (st_pure rfl rfl) rfl ?_
    refine SeqR.go rfl rfl rfl (st_pure rfl rfl) rfl ?_
    refine SeqR.cal rfl rfl rfl rfl rfl (w_write (Ak.keep Bk (fun γ hγ => same1 γ (by omega))) (B1.mono (by omega)) S1 (by rw [instL_now]; exact hi2) (by omega)) ?_
    rintro v2 h2 m2 ⟨rfl, own2, A2, B2, t2⟩
    refine ⟨_, rfl, ?_⟩
    have B1' : Bd h1 (m1 + 1 + 1 + 1 + 1 + 1 + 1 + 1 + 1 + 1 + 1) := B1.mono (by omega)
    have T2 := tk.trans ((Stp.keep (by omega) (fun γ hγ => same1 γ (by omega))).trans t2)
    have Ve1 : Vec h1 1 ev _ := Vk.of_eq (fun γ hγ => same1 γ (by have := Bk.base Vk hγ; omega))
    have Ve2 : Vec h2 1 ev _ := Ve1.stp (B1.mono (by omega)) t2 (fun γ hγ => (hek γ hγ).1)
    have hek2 := hek_stp t2 (B1.mono (by omega)) Ve1 hek
    refine SeqR.go rfl rfl rfl (bs1 te77 tz29 tzo29) rfl ?_
    refine SeqR.ex rfl rfl rfl (st_app (new := [.nili]) (k := 1) te77 tz29 tb29 te77 (Ve2.of_eq fun γ hγ => get_set_ne (by have := B2.base Ve2 hγ; omega)) (by decide) (by decide) rfl (elems_row (Row.new) (Nat.le_refl 1)) rfl rfl tzo29 (by simp; omega)) ?_
    rintro v3 h3 m3 ⟨V3, p1, p2, p3, p4⟩
    refine ⟨_, rfl, ?_⟩
    refine SeqR.go rfl rfl rfl (st_pure rfl rfl) rfl ?_
    refine SeqR.nil ?_
    refine Ek.reg ?_
    refine SeqR.go rfl rfl rfl add1 rfl ?_
    refine SeqR.go rfl rfl rfl (st_pure rfl rfl) rfl ?_
    refine SeqR.nil ?_
    obtain ⟨A4, B4, t4, V4, he4⟩ := err_app A2 B2 T2 Ve2 hek2 (by omega) (by omega) p1 p3 p4 V3
    have e1 : instL D 1 (is.take (k + 1)) = (instL D 1 (is.take k)).write i ((instL D 1 (is.take k)).now.getD (1 + k) []) := by
      rw [List.take_add_one, hci, Option.toList_some, instL_snoc, htk]
    exact ⟨e - 1, by omega, k + 1, _, _, v3, own2, by omega, Le.put (Le.put (Le.put (Le.put (Le.put (Le.nil _) rfl) rfl) rfl) rfl) rfl, rfl, by rw [e1]; exact A4, B4.mono (by omega), t4.mono (by omega), V4, he4⟩
  · refine Ek.condF rfl (by simp; omega) ?_
    refine Ek.exit ?_
    simp only [AEx.then, AEx.inBlock, if_true]
    refine Ek.seq ?_
    have hkn2 : k = is.length := by omega
    subst hkn2
    rw [List.take_length] at Ak hww
    refine Ek.reg ?_
    refine SeqR.go rfl rfl rfl (st_pure rfl rfl) rfl ?_
    refine SeqR.cal rfl rfl rfl rfl rfl (w_flush Ak (Bk.mono (by omega)) (by omega)) ?_
    rintro v1 h1 m1 ⟨rfl, own1, A1, B1, t1⟩
    refine ⟨_, rfl, ?_⟩
    refine SeqR.nil ?_
    refine Ek.seq ?_
    refine Ek.reg ?_
    refine SeqR.go rfl rfl rfl (st_pure rfl rfl) rfl ?_
    refine SeqR.go rfl rfl rfl (st_pure rfl rfl) rfl ?_
    refine SeqR.go rfl rfl rfl (st_mkslice (n := 512) te33 tz5 tb5 tv5 rfl (by decide) (by decide) (by decide)) rfl ?_
    have hz0 : ∀ q, SecV (h1.set q (blkOf (List.replicate 512 (AV.int .u8 0).cells).flatten)) (.sl q 0 512 512 1) zeroS := fun q => ⟨q, 512, rfl, ⟨[], by rw [List.append_nil, zeroS_cells]; exact Row.new, rfl⟩, List.length_replicate, Nat.le_refl _⟩
    refine SeqR.cal rfl rfl rfl rfl rfl (w_write (i := 0) (A1.keep B1 (fun γ hγ => get_set_ne (by omega))) (Bd.set B1 (by omega) (by omega)) (hz0 _) (by rw [Dk.flush_now, instL_now]; omega) (by rw [Dk.flush_writes]; omega)) ?_
    rintro v2 h2 m2 ⟨rfl, own2, A2, B2, t2⟩
    refine ⟨_, rfl, ?_⟩
    have T1 := (tk.mono (by omega)).trans t1
    have Ve1 : Vec h1 1 ev _ := Vk.stp (Bk.mono (by omega)) t1 (fun γ hγ => (hek γ hγ).1)
    have hek1 := hek_stp t1 (Bk.mono (by omega)) Vk hek
    have T2 := T1.trans ((Stp.keep (by omega) (fun γ hγ => get_set_ne (by omega))).trans t2)
    have Ve1' := Ve1.of_eq (h' := h1.set (m1 + 1 + 1) (blkOf (List.replicate 512 (AV.int .u8 0).cells).flatten)) (fun γ hγ => get_set_ne (by have := B1.base Ve1 hγ; omega))
    have Ve2 : Vec h2 1 ev (List.replicate is.length .nili) := by refine Vec.stp Ve1' (Bd.set B1 ?_ ?_) t2 (fun γ hγ => (hek1 γ hγ).1) <;> omega
    have hek2 := hek_stp t2 (Bd.set B1 (by omega) (by omega)) Ve1' hek1
    refine SeqR.go rfl rfl rfl (bs1 te77 tz29 tzo29) rfl ?_
    refine SeqR.ex rfl rfl rfl (st_app (new := [.nili]) (k := 1) te77 tz29 tb29 te77 (Ve2.of_eq fun γ hγ => get_set_ne (by have := B2.base Ve2 hγ; omega)) (by decide) (by decide) rfl (elems_row (Row.new) (Nat.le_refl 1)) rfl rfl tzo29 (by simp; omega)) ?_
    rintro v3 h3 m3 ⟨V3, p1, p2, p3, p4⟩
    refine ⟨_, rfl, ?_⟩
    refine SeqR.go rfl rfl rfl (st_pure rfl rfl) rfl ?_
    refine SeqR.nil ?_
    refine Ek.seq ?_
    obtain ⟨A3, B3, T3, V3e, he3⟩ := err_app A2 B2 T2 Ve2 hek2 (by omega) (by omega) p1 p3 p4 V3
    refine Ek.reg ?_
    refine SeqR.go rfl rfl rfl (st_pure rfl rfl) rfl ?_
    refine SeqR.cal rfl rfl rfl rfl rfl (w_flush A3 (B3.mono (by omega)) (by have := Dk.write_writes (instL D 1 is).flush 0 zeroS; rw [Dk.flush_writes] at this; omega)) ?_
    rintro v4 h4 m4 ⟨rfl, own4, A4, B4, t4⟩
    refine ⟨_, rfl, ?_⟩
    refine SeqR.nil ?_
    refine Ek.seq ?_
    refine Ek.reg ?_
    have V4 : Vec h4 1 v3 _ := V3e.stp (B3.mono (by omega)) t4 (fun γ hγ => (he3 γ hγ).1)
    refine SeqR.go rfl rfl rfl (st_pure rfl rfl) rfl ?_
    refine SeqR.cal rfl rfl rfl rfl rfl (w_join V4 (by omega)) ?_
    rintro v5 h5 m5 ⟨rfl, rfl, hm5⟩
    refine ⟨_, rfl, ?_⟩
    refine SeqR.go rfl rfl rfl (st_pure rfl rfl) rfl ?_
    refine SeqR.nil ?_
    exact Ek.ret ⟨Or.inr rfl, _, rfl, _, _, rfl, rfl, own4, A4, B4.mono (by omega), ((T3.mono (by omega)).trans t4).mono (by omega)⟩
end
end Go.Xec
