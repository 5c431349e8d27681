/- The log's Sync, by contract. -/
import Derived.Test.YtkmabheddbbndaaDoorXWf6
namespace Go.Xec
open Go.Proofs
section
variable {h h' hf : T ABlk} {l d W M β m m' : Nat} {v : AV} {D : Dk} {G : Lg} {own own' od : Nat → Prop} {bs b : By}
theorem getW_mem {ws : List (Nat × By)} {p : Nat × By} : p ∈ ws → (getW p.1 ws).isSome = true := by
  induction ws with
  | nil => intro h; cases h
  | cons q l ih =>
    intro h
    simp only [getW]
    split
    · rfl
    · rename_i hq
      rcases List.mem_cons.1 h with rfl | h
      · exact absurd rfl hq
      · exact ih h
theorem stp_free {hk h3 : T ABlk} {mk mc m3 q : Nat} {ok ow : Nat → Prop} (t : Stp ok hk mc ow h3 m3) (A : Disk hk d D ok) (B : Bd hk mk) (h1 : mk ≤ q) (h2 : q < mc) : h3.get q = none := by
  rw [t.same q h2 (fun o => by have := A.own_lt B o; omega)]; exact B q h1
theorem own_some (A : Disk h d D own) {q : Nat} (o : own q) : h.get q ≠ none := by
  obtain ⟨L, N, cv, A, rfl⟩ := A
  have rowE : ∀ {γ : Nat} {l : List AV}, Row h γ l → h.get γ ≠ none := fun R => by obtain ⟨cs, h1, _⟩ := R; rw [h1]; simp
  rcases o with rfl | rfl | rfl | hc
  · exact rowE A.row
  · obtain ⟨_, R, _⟩ := A.lasts; exact rowE R
  · obtain ⟨_, R, _⟩ := A.now; exact rowE R
  · obtain ⟨cs, V, _⟩ := A.cac
    obtain ⟨rfl, _⟩ | ⟨β, n, rfl, _, R⟩ := V
    · cases hc
    · injection hc with hc; subst hc; exact rowE R
theorem stp_free7 {hk h3 : T ABlk} {mc m3 q a b : Nat} {ok ow : Nat → Prop} (t : Stp ok hk mc ow h3 m3) (A : Disk hk d D ok) (F : ∀ q, a ≤ q → q < b → hk.get q = none) (h1 : a ≤ q) (h4 : q < b) (h2 : q < mc) : h3.get q = none := by
  rw [t.same q h2 (fun o => own_some A o (F q h1 h4))]; exact F q h1 h4
theorem log_reset {hk : T ABlk} {mk a b : Nat} {ok : Nat → Prop} (A : Disk hk d D ok) (Bk : Bd hk mk) (R : Row hk l [.ptr d 0, .mp W, .mp M]) (nl : ¬ ok l) (ha : mk ≤ a) (hab : a < b) :
    Disk ((((hk.set a (.map [] 0)).set b (.map [] 0)).upd l (0 + 1) (AV.mp a).cells).upd l (0 + 2) (AV.mp b).cells) d D ok ∧
    Log ((((hk.set a (.map [] 0)).set b (.map [] 0)).upd l (0 + 1) (AV.mp a).cells).upd l (0 + 2) (AV.mp b).cells) l d ⟨D, [], []⟩ (fun γ => γ = l ∨ γ = a ∨ γ = b ∨ ok γ) ∧
    (∀ m', b < m' → Bd ((((hk.set a (.map [] 0)).set b (.map [] 0)).upd l (0 + 1) (AV.mp a).cells).upd l (0 + 2) (AV.mp b).cells) m') ∧
    ∀ γ, γ < mk → γ ≠ l → ((((hk.set a (.map [] 0)).set b (.map [] 0)).upd l (0 + 1) (AV.mp a).cells).upd l (0 + 2) (AV.mp b).cells).get γ = hk.get γ := by
  have hl := Bk.row R
  have same : ∀ γ, γ < mk → γ ≠ l → ((((hk.set a (.map [] 0)).set b (.map [] 0)).upd l (0 + 1) (AV.mp a).cells).upd l (0 + 2) (AV.mp b).cells).get γ = hk.get γ := fun γ h1 h2 => by
    rw [upd_ne h2, upd_ne h2, get_set_ne (by omega), get_set_ne (by omega)]
  have AD : Disk ((((hk.set a (.map [] 0)).set b (.map [] 0)).upd l (0 + 1) (AV.mp a).cells).upd l (0 + 2) (AV.mp b).cells) d D ok := by
    refine A.keep2 (ev := .sl l 0 0 0 0) (fun γ hγ => by injection hγ with hγ; subst hγ; exact nl) (fun β c bs s => ?_) (fun γ b h1 h2 => same γ (Bk.lt h1) (fun e => h2 (by rw [e]; rfl)))
    intro e
    injection e with e; subst e
    obtain ⟨r, Q, _⟩ := s.row
    have := congrArg List.length (Q.uniq R)
    rw [List.length_append, cellsB_len, s.len] at this
    simp at this; omega
  refine ⟨AD, ⟨a, b, ok, ⟨?_, ⟨[], MapI.new.of_eq (h := hk.set a (.map [] 0)) ?_, WV.nil⟩, ⟨[], MapI.new.of_eq (h := (hk.set a (.map [] 0)).set b (.map [] 0)) ?_, WV.nil⟩, AD, nl, fun q => ?_, fun q => ?_, by omega, by simp⟩, rfl⟩, fun m' hm => ?_, same⟩
  · exact ((((R.set_ne (by omega)).set_ne (by omega)).upd1 (by simp)).upd1 (by simp))
  · rw [upd_ne (by omega), upd_ne (by omega), get_set_ne (by omega)]
  · rw [upd_ne (by omega), upd_ne (by omega)]
  · have := A.own_lt Bk q; omega
  · have := A.own_lt Bk q; omega
  · exact ((Bd.set (m' := m') (Bd.set (m' := m') Bk (by omega) (by omega)) (by omega) (by omega)).upd).upd
theorem stp_fin {h2 hk hF : T ABlk} {m2 mk mF a b : Nat} {ok : Nat → Prop} (T : Stp od h2 m2 ok hk mk) (same : ∀ γ, γ < m → h2.get γ = h.get γ) (hm : m ≤ m2) (sF : ∀ γ, γ < mk → γ ≠ l → hF.get γ = hk.get γ) (ha : mk ≤ a) (hab : a < b) (hmF : mk ≤ mF) :
    Stp (fun γ => γ = l ∨ γ = W ∨ γ = M ∨ od γ) h m (fun γ => γ = l ∨ γ = a ∨ γ = b ∨ ok γ) hF mF := by
  have tu := T.up
  refine ⟨by omega, fun γ h1 h2 => ?_, ?_⟩
  · rw [sF γ (by omega) (fun e => h2 (Or.inl e)), T.same γ (by omega) (fun e => h2 (Or.inr (Or.inr (Or.inr e)))), same γ h1]
  · rintro γ (rfl | rfl | rfl | q)
    · exact Or.inl (Or.inl rfl)
    · exact Or.inr (by omega)
    · exact Or.inr (by omega)
    · exact (T.sub γ q).elim (fun r => Or.inl (Or.inr (Or.inr (Or.inr r)))) (fun r => Or.inr (by omega))

noncomputable def frY (l : Nat) (v ev : AV) (n k : Nat) : Fr := (((((T.nil.set 0 (.ptr l 0)).set 3 v).set 4 ev).set 21 v).set 22 (.int .i64 (n : Int))).set 23 (.int .i64 (k : Int))
theorem w_sync (A : Log h l d G own) (B : Bd h m) (hr : ∀ p ∈ G.waits, 48 ≤ p.1 ∧ p.1 < G.disk.now.length) (hlen : 128 ≤ G.disk.now.length) (hbig : G.disk.now.length ≤ 4096) (hw : G.disk.writes < 80000) :
    ∃ v' h' m', TC 13 [.ptr l 0] ⟨h, m⟩ = some (v', ⟨h', m'⟩) ∧ (((syncD G.disk G.waits).dead = false ∧ v' = .nili ∨ (syncD G.disk G.waits).dead = true ∧ ∃ a, v' = .ifc 86 a) ∧ ∃ own', Log h' l d ⟨syncD G.disk G.waits, [], []⟩ own' ∧ Bd h' m' ∧ Stp own h m own' h' m') := by
  obtain ⟨W, M, od, A, rfl⟩ := A
  have R := A.row
  have hlm := B.row R
  obtain ⟨kw, X, Xw⟩ := A.waits
  have hWm := B.mapI X
  have hkl := Xw.len
  have hfew := A.few
  have hkeys : kw.map (·.1) = (G.waits.map (·.1)).map fun (x : Nat) => (x : Int) := by rw [Xw.1, List.map_map]; rfl
  obtain ⟨is, his⟩ : ∃ is, is = sortN (G.waits.map (·.1)) := ⟨_, rfl⟩
  have hisl : is.length ≤ 40 := by rw [his, sortN_len, List.length_map]; exact hfew
  have hismem : ∀ i ∈ is, ∃ p ∈ G.waits, p.1 = i := by
    intro i hi; rw [his, sortN_mem] at hi; obtain ⟨p, hp, e⟩ := List.mem_map.1 hi; exact ⟨p, hp, e⟩
  have hir : ∀ i ∈ is, 48 ≤ i ∧ i < G.disk.now.length := fun i hi => by obtain ⟨p, hp, rfl⟩ := hismem i hi; exact hr p hp
  have hisg : ∀ i ∈ is, (getW i G.waits).isSome = true := fun i hi => by obtain ⟨p, hp, rfl⟩ := hismem i hi; exact getW_mem hp
  have hi32 : ∀ i ∈ is, i < 4294967296 := fun i hi => by have := hir i hi; omega
  have hkb : ∀ p ∈ kw, -9223372036854775808 ≤ p.1 ∧ p.1 ≤ 9223372036854775807 := by
    intro p hp
    have h1 : p.1 ∈ kw.map (·.1) := List.mem_map.2 ⟨p, hp, rfl⟩
    rw [Xw.1] at h1
    obtain ⟨q, hq, e⟩ := List.mem_map.1 h1
    have := hr q hq
    omega
  have hcl : (conts G.waits is).length = is.length := by simp [conts]
  refine top_fn Tryd.func13 (by rfl) rfl rfl (by rfl) ?_
  refine Ek.seq ?_
  refine Ek.reg ?_
  refine SeqR.go rfl rfl rfl (st_pure rfl rfl) rfl ?_
  refine SeqR.nil ?_
  refine Ek.seq ?_
  refine Ek.seq ?_
  refine Ek.reg ?_
  refine SeqR.go rfl rfl rfl (st_pure rfl rfl) rfl ?_
  refine SeqR.go rfl rfl rfl (st_eqnil tu27) rfl ?_
  refine SeqR.nil ?_
  refine Ek.condF rfl rfl ?_
  refine Ek.skip ?_
  refine Ek.seq ?_
  refine Ek.reg ?_
  refine SeqR.go rfl rfl rfl (st_pure rfl rfl) rfl ?_
  refine SeqR.go rfl rfl rfl (st_pure rfl rfl) rfl ?_
  refine SeqR.go rfl rfl rfl (fld tF67_1) rfl ?_
  refine SeqR.go rfl rfl rfl (ld ta65) rfl ?_
  refine SeqR.cal rfl rfl rfl rfl rfl (w_keys) ?_
  rintro v1 h1 m1 ⟨q, rfl, hq1, hq2, rfl⟩
  refine ⟨_, rfl, ?_⟩
  refine SeqR.cal rfl rfl rfl rfl rfl (w_sorted Row.new (X.of_eq (get_set_ne (by omega))) (B.set (by omega) (by omega)) (by omega) hkb) ?_
  rintro v2 h2 m2 ⟨V2, B2, hm2, same2, hb2⟩
  refine ⟨_, rfl, ?_⟩
  refine SeqR.go rfl rfl rfl (st_pure rfl rfl) rfl ?_
  refine SeqR.nil ?_
  refine Ek.seq ?_
  refine Ek.seq ?_
  have e2 : (sortI (kw.map (·.1))).map (AV.int .i64) = intsV is := by rw [hkeys, sortI_cast, List.map_map, his]; rfl
  rw [e2] at V2
  have same : ∀ γ, γ < m → h2.get γ = h.get γ := fun γ hγ => by rw [same2 γ (by omega), get_set_ne (by omega)]
  have hb2m : ∀ γ, v2.base = some γ → m ≤ γ := fun γ hγ => by have := hb2 γ hγ; omega
  have A2 := A.keep B same
  have hsep : ∀ γ, v2.base = some γ → ¬ od γ := fun γ hγ q => by have := A.disk.own_lt B q; have := hb2m γ hγ; omega
  have hmm2 : m ≤ m2 := by omega
  refine Ek.reg ?_
  refine SeqR.go rfl rfl rfl (st_pure rfl rfl) rfl ?_
  refine SeqR.go rfl rfl rfl (st_lenV (n := is.length) te23 V2 (by decide) (by simp [intsV])) rfl ?_
  refine SeqR.go rfl rfl rfl (st_pure rfl rfl) rfl ?_
  refine SeqR.nil ?_
  by_cases hn : 0 < is.length
  · refine Ek.condT rfl (decide_eq_true (by omega)) ?_
    refine Ek.seq ?_
    refine Ek.reg ?_
    refine SeqR.go rfl rfl rfl (st_pure rfl rfl) rfl ?_
    refine SeqR.nil ?_
    refine Ek.seq ?_
    refine Ek.seq ?_
    refine Ek.reg ?_
    refine SeqR.go rfl rfl rfl (st_pure rfl rfl) rfl ?_
    refine SeqR.go rfl rfl rfl (st_lenV (n := is.length) te23 V2 (by decide) (by simp [intsV])) rfl ?_
    refine SeqR.go rfl rfl rfl (st_pure rfl rfl) rfl ?_
    refine SeqR.nil ?_
    refine Ek.block ?_
    refine Ek.loop_inv (fun e fr st => ∃ k hk mk ev ok, k + e = is.length ∧ Le (frY l v2 ev is.length k) fr ∧ st = ⟨hk, mk⟩ ∧ Disk hk d (wrL G.disk 1 ((conts G.waits is).take k)) ok ∧ Bd hk mk ∧ Stp od h2 m2 ok hk mk ∧ Vec hk 1 ev (List.replicate k .nili) ∧ (∀ γ, ev.base = some γ → ¬ ok γ ∧ m2 ≤ γ)) ?_ (is.length) _ _ ⟨0, h2, _, .nils, od, by omega, Le.put (Le.put (Le.put (Le.put (Le.put (Le.put (Le.nil _) rfl) rfl) rfl) rfl) rfl) rfl, rfl, A2.disk, B2.mono (by omega), Stp.refl (by omega), Or.inl ⟨rfl, rfl⟩, fun γ hγ => (by cases hγ)⟩
    rintro e fr st ⟨k, hk, mk, ev, ok, hi, hle, rfl, Ak, Bk, tk, Vk, hek⟩
    refine Ek.weaken hle ?_
    clear hle
    have hww := wrL_writes ((conts G.waits is).take k) G.disk 1
    have htk : ((conts G.waits is).take k).length = k := by rw [List.length_take]; omega
    rw [htk] at hww
    have tku := tk.up
    have Rk := A2.row.of_eq (tk.same l (by omega) A.nl)
    refine Ek.seq ?_
    refine Ek.reg ?_
    refine SeqR.go rfl rfl rfl (st_pure rfl rfl) rfl ?_
    refine SeqR.nil ?_
    refine Ek.seq ?_
    by_cases hkn : k < is.length
    · refine Ek.condT rfl (by simp; omega) ?_
      refine Ek.skip ?_
      refine Ek.seq ?_
      refine Ek.block ?_
      refine Ek.seq ?_
      obtain ⟨i, hci⟩ : ∃ i, is[k]? = some i := ⟨is[k], List.getElem?_eq_getElem hkn⟩
      have hmem := List.mem_of_getElem? hci
      have hvk : (intsV is)[0 + (k : Int).toNat * 1]? = some (.int .i64 (i : Int)) := by simpa using intsV_at hci
      have hil : (intsV is).length = is.length := by simp [intsV]
      obtain ⟨γ, n2, rfl, hn2, Rv⟩ := (V2.stp B2 tk hsep).sl_of (by intro e; rw [e] at hil; simp at hil; omega)
      have hn2k : k < n2 := by omega
      have Xk := (X.of_eq (same W hWm)).of_eq (tk.same W (by omega) A.nW)
      have hsg := hisg i hmem
      obtain ⟨g1, g2⟩ | ⟨sv, b2, hg1, hg2, hsec0⟩ := Xw.get i
      · rw [g2] at hsg; cases hsg
      have hsec : SecV hk sv b2 := (hsec0.keep B same).stp A2.disk B2 tk
      refine Ek.reg ?_
      refine SeqR.go rfl rfl rfl (st_pure rfl rfl) rfl ?_
      refine SeqR.go rfl rfl rfl (idx te23 tz3) rfl ?_
      refine SeqR.go rfl rfl rfl (ld ta3) rfl ?_
      refine SeqR.go rfl rfl rfl (st_pure rfl rfl) rfl ?_
      refine SeqR.go rfl rfl rfl (st_pure rfl rfl) rfl ?_
      refine SeqR.nil ?_
      refine Ek.drz (z := 17) (by kernel_rfl) rfl ?_
      refine SeqD.go rfl rfl rfl (st_pure rfl rfl) rfl ?_
      refine SeqD.go rfl rfl rfl (st_pure rfl rfl) rfl ?_
      refine SeqD.go rfl rfl rfl (st_pure rfl rfl) rfl ?_
      refine SeqD.go rfl rfl rfl (fld tF67_0) rfl ?_
      refine SeqD.go rfl rfl rfl (ld ta25) rfl ?_
      refine SeqD.go rfl rfl rfl (st_pure rfl rfl) rfl ?_
      refine SeqD.go rfl rfl rfl (addK (a := 1) (b := k) (by omega)) rfl ?_
      refine SeqD.go rfl rfl rfl (st_pure rfl rfl) rfl ?_
      refine SeqD.go rfl rfl rfl (st_pure rfl rfl) rfl ?_
      refine SeqD.go rfl rfl rfl (fld tF67_1) rfl ?_
      refine SeqD.go rfl rfl rfl (ld ta65) rfl ?_
      refine SeqD.go rfl rfl rfl (st_pure rfl rfl) rfl ?_
      refine SeqD.go rfl rfl rfl (st_lookup tm65 (tk3 _) Xk hg1) rfl ?_
      refine SeqD.cal rfl rfl rfl rfl rfl (w_write (i := 1 + k) Ak (Bk.mono (by omega)) hsec (by rw [wrL_now]; omega) (by omega)) ?_
      rintro v3 h3 m3 ⟨rfl, ow3, A3, B3, t3⟩
      refine ⟨_, rfl, ?_⟩
      have t3u := t3.up
      have T3 := (tk.mono (by omega)).trans t3
      have Ve3 : Vec h3 1 ev _ := Vk.stp (Bk.mono (by omega)) t3 (fun γ hγ => (hek γ hγ).1)
      have hek3 := hek_stp t3 (Bk.mono (by omega)) Vk hek
      refine SeqD.go rfl rfl rfl (bs1 te77 tz29 tzo29) rfl ?_
      refine SeqD.ex rfl rfl rfl (st_app (new := [.nili]) (k := 1) te77 tz29 tb29 te77 (Ve3.set_free (stp_free t3 Ak Bk (by omega) (by omega))) (by decide) (by decide) rfl (elems_row (Row.new) (Nat.le_refl 1)) rfl rfl tzo29 (by simp; omega)) ?_
      rintro v4 h4 m4 ⟨V4e, p1, p2, p3, p4⟩
      refine ⟨_, rfl, ?_⟩
      refine SeqD.go rfl rfl rfl (st_pure rfl rfl) rfl ?_
      refine SeqD.nil ?_
      refine Ek.reg ?_
      refine SeqR.go rfl rfl rfl add1 rfl ?_
      refine SeqR.go rfl rfl rfl (st_pure rfl rfl) rfl ?_
      refine SeqR.nil ?_
      obtain ⟨A4, B4, t4, V4, he4⟩ := err_app2 A3 B3 T3 Ve3 hek3 (stp_free t3 Ak Bk (by omega) (by omega)) (by omega) (by omega) (by omega) p1 p3 p4 V4e
      have e7 : (conts G.waits is)[k]? = some b2 := by simp [conts, hci, hg2]
      have e1 : wrL G.disk 1 ((conts G.waits is).take (k + 1)) = (wrL G.disk 1 ((conts G.waits is).take k)).write (1 + k) b2 := by rw [List.take_add_one, e7, Option.toList_some, wrL_snoc, htk]
      exact ⟨e - 1, by omega, k + 1, _, _, v4, ow3, by omega, Le.put (Le.put (Le.put (Le.put (Le.put (Le.put (Le.nil _) rfl) rfl) rfl) rfl) rfl) rfl, rfl, by rw [e1]; exact A4, B4.mono (by omega), t4.mono (by omega), V4, he4⟩
    · refine Ek.condF rfl (by simp; omega) ?_
      refine Ek.exit ?_
      simp only [AEx.then, AEx.inBlock, if_true]
      refine Ek.seq ?_
      have hkn2 : k = is.length := by omega
      subst hkn2
      have hcl2 : (conts G.waits is).take is.length = conts G.waits is := List.take_of_length_le (by omega)
      rw [hcl2] at Ak hww
      refine Ek.reg ?_
      refine SeqR.go rfl rfl rfl (st_pure rfl rfl) rfl ?_
      refine SeqR.go rfl rfl rfl (st_pure rfl rfl) rfl ?_
      refine SeqR.go rfl rfl rfl (fld tF67_0) rfl ?_
      refine SeqR.go rfl rfl rfl (ld ta25) rfl ?_
      refine SeqR.cal rfl rfl rfl rfl rfl (w_flush Ak (Bk.mono (by omega)) (by omega)) ?_
      rintro v5 h5 m5 ⟨rfl, o5, A5, B5, t5⟩
      refine ⟨_, rfl, ?_⟩
      refine SeqR.nil ?_
      refine Ek.seq ?_
      have t5u := t5.up
      have T5 := (tk.mono (by omega)).trans t5
      have R5 := A2.row.of_eq (T5.same l (by omega) A.nl)
      have X5 := (X.of_eq (same W hWm)).of_eq (T5.same W (by omega) A.nW)
      have Ve5 : Vec h5 1 ev _ := Vk.stp (Bk.mono (by omega)) t5 (fun γ hγ => (hek γ hγ).1)
      have hek5 := hek_stp t5 (Bk.mono (by omega)) Vk hek
      have V5is := V2.stp B2 T5 hsep
      have Xw5 : WV h5 kw G.waits := Xw.mono (fun v b s => (s.keep B same).stp A2.disk B2 T5)
      refine Ek.drtz (z := 12) [(4, 7)] (by kernel_rfl) rfl ?_
      refine SeqT.go rfl rfl rfl (st_pure rfl rfl) rfl ?_
      refine SeqT.go rfl rfl rfl (st_pure rfl rfl) rfl ?_
      refine SeqT.go rfl rfl rfl (st_pure rfl rfl) rfl ?_
      refine SeqT.go rfl rfl rfl (fld tF67_0) rfl ?_
      refine SeqT.go rfl rfl rfl (ld ta25) rfl ?_
      refine SeqT.go rfl rfl rfl (st_pure rfl rfl) rfl ?_
      refine SeqT.go rfl rfl rfl (st_pure rfl rfl) rfl ?_
      refine SeqT.cal rfl rfl rfl rfl rfl (w_header R5 X5 Xw5 (B5.mono (by omega)) V5is hisg hisl hi32) ?_
      rintro v6 h6 m6 ⟨S6, B6, hm6, same6⟩
      refine ⟨_, rfl, ?_⟩
      have R6 := R5.of_eq (same6 l (by have := T5.up; omega))
      refine SeqT.cal rfl rfl rfl rfl rfl (w_write (i := 0) (A5.keep B5 (fun γ hγ => same6 γ (by omega))) B6 S6 (by rw [Dk.flush_now, wrL_now]; omega) (by rw [Dk.flush_writes]; omega)) ?_
      rintro v7 h7 m7 ⟨rfl, o7, A7, B7, t7⟩
      refine ⟨_, rfl, ?_⟩
      have t7u := t7.up
      have T6 := T5.trans (Stp.keep (m' := m6) (by omega) (fun γ hγ => same6 γ (by omega)))
      have T7 := T6.trans t7
      have Ve6 : Vec h6 1 ev _ := Ve5.keep B5 (fun γ hγ => same6 γ (by omega))
      have Ve7 : Vec h7 1 ev _ := Ve6.stp B6 t7 (fun γ hγ => (hek5 γ hγ).1)
      have hek7 := hek_stp t7 B6 Ve6 hek5
      have A6 := A5.keep B5 (fun γ hγ => same6 γ (by omega))
      have B6f : ∀ q, m5 ≤ q → q < m5 + 12 → h6.get q = none := fun q g1 g2 => by rw [same6 q (by omega)]; exact B5 q g1
      refine SeqT.go rfl rfl rfl (bs1 te77 tz29 tzo29) rfl ?_
      refine SeqT.ex rfl rfl rfl (st_app (new := [.nili]) (k := 1) te77 tz29 tb29 te77 (Ve7.set_free (stp_free7 t7 A6 B6f (by omega) (by omega) (by omega))) (by decide) (by decide) rfl (elems_row (Row.new) (Nat.le_refl 1)) rfl rfl tzo29 (by simp; omega)) ?_
      rintro v8 h8 m8 ⟨V8e, p1, p2, p3, p4⟩
      refine ⟨_, rfl, ?_⟩
      refine SeqT.go rfl rfl rfl (st_pure rfl rfl) rfl ?_
      refine SeqT.nil ⟨?_, ?_⟩
      · intro p hp a b ha hb
        simp only [List.mem_singleton] at hp
        subst hp
        obtain rfl := Option.some.inj ha
        obtain rfl := Option.some.inj hb
        exact dyn_rd rfl (rd_ld ta25 R6 rfl) (by simp [AV.beq])
      refine Ek.seq ?_
      obtain ⟨A8, B8, T8, V8, he8⟩ := err_app2 A7 B7 T7 Ve7 hek7 (stp_free7 t7 A6 B6f (by omega) (by omega) (by omega)) (by have := T5.up; omega) (by omega) (by omega) p1 p3 p4 V8e
      have R8 := A2.row.of_eq (T8.same l (by omega) A.nl)
      have hw8 := Dk.write_writes (wrL G.disk 1 (conts G.waits is)).flush 0 (hdrB is (conts G.waits is))
      rw [Dk.flush_writes] at hw8
      refine Ek.reg ?_
      refine SeqR.go rfl rfl rfl (st_pure rfl rfl) rfl ?_
      refine SeqR.go rfl rfl rfl (st_pure rfl rfl) rfl ?_
      refine SeqR.go rfl rfl rfl (fld tF67_0) rfl ?_
      refine SeqR.go rfl rfl rfl (ld ta25) rfl ?_
      refine SeqR.cal rfl rfl rfl rfl rfl (w_flush A8 (B8.mono (by omega)) (by omega)) ?_
      rintro v9 h9 m9 ⟨rfl, o9, A9, B9, t9⟩
      refine ⟨_, rfl, ?_⟩
      refine SeqR.nil ?_
      refine Ek.seq ?_
      have t9u := t9.up
      have T9 := (T8.mono (by omega)).trans t9
      have R9 := A2.row.of_eq (T9.same l (by omega) A.nl)
      have Ve9 : Vec h9 1 v8 _ := V8.stp (B8.mono (by omega)) t9 (fun γ hγ => (he8 γ hγ).1)
      have he9 := hek_stp t9 (B8.mono (by omega)) V8 he8
      have V9is := V2.stp B2 T9 hsep
      have hsep9 : ∀ γ, v2.base = some γ → ¬ o9 γ := fun γ hγ q => (T9.sub γ q).elim (hsep γ hγ) (fun r => by have := B2.base V2 hγ; omega)
      refine Ek.reg ?_
      refine SeqR.go rfl rfl rfl (st_pure rfl rfl) rfl ?_
      refine SeqR.go rfl rfl rfl (st_pure rfl rfl) rfl ?_
      refine SeqR.go rfl rfl rfl (st_pure rfl rfl) rfl ?_
      refine SeqR.go rfl rfl rfl (fld tF67_0) rfl ?_
      refine SeqR.go rfl rfl rfl (ld ta25) rfl ?_
      refine SeqR.go rfl rfl rfl (st_pure rfl rfl) rfl ?_
      refine SeqR.cal rfl rfl rfl rfl rfl (w_install A9 (B9.mono (by omega)) V9is hsep9 (fun i hi => by rw [Dk.flush_now, Dk.write_now, Dk.flush_now, wrL_now]; exact (hir i hi).2) hisl (by rw [Dk.flush_now, Dk.write_now, Dk.flush_now, wrL_now]; omega) (by rw [Dk.flush_writes]; omega)) ?_
      rintro v10 h10 m10 ⟨rfl, o10, A10, B10, t10⟩
      refine ⟨_, rfl, ?_⟩
      have t10u := t10.up
      have T10 := (T9.mono (by omega)).trans t10
      have Ve10 : Vec h10 1 v8 _ := Ve9.stp (B9.mono (by omega)) t10 (fun γ hγ => (he9 γ hγ).1)
      have he10 := hek_stp t10 (B9.mono (by omega)) Ve9 he9
      refine SeqR.go rfl rfl rfl (bs1 te77 tz29 tzo29) rfl ?_
      refine SeqR.ex rfl rfl rfl (st_app (new := [.nili]) (k := 1) te77 tz29 tb29 te77 (Ve10.set_free (B10 _ (by omega))) (by decide) (by decide) rfl (elems_row (Row.new) (Nat.le_refl 1)) rfl rfl tzo29 (by simp; omega)) ?_
      rintro v11 h11 m11 ⟨V11e, p1, p2, p3, p4⟩
      refine ⟨_, rfl, ?_⟩
      refine SeqR.go rfl rfl rfl (st_pure rfl rfl) rfl ?_
      refine SeqR.nil ?_
      refine Ek.seq ?_
      have tu10 := T10.up
      obtain ⟨A11, B11, T11, V11, he11⟩ := err_app2 A10 B10 T10 Ve10 he10 (B10 _ (by omega)) (by omega) (by omega) (by omega) p1 p3 p4 V11e
      have R11 := A2.row.of_eq (T11.same l (by omega) A.nl)
      have hDT : syncD G.disk G.waits = inst (((wrL G.disk 1 (conts G.waits is)).flush.write 0 (hdrB is (conts G.waits is))).flush) is := by unfold syncD; rw [← his]; exact if_neg (fun e => by rw [e] at hn; simp at hn)
      refine Ek.reg ?_
      refine SeqR.go rfl rfl rfl (st_pure rfl rfl) rfl ?_
      refine SeqR.cal rfl rfl rfl rfl rfl (w_join V11 (by omega)) ?_
      rintro v12 h12 m12 ⟨rfl, rfl, hm12⟩
      refine ⟨_, rfl, ?_⟩
      refine SeqR.go rfl rfl rfl (st_pure rfl rfl) rfl ?_
      refine SeqR.nil ?_
      refine Ek.seq ?_
      refine Ek.reg ?_
      refine SeqR.go rfl rfl rfl (st_pure rfl rfl) rfl ?_
      refine SeqR.go rfl rfl rfl (neI0 tu29) rfl ?_
      refine SeqR.nil ?_
      refine Ek.condF rfl rfl ?_
      refine Ek.skip ?_
      refine Ek.seq ?_
      first | (have AT := A11; have BT := B11; have TT := T11; have RT := R11; have hD := hDT) | (have AT := A2.disk; have BT := B2; have TT := Stp.refl (own := od) (h := h2) (Nat.le_refl m2); have RT := A2.row; have hD : syncD G.disk G.waits = G.disk := by unfold syncD; rw [← his]; exact if_pos (List.eq_nil_of_length_eq_zero (by omega)))
      have nlT : ¬ _ := fun q => (TT.sub l q).elim A.nl (fun r => by omega)
      have LR := fun a b => log_reset (a := a) (b := b) AT BT RT nlT
      have tuT := TT.up
      refine Ek.reg ?_
      refine SeqR.go rfl rfl rfl (st_pure rfl rfl) rfl ?_
      refine SeqR.go rfl rfl rfl (st_pure rfl rfl) rfl ?_
      refine SeqR.go rfl rfl rfl st_mkmap rfl ?_
      refine SeqR.go rfl rfl rfl st_mkmap rfl ?_
      refine SeqR.go rfl rfl rfl (st_pure rfl rfl) rfl ?_
      refine SeqR.go rfl rfl rfl (fld tF67_1) rfl ?_
      refine SeqR.go rfl rfl rfl (strr tz65) rfl ?_
      refine SeqR.go rfl rfl rfl (st_pure rfl rfl) rfl ?_
      refine SeqR.go rfl rfl rfl (fld tF67_2) rfl ?_
      refine SeqR.go rfl rfl rfl (strr tz65) rfl ?_
      refine SeqR.nil ?_
      refine Ek.seq ?_
      refine Ek.seq ?_
      refine Ek.reg ?_
      refine SeqR.go rfl rfl rfl (st_pure rfl rfl) rfl ?_
      refine SeqR.go rfl rfl rfl (st_pure rfl rfl) rfl ?_
      refine SeqR.go rfl rfl rfl (fld tF67_0) rfl ?_
      refine SeqR.go rfl rfl rfl (ld ta25) rfl ?_
      refine SeqR.cal rfl rfl rfl rfl rfl (w_dead (LR _ _ (by omega) (by omega)).1) ?_
      rintro _ _ m13 ⟨rfl, rfl, hm13⟩
      refine ⟨_, rfl, ?_⟩
      refine SeqR.nil ?_
      by_cases hdead : (syncD G.disk G.waits).dead = true
      · refine Ek.condT rfl (by rw [← hD]; exact hdead) ?_
        refine Ek.seq ?_
        refine Ek.reg ?_
        refine SeqR.go rfl rfl rfl (mkif tu41) rfl ?_
        refine SeqR.cal rfl rfl rfl rfl rfl (w_wrap ((LR _ _ (by omega) (by omega)).2.2.1 _ (by omega))) ?_
        rintro v14 h14 m14 ⟨q14, rfl, _, B14, hm14, hq14, same14⟩
        refine ⟨_, rfl, ?_⟩
        refine SeqR.go rfl rfl rfl (st_pure rfl rfl) rfl ?_
        refine SeqR.nil ?_
        exact Ek.ret ⟨Or.inr rfl, _, rfl, _, _, rfl, Or.inr ⟨hdead, _, rfl⟩, _, by rw [hD]; exact ((LR _ _ (by omega) (by omega)).2.1.keep ((LR _ _ (by omega) (by omega)).2.2.1 _ (by omega)) same14), B14.mono (by omega), stp_fin TT same hmm2 (fun γ g1 g2 => (same14 γ (by omega)).trans ((LR _ _ (by omega) (by omega)).2.2.2 γ g1 g2)) (by omega) (by omega) (by omega)⟩
      · refine Ek.condF rfl (by rw [← hD]; simpa using hdead) ?_
        refine Ek.skip ?_
        refine Ek.seq ?_
        refine Ek.reg ?_
        refine SeqR.go rfl rfl rfl (st_pure rfl rfl) rfl ?_
        refine SeqR.nil ?_
        exact Ek.ret ⟨Or.inr rfl, _, rfl, _, _, rfl, Or.inl ⟨by simpa using hdead, rfl⟩, _, by rw [hD]; exact (LR _ _ (by omega) (by omega)).2.1, (LR _ _ (by omega) (by omega)).2.2.1 _ (by omega), stp_fin TT same hmm2 (LR _ _ (by omega) (by omega)).2.2.2 (by omega) (by omega) (by omega)⟩
  · refine Ek.condF rfl (decide_eq_false (by omega)) ?_
    refine Ek.skip ?_
    refine Ek.seq ?_
    first | (have AT := A11; have BT := B11; have TT := T11; have RT := R11; have hD := hDT) | (have AT := A2.disk; have BT := B2; have TT := Stp.refl (own := od) (h := h2) (Nat.le_refl m2); have RT := A2.row; have hD : syncD G.disk G.waits = G.disk := by unfold syncD; rw [← his]; exact if_pos (List.eq_nil_of_length_eq_zero (by omega)))
    have nlT : ¬ _ := fun q => (TT.sub l q).elim A.nl (fun r => by omega)
    have LR := fun a b => log_reset (a := a) (b := b) AT BT RT nlT
    have tuT := TT.up
    refine Ek.reg ?_
    refine SeqR.go rfl rfl rfl (st_pure rfl rfl) rfl ?_
    refine SeqR.go rfl rfl rfl (st_pure rfl rfl) rfl ?_
    refine SeqR.go rfl rfl rfl st_mkmap rfl ?_
    refine SeqR.go rfl rfl rfl st_mkmap rfl ?_
    refine SeqR.go rfl rfl rfl (st_pure rfl rfl) rfl ?_
    refine SeqR.go rfl rfl rfl (fld tF67_1) rfl ?_
    refine SeqR.go rfl rfl rfl (strr tz65) rfl ?_
    refine SeqR.go rfl rfl rfl (st_pure rfl rfl) rfl ?_
    refine SeqR.go rfl rfl rfl (fld tF67_2) rfl ?_
    refine SeqR.go rfl rfl rfl (strr tz65) rfl ?_
    refine SeqR.nil ?_
    refine Ek.seq ?_
    refine Ek.seq ?_
    refine Ek.reg ?_
    refine SeqR.go rfl rfl rfl (st_pure rfl rfl) rfl ?_
    refine SeqR.go rfl rfl rfl (st_pure rfl rfl) rfl ?_
    refine SeqR.go rfl rfl rfl (fld tF67_0) rfl ?_
    refine SeqR.go rfl rfl rfl (ld ta25) rfl ?_
    refine SeqR.cal rfl rfl rfl rfl rfl (w_dead (LR _ _ (by omega) (by omega)).1) ?_
    rintro _ _ m13 ⟨rfl, rfl, hm13⟩
    refine ⟨_, rfl, ?_⟩
    refine SeqR.nil ?_
    by_cases hdead : (syncD G.disk G.waits).dead = true
    · refine Ek.condT rfl (by rw [← hD]; exact hdead) ?_
      refine Ek.seq ?_
      refine Ek.reg ?_
      refine SeqR.go rfl rfl rfl (mkif tu41) rfl ?_
      refine SeqR.cal rfl rfl rfl rfl rfl (w_wrap ((LR _ _ (by omega) (by omega)).2.2.1 _ (by omega))) ?_
      rintro v14 h14 m14 ⟨q14, rfl, _, B14, hm14, hq14, same14⟩
      refine ⟨_, rfl, ?_⟩
      refine SeqR.go rfl rfl rfl (st_pure rfl rfl) rfl ?_
      refine SeqR.nil ?_
      exact Ek.ret ⟨Or.inr rfl, _, rfl, _, _, rfl, Or.inr ⟨hdead, _, rfl⟩, _, by rw [hD]; exact ((LR _ _ (by omega) (by omega)).2.1.keep ((LR _ _ (by omega) (by omega)).2.2.1 _ (by omega)) same14), B14.mono (by omega), stp_fin TT same hmm2 (fun γ g1 g2 => (same14 γ (by omega)).trans ((LR _ _ (by omega) (by omega)).2.2.2 γ g1 g2)) (by omega) (by omega) (by omega)⟩
    · refine Ek.condF rfl (by rw [← hD]; simpa using hdead) ?_
      refine Ek.skip ?_
      refine Ek.seq ?_
      refine Ek.reg ?_
      refine SeqR.go rfl rfl rfl (st_pure rfl rfl) rfl ?_
      refine SeqR.nil ?_
      exact Ek.ret ⟨Or.inr rfl, _, rfl, _, _, rfl, Or.inl ⟨by simpa using hdead, rfl⟩, _, by rw [hD]; exact (LR _ _ (by omega) (by omega)).2.1, (LR _ _ (by omega) (by omega)).2.2.1 _ (by omega), stp_fin TT same hmm2 (LR _ _ (by omega) (by omega)).2.2.2 (by omega) (by omega) (by omega)⟩
end
end Go.Xec
