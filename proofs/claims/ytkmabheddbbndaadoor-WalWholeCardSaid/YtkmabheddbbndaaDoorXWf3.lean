/- wal.group, by contract. -/
import Derived.Test.YtkmabheddbbndaaDoorXWf2
namespace Go.Xec
open Go.Proofs
section
variable {P : Program} {call : Callee} {nm : Nat} {st : St}
theorem slLo {t e β o n c : Nat} {k : IntKind} {lo : Nat} {x y : Operand} (he : sliceElem P t = some e) (hz : sizeOfT P e = some 1) (h0 : 0 < lo) (h1 : lo ≤ n) (h2 : lo < c) :
    stepA P call nm st (.slice t x (some y) none none) [.sl β o n c 1, .int k (lo : Int)] = some (.sl β (o + lo * 1) (n - lo) (c - lo) 1, st) := by
  have hu := sliceElem_under he
  refine st_pure (by simp only [kindOf, hu]) ?_
  have hb : (decide ((0 : Int) ≤ (lo : Int)) && decide ((lo : Int) ≤ (n : Int))) = true := by simp; omega
  have e1 : Nat.beq 1 1 = true := rfl
  have e2 : Nat.beq lo 0 = false := by
    cases h : Nat.beq lo 0 with
    | false => rfl
    | true => have := Nat.eq_of_beq_eq_true h; omega
  have e3 : Nat.beq c lo = false := by
    cases h : Nat.beq c lo with
    | false => rfl
    | true => have := Nat.eq_of_beq_eq_true h; omega
  simp only [pureA, cutOps, sliceA, hu, hz, e1, boundsA, boundA, hb, Int.toNat_natCast, e2, e3]
theorem slHi {t e β o n c : Nat} {k : IntKind} {hi : Nat} {x y : Operand} (he : sliceElem P t = some e) (hz : sizeOfT P e = some 1) (h1 : hi ≤ c) :
    stepA P call nm st (.slice t x none (some y) none) [.sl β o n c 1, .int k (hi : Int)] = some (.sl β o hi c 1, st) := by
  have hu := sliceElem_under he
  refine st_pure (by simp only [kindOf, hu]) ?_
  have hb : (decide ((0 : Int) ≤ (hi : Int)) && decide ((hi : Int) ≤ (c : Int))) = true := by simp; omega
  have e1 : Nat.beq 1 1 = true := rfl
  have e2 : Nat.beq 0 0 = true := rfl
  simp only [pureA, cutOps, sliceA, hu, hz, e1, boundsA, boundA, hb, Int.toNat_natCast, e2]
end
section
variable {h h' hf : T ABlk} {l d W M β m m' : Nat} {v : AV} {D : Dk} {own own' od : Nat → Prop} {bs b : By}
theorem crcM_rng (s : Int) (bs : By) : 0 ≤ crcM s bs ∧ crcM s bs < 4294967296 := by
  unfold crcM notI
  rw [IntKind.wrap_u32]; omega
theorem get4_lt (bs : By) : get4 bs < 4294967296 := by
  have h := getN_lt bs 4
  have e : 2 ^ (8 * 4) = 4294967296 := by decide
  rw [e] at h; exact h
theorem sec_at {r : List AV} (j : Nat) (b : UInt8) (hb : bs[j]? = some b) : (cellsB bs ++ r)[j]? = some (.int .u8 (b.toNat : Int)) := by
  rw [List.getElem?_append_left (by rw [cellsB_len]; exact (List.getElem?_eq_some_iff.1 hb).1), cellsB, List.getElem?_map, hb]; rfl

def grpL (now : List By) (hb : By) : Nat → Nat → Int → List Nat → Option (List Nat × Int)
  | 0, _, s, l => some (l, s)
  | r + 1, k, s, l => if get4 (hb.drop (12 + 4 * k)) < 48 ∨ now.length ≤ get4 (hb.drop (12 + 4 * k)) then none else grpL now hb r (k + 1) (crcM s (now.getD (1 + k) [])) (l ++ [get4 (hb.drop (12 + 4 * k))])
def hdOk (hb : By) : Bool := decide (get4 hb = 1819894636) && decide (get4 (hb.drop 4) ≤ 40) && decide (crcM 0 (hb.take 508) = (get4 (hb.drop 508) : Int))
theorem hdOk_iff {hb : By} : hdOk hb = true ↔ get4 hb = 1819894636 ∧ get4 (hb.drop 4) ≤ 40 ∧ crcM 0 (hb.take 508) = (get4 (hb.drop 508) : Int) := by
  simp only [hdOk, Bool.and_eq_true, decide_eq_true_eq, and_assoc]
def grpF (sum : Nat) : Option (List Nat × Int) → List Nat
  | none => []
  | some (l, s) => if s = (sum : Int) then l else []
/-- The group that counts. -/
def grp (now : List By) : List Nat := if hdOk (now.getD 0 []) then grpF (get4 ((now.getD 0 []).drop 8)) (grpL now (now.getD 0 []) (get4 ((now.getD 0 []).drop 4)) 0 0 []) else []
theorem grp_no {now : List By} (hn : ¬ (get4 (now.getD 0 []) = 1819894636 ∧ get4 ((now.getD 0 []).drop 4) ≤ 40 ∧ crcM 0 ((now.getD 0 []).take 508) = (get4 ((now.getD 0 []).drop 508) : Int))) : grp now = [] := by
  unfold grp
  exact if_neg (fun q => hn (hdOk_iff.1 q))
theorem grp_yes {now : List By} (hn : get4 (now.getD 0 []) = 1819894636 ∧ get4 ((now.getD 0 []).drop 4) ≤ 40 ∧ crcM 0 ((now.getD 0 []).take 508) = (get4 ((now.getD 0 []).drop 508) : Int)) :
    grp now = grpF (get4 ((now.getD 0 []).drop 8)) (grpL now (now.getD 0 []) (get4 ((now.getD 0 []).drop 4)) 0 0 []) := by
  unfold grp
  exact if_pos (hdOk_iff.2 hn)

noncomputable def frQ (d βh ch n k : Nat) (s : Int) (lv : AV) : Fr := ((((((T.nil.set 0 (.ptr d 0)).set 3 (secV βh ch)).set 6 lv).set 7 (.int .u32 s)).set 39 (.int .i64 (n : Int))).set 40 (.int .i64 (k : Int))).set 5 (.int .i64 (n : Int))

theorem w_group (A : Disk h d D own) (B : Bd h m) (hnow : 42 ≤ D.now.length) :
    ∃ v' h' m', TC 31 [.ptr d 0] ⟨h, m⟩ = some (v', ⟨h', m'⟩) ∧ (Vec h' 1 v' (intsV (grp D.now)) ∧ Bd h' m' ∧ m ≤ m' ∧ (∀ γ, γ < m → h'.get γ = h.get γ) ∧ ∀ γ, v'.base = some γ → m ≤ γ) := by
  obtain ⟨hb, hhb⟩ : ∃ hb, D.now[0]? = some hb := ⟨D.now[0], List.getElem?_eq_getElem (by omega)⟩
  have hbd : D.now.getD 0 [] = hb := by rw [List.getD_eq_getElem?_getD, hhb]; rfl
  have g0 := get4_lt hb
  have g4 := get4_lt (hb.drop 4)
  have gc := crcM_rng 0 (hb.take 508)
  have g508 := get4_lt (hb.drop 508)
  have hempty : ¬ (get4 hb = 1819894636 ∧ get4 (hb.drop 4) ≤ 40 ∧ crcM 0 (hb.take 508) = (get4 (hb.drop 508) : Int)) → grp D.now = [] := fun hn => grp_no (by rw [hbd]; exact hn)
  refine top_fn Tryd.func31 (by rfl) rfl rfl (by rfl) ?_
  by_cases c1 : get4 hb = 1819894636
  rotate_left
  · skip
    refine Ek.seq ?_
    refine Ek.reg ?_
    refine SeqR.go rfl rfl rfl (st_pure rfl rfl) rfl ?_
    refine SeqR.nil ?_
    refine Ek.seq ?_
    refine Ek.reg ?_
    refine SeqR.go rfl rfl rfl (st_pure rfl rfl) rfl ?_
    refine SeqR.cal rfl rfl rfl rfl rfl (w_read (i := 0) A (B.mono (by omega)) hhb) ?_
    rintro v1 h1 m1 ⟨s1, rfl, S1, B1, hm1, same1⟩
    refine ⟨_, rfl, ?_⟩
    refine SeqR.go rfl rfl rfl (st_pure rfl rfl) rfl ?_
    refine SeqR.go rfl rfl rfl (st_pure rfl rfl) rfl ?_
    refine SeqR.go rfl rfl rfl (st_pure rfl rfl) rfl ?_
    refine SeqR.go rfl rfl rfl (st_pure rfl rfl) rfl ?_
    refine SeqR.go rfl rfl rfl (st_pure rfl rfl) rfl ?_
    refine SeqR.nil ?_
    refine Ek.seq ?_
    obtain ⟨βh, ch, rfl, ⟨r, R1, hr⟩, hl1, hc1⟩ := S1
    have hβ := B1.row R1
    refine Ek.reg ?_
    refine SeqR.go rfl rfl rfl (st_pure rfl rfl) rfl ?_
    refine SeqR.go rfl rfl rfl (slLo (lo := 4) te33 tz5 (by decide) (by decide) (by omega)) rfl ?_
    refine SeqR.cal rfl rfl rfl rfl rfl (w_get4 (bs := hb.drop 4) (R1.of_eq rfl) (fun i b q => by rw [List.getElem?_drop] at q; simpa [Nat.add_assoc] using sec_at _ _ q) (by omega) (by simp; omega)) ?_
    rintro _ _ m2 ⟨rfl, rfl, hm2⟩
    refine ⟨_, rfl, ?_⟩
    refine SeqR.go rfl rfl rfl (cv tu89 tu3) rfl ?_
    refine SeqR.go rfl rfl rfl (st_pure rfl rfl) rfl ?_
    refine SeqR.nil ?_
    refine Ek.seq ?_
    refine Ek.seq ?_
    rw [IntWalk.i64_in _ (by omega)]
    have e5 : (hb.take 508).length = 508 := by rw [List.length_take]; omega
    refine Ek.drz (z := 18) (by kernel_rfl) rfl ?_
    refine SeqD.go rfl rfl rfl (st_pure rfl rfl) rfl ?_
    refine SeqD.cal rfl rfl rfl rfl rfl (w_get4 (bs := hb) R1 (fun i b q => by simpa using sec_at _ _ q) (by omega) (by omega)) ?_
    rintro _ _ m3 ⟨rfl, rfl, hm3⟩
    refine ⟨_, rfl, ?_⟩
    refine SeqD.go rfl rfl rfl (st_pure rfl rfl) rfl ?_
    refine SeqD.go rfl rfl rfl (st_pure rfl rfl) rfl ?_
    refine SeqD.hop rfl (by simp; omega) rfl ?_
    refine SeqD.hop rfl (by simp; omega) rfl ?_
    refine SeqD.go rfl rfl rfl (st_pickT (by simp; omega)) rfl ?_
    refine SeqD.go rfl rfl rfl (st_pure rfl rfl) rfl ?_
    refine SeqD.hop rfl rfl rfl ?_
    refine SeqD.hop rfl rfl rfl ?_
    refine SeqD.hop rfl rfl rfl ?_
    refine SeqD.hop rfl rfl rfl ?_
    refine SeqD.hop rfl rfl rfl ?_
    refine SeqD.hop rfl rfl rfl ?_
    refine SeqD.hop rfl rfl rfl ?_
    refine SeqD.hop rfl rfl rfl ?_
    refine SeqD.hop rfl rfl rfl ?_
    refine SeqD.go rfl rfl rfl (st_pickT rfl) rfl ?_
    refine SeqD.nil ?_
    refine Ek.condT rfl rfl ?_
    refine Ek.seq ?_
    refine Ek.reg ?_
    refine SeqR.go rfl rfl rfl (st_pure rfl rfl) rfl ?_
    refine SeqR.nil ?_
    exact Ek.ret ⟨Or.inr rfl, _, rfl, _, _, rfl, Or.inl ⟨rfl, by rw [hempty (fun q => c1 q.1)]; rfl⟩, B1.mono (by omega), by omega, fun γ hγ => same1 γ (by omega), fun γ hγ => (by cases hγ)⟩
  by_cases c2 : get4 (hb.drop 4) ≤ 40
  rotate_left
  · skip
    refine Ek.seq ?_
    refine Ek.reg ?_
    refine SeqR.go rfl rfl rfl (st_pure rfl rfl) rfl ?_
    refine SeqR.nil ?_
    refine Ek.seq ?_
    refine Ek.reg ?_
    refine SeqR.go rfl rfl rfl (st_pure rfl rfl) rfl ?_
    refine SeqR.cal rfl rfl rfl rfl rfl (w_read (i := 0) A (B.mono (by omega)) hhb) ?_
    rintro v1 h1 m1 ⟨s1, rfl, S1, B1, hm1, same1⟩
    refine ⟨_, rfl, ?_⟩
    refine SeqR.go rfl rfl rfl (st_pure rfl rfl) rfl ?_
    refine SeqR.go rfl rfl rfl (st_pure rfl rfl) rfl ?_
    refine SeqR.go rfl rfl rfl (st_pure rfl rfl) rfl ?_
    refine SeqR.go rfl rfl rfl (st_pure rfl rfl) rfl ?_
    refine SeqR.go rfl rfl rfl (st_pure rfl rfl) rfl ?_
    refine SeqR.nil ?_
    refine Ek.seq ?_
    obtain ⟨βh, ch, rfl, ⟨r, R1, hr⟩, hl1, hc1⟩ := S1
    have hβ := B1.row R1
    refine Ek.reg ?_
    refine SeqR.go rfl rfl rfl (st_pure rfl rfl) rfl ?_
    refine SeqR.go rfl rfl rfl (slLo (lo := 4) te33 tz5 (by decide) (by decide) (by omega)) rfl ?_
    refine SeqR.cal rfl rfl rfl rfl rfl (w_get4 (bs := hb.drop 4) (R1.of_eq rfl) (fun i b q => by rw [List.getElem?_drop] at q; simpa [Nat.add_assoc] using sec_at _ _ q) (by omega) (by simp; omega)) ?_
    rintro _ _ m2 ⟨rfl, rfl, hm2⟩
    refine ⟨_, rfl, ?_⟩
    refine SeqR.go rfl rfl rfl (cv tu89 tu3) rfl ?_
    refine SeqR.go rfl rfl rfl (st_pure rfl rfl) rfl ?_
    refine SeqR.nil ?_
    refine Ek.seq ?_
    refine Ek.seq ?_
    rw [IntWalk.i64_in _ (by omega)]
    have e5 : (hb.take 508).length = 508 := by rw [List.length_take]; omega
    refine Ek.drz (z := 18) (by kernel_rfl) rfl ?_
    refine SeqD.go rfl rfl rfl (st_pure rfl rfl) rfl ?_
    refine SeqD.cal rfl rfl rfl rfl rfl (w_get4 (bs := hb) R1 (fun i b q => by simpa using sec_at _ _ q) (by omega) (by omega)) ?_
    rintro _ _ m3 ⟨rfl, rfl, hm3⟩
    refine ⟨_, rfl, ?_⟩
    refine SeqD.go rfl rfl rfl (st_pure rfl rfl) rfl ?_
    refine SeqD.go rfl rfl rfl (st_pure rfl rfl) rfl ?_
    refine SeqD.go rfl (by simp; omega) rfl (st_pure rfl rfl) rfl ?_
    refine SeqD.go rfl (by simp; omega) rfl (st_pure rfl rfl) rfl ?_
    refine SeqD.go rfl rfl rfl (st_pickF (by simp; omega)) rfl ?_
    refine SeqD.go rfl rfl rfl (st_pure rfl rfl) rfl ?_
    refine SeqD.hop rfl (by simp; omega) rfl ?_
    refine SeqD.hop rfl (by simp; omega) rfl ?_
    refine SeqD.hop rfl (by simp; omega) rfl ?_
    refine SeqD.hop rfl (by simp; omega) rfl ?_
    refine SeqD.hop rfl (by simp; omega) rfl ?_
    refine SeqD.hop rfl (by simp; omega) rfl ?_
    refine SeqD.hop rfl (by simp; omega) rfl ?_
    refine SeqD.hop rfl (by simp; omega) rfl ?_
    refine SeqD.hop rfl (by simp; omega) rfl ?_
    refine SeqD.go rfl rfl rfl (st_pickT (by simp; omega)) rfl ?_
    refine SeqD.nil ?_
    refine Ek.condT rfl rfl ?_
    refine Ek.seq ?_
    refine Ek.reg ?_
    refine SeqR.go rfl rfl rfl (st_pure rfl rfl) rfl ?_
    refine SeqR.nil ?_
    exact Ek.ret ⟨Or.inr rfl, _, rfl, _, _, rfl, Or.inl ⟨rfl, by rw [hempty (fun q => by have := q.2.1; omega)]; rfl⟩, B1.mono (by omega), by omega, fun γ hγ => same1 γ (by omega), fun γ hγ => (by cases hγ)⟩
  by_cases c3 : crcM 0 (hb.take 508) = (get4 (hb.drop 508) : Int)
  rotate_left
  · skip
    refine Ek.seq ?_
    refine Ek.reg ?_
    refine SeqR.go rfl rfl rfl (st_pure rfl rfl) rfl ?_
    refine SeqR.nil ?_
    refine Ek.seq ?_
    refine Ek.reg ?_
    refine SeqR.go rfl rfl rfl (st_pure rfl rfl) rfl ?_
    refine SeqR.cal rfl rfl rfl rfl rfl (w_read (i := 0) A (B.mono (by omega)) hhb) ?_
    rintro v1 h1 m1 ⟨s1, rfl, S1, B1, hm1, same1⟩
    refine ⟨_, rfl, ?_⟩
    refine SeqR.go rfl rfl rfl (st_pure rfl rfl) rfl ?_
    refine SeqR.go rfl rfl rfl (st_pure rfl rfl) rfl ?_
    refine SeqR.go rfl rfl rfl (st_pure rfl rfl) rfl ?_
    refine SeqR.go rfl rfl rfl (st_pure rfl rfl) rfl ?_
    refine SeqR.go rfl rfl rfl (st_pure rfl rfl) rfl ?_
    refine SeqR.nil ?_
    refine Ek.seq ?_
    obtain ⟨βh, ch, rfl, ⟨r, R1, hr⟩, hl1, hc1⟩ := S1
    have hβ := B1.row R1
    refine Ek.reg ?_
    refine SeqR.go rfl rfl rfl (st_pure rfl rfl) rfl ?_
    refine SeqR.go rfl rfl rfl (slLo (lo := 4) te33 tz5 (by decide) (by decide) (by omega)) rfl ?_
    refine SeqR.cal rfl rfl rfl rfl rfl (w_get4 (bs := hb.drop 4) (R1.of_eq rfl) (fun i b q => by rw [List.getElem?_drop] at q; simpa [Nat.add_assoc] using sec_at _ _ q) (by omega) (by simp; omega)) ?_
    rintro _ _ m2 ⟨rfl, rfl, hm2⟩
    refine ⟨_, rfl, ?_⟩
    refine SeqR.go rfl rfl rfl (cv tu89 tu3) rfl ?_
    refine SeqR.go rfl rfl rfl (st_pure rfl rfl) rfl ?_
    refine SeqR.nil ?_
    refine Ek.seq ?_
    refine Ek.seq ?_
    rw [IntWalk.i64_in _ (by omega)]
    have e5 : (hb.take 508).length = 508 := by rw [List.length_take]; omega
    refine Ek.drz (z := 18) (by kernel_rfl) rfl ?_
    refine SeqD.go rfl rfl rfl (st_pure rfl rfl) rfl ?_
    refine SeqD.cal rfl rfl rfl rfl rfl (w_get4 (bs := hb) R1 (fun i b q => by simpa using sec_at _ _ q) (by omega) (by omega)) ?_
    rintro _ _ m3 ⟨rfl, rfl, hm3⟩
    refine ⟨_, rfl, ?_⟩
    refine SeqD.go rfl rfl rfl (st_pure rfl rfl) rfl ?_
    refine SeqD.go rfl rfl rfl (st_pure rfl rfl) rfl ?_
    refine SeqD.go rfl (by simp; omega) rfl (st_pure rfl rfl) rfl ?_
    refine SeqD.go rfl (by simp; omega) rfl (st_pure rfl rfl) rfl ?_
    refine SeqD.go rfl rfl rfl (st_pickF (by simp; omega)) rfl ?_
    refine SeqD.go rfl rfl rfl (st_pure rfl rfl) rfl ?_
    refine SeqD.go rfl (by simp; omega) rfl (st_pure rfl rfl) rfl ?_
    refine SeqD.go rfl (by simp; omega) rfl (slHi (hi := 508) te33 tz5 (by omega)) rfl ?_
    refine SeqD.go rfl (by simp; omega) rfl (bs1 te22 tz33 tzo33) rfl ?_
    refine SeqD.cal rfl (by simp; omega) rfl rfl rfl (w_sum (bs := hb.take 508) (o := 0) (c := ch) (by rw [e5]; exact Row.new_eq rfl) (R1.set_ne (by omega)) (fun i b q => by rw [List.getElem?_take] at q; split at q; rw [Nat.zero_add]; exact sec_at _ _ q; cases q) (by rw [e5, List.length_append, cellsB_len]; omega) (by omega)) ?_
    rintro _ _ m4 ⟨rfl, rfl, hm4⟩
    refine ⟨_, rfl, ?_⟩
    refine SeqD.go rfl (by simp; omega) rfl (cv tu91 tu89) rfl ?_
    rw [IntWalk.u64_in _ (by omega)]
    refine SeqD.go rfl (by simp; omega) rfl (st_pure rfl rfl) rfl ?_
    refine SeqD.go rfl (by simp; omega) rfl (slLo (lo := 508) te33 tz5 (by decide) (by decide) (by omega)) rfl ?_
    refine SeqD.cal rfl (by simp; omega) rfl rfl rfl (w_get4 (bs := hb.drop 508) (R1.set_ne (by omega)) (fun i b q => by rw [List.getElem?_drop] at q; simpa [Nat.add_assoc] using sec_at _ _ q) (by omega) (by simp; omega)) ?_
    rintro _ _ m5 ⟨rfl, rfl, hm5⟩
    refine ⟨_, rfl, ?_⟩
    refine SeqD.go rfl (by simp; omega) rfl (st_pure rfl rfl) rfl ?_
    refine SeqD.go rfl rfl rfl (st_pickF (by simp; omega)) rfl ?_
    refine SeqD.nil ?_
    refine Ek.condT rfl (by simp; omega) ?_
    refine Ek.seq ?_
    refine Ek.reg ?_
    refine SeqR.go rfl rfl rfl (st_pure rfl rfl) rfl ?_
    refine SeqR.nil ?_
    exact Ek.ret ⟨Or.inr rfl, _, rfl, _, _, rfl, Or.inl ⟨rfl, by rw [hempty (fun q => c3 q.2.2)]; rfl⟩, Bd.set B1 (by omega) (by omega), by omega, fun γ hγ => by rw [get_set_ne (by omega), same1 γ (by omega)], fun γ hγ => (by cases hγ)⟩
  refine Ek.seq ?_
  refine Ek.reg ?_
  refine SeqR.go rfl rfl rfl (st_pure rfl rfl) rfl ?_
  refine SeqR.nil ?_
  refine Ek.seq ?_
  refine Ek.reg ?_
  refine SeqR.go rfl rfl rfl (st_pure rfl rfl) rfl ?_
  refine SeqR.cal rfl rfl rfl rfl rfl (w_read (i := 0) A (B.mono (by omega)) hhb) ?_
  rintro v1 h1 m1 ⟨s1, rfl, S1, B1, hm1, same1⟩
  refine ⟨_, rfl, ?_⟩
  refine SeqR.go rfl rfl rfl (st_pure rfl rfl) rfl ?_
  refine SeqR.go rfl rfl rfl (st_pure rfl rfl) rfl ?_
  refine SeqR.go rfl rfl rfl (st_pure rfl rfl) rfl ?_
  refine SeqR.go rfl rfl rfl (st_pure rfl rfl) rfl ?_
  refine SeqR.go rfl rfl rfl (st_pure rfl rfl) rfl ?_
  refine SeqR.nil ?_
  refine Ek.seq ?_
  obtain ⟨βh, ch, rfl, ⟨r, R1, hr⟩, hl1, hc1⟩ := S1
  have hβ := B1.row R1
  refine Ek.reg ?_
  refine SeqR.go rfl rfl rfl (st_pure rfl rfl) rfl ?_
  refine SeqR.go rfl rfl rfl (slLo (lo := 4) te33 tz5 (by decide) (by decide) (by omega)) rfl ?_
  refine SeqR.cal rfl rfl rfl rfl rfl (w_get4 (bs := hb.drop 4) (R1.of_eq rfl) (fun i b q => by rw [List.getElem?_drop] at q; simpa [Nat.add_assoc] using sec_at _ _ q) (by omega) (by simp; omega)) ?_
  rintro _ _ m2 ⟨rfl, rfl, hm2⟩
  refine ⟨_, rfl, ?_⟩
  refine SeqR.go rfl rfl rfl (cv tu89 tu3) rfl ?_
  refine SeqR.go rfl rfl rfl (st_pure rfl rfl) rfl ?_
  refine SeqR.nil ?_
  refine Ek.seq ?_
  refine Ek.seq ?_
  rw [IntWalk.i64_in _ (by omega)]
  have e5 : (hb.take 508).length = 508 := by rw [List.length_take]; omega
  refine Ek.drz (z := 18) (by kernel_rfl) rfl ?_
  refine SeqD.go rfl rfl rfl (st_pure rfl rfl) rfl ?_
  refine SeqD.cal rfl rfl rfl rfl rfl (w_get4 (bs := hb) R1 (fun i b q => by simpa using sec_at _ _ q) (by omega) (by omega)) ?_
  rintro _ _ m3 ⟨rfl, rfl, hm3⟩
  refine ⟨_, rfl, ?_⟩
  refine SeqD.go rfl rfl rfl (st_pure rfl rfl) rfl ?_
  refine SeqD.go rfl rfl rfl (st_pure rfl rfl) rfl ?_
  refine SeqD.go rfl (by simp; omega) rfl (st_pure rfl rfl) rfl ?_
  refine SeqD.go rfl (by simp; omega) rfl (st_pure rfl rfl) rfl ?_
  refine SeqD.go rfl rfl rfl (st_pickF (by simp; omega)) rfl ?_
  refine SeqD.go rfl rfl rfl (st_pure rfl rfl) rfl ?_
  refine SeqD.go rfl (by simp; omega) rfl (st_pure rfl rfl) rfl ?_
  refine SeqD.go rfl (by simp; omega) rfl (slHi (hi := 508) te33 tz5 (by omega)) rfl ?_
  refine SeqD.go rfl (by simp; omega) rfl (bs1 te22 tz33 tzo33) rfl ?_
  refine SeqD.cal rfl (by simp; omega) rfl rfl rfl (w_sum (bs := hb.take 508) (o := 0) (c := ch) (by rw [e5]; exact Row.new_eq rfl) (R1.set_ne (by omega)) (fun i b q => by rw [List.getElem?_take] at q; split at q; rw [Nat.zero_add]; exact sec_at _ _ q; cases q) (by rw [e5, List.length_append, cellsB_len]; omega) (by omega)) ?_
  rintro _ _ m4 ⟨rfl, rfl, hm4⟩
  refine ⟨_, rfl, ?_⟩
  refine SeqD.go rfl (by simp; omega) rfl (cv tu91 tu89) rfl ?_
  rw [IntWalk.u64_in _ (by omega)]
  refine SeqD.go rfl (by simp; omega) rfl (st_pure rfl rfl) rfl ?_
  refine SeqD.go rfl (by simp; omega) rfl (slLo (lo := 508) te33 tz5 (by decide) (by decide) (by omega)) rfl ?_
  refine SeqD.cal rfl (by simp; omega) rfl rfl rfl (w_get4 (bs := hb.drop 508) (R1.set_ne (by omega)) (fun i b q => by rw [List.getElem?_drop] at q; simpa [Nat.add_assoc] using sec_at _ _ q) (by omega) (by simp; omega)) ?_
  rintro _ _ m5 ⟨rfl, rfl, hm5⟩
  refine ⟨_, rfl, ?_⟩
  refine SeqD.go rfl (by simp; omega) rfl (st_pure rfl rfl) rfl ?_
  refine SeqD.go rfl rfl rfl (st_pickF (by simp; omega)) rfl ?_
  refine SeqD.nil ?_
  refine Ek.condF rfl (by simp; omega) ?_
  refine Ek.skip ?_
  refine Ek.seq ?_
  refine Ek.reg ?_
  refine SeqR.go rfl rfl rfl (st_pure rfl rfl) rfl ?_
  refine SeqR.nil ?_
  refine Ek.seq ?_
  refine Ek.reg ?_
  refine SeqR.go rfl rfl rfl (st_pure rfl rfl) rfl ?_
  refine SeqR.nil ?_
  refine Ek.seq ?_
  refine Ek.seq ?_
  generalize hh2 : T.set h1 _ _ = h2
  have Rh0 : Row h2 βh (cellsB hb ++ r) := by rw [← hh2]; exact R1.set_ne (by omega)
  have same2 : ∀ γ, γ < m1 → h2.get γ = h1.get γ := fun γ hγ => by rw [← hh2]; exact get_set_ne (by omega)
  have hyes : grp D.now = grpF (get4 (hb.drop 8)) (grpL D.now hb (get4 (hb.drop 4)) 0 0 []) := by rw [grp_yes (by rw [hbd]; exact ⟨c1, c2, c3⟩), hbd]
  refine Ek.reg ?_
  refine SeqR.go rfl rfl rfl (st_pure rfl rfl) rfl ?_
  refine SeqR.go rfl rfl rfl (st_pure rfl rfl) rfl ?_
  refine SeqR.nil ?_
  refine Ek.block ?_
  refine Ek.loop_inv (fun e fr st => ∃ k hk mk lv s l, k + e = get4 (hb.drop 4) ∧ Le (frQ d βh ch (get4 (hb.drop 4)) k s lv) fr ∧ st = ⟨hk, mk⟩ ∧ m1 ≤ mk ∧ Bd hk mk ∧ (∀ γ, γ < m1 → hk.get γ = h1.get γ) ∧ Vec hk 1 lv (intsV l) ∧ l.length = k ∧ (∀ γ, lv.base = some γ → m1 ≤ γ) ∧ 0 ≤ s ∧ s < 4294967296 ∧ grpL D.now hb (get4 (hb.drop 4)) 0 0 [] = grpL D.now hb e k s l) ?_ (get4 (hb.drop 4)) _ _ ⟨0, _, _, .nils, 0, [], by omega, Le.put (Le.put (Le.put (Le.put (Le.put (Le.put (Le.put (Le.nil _) rfl) rfl) rfl) rfl) rfl) rfl) rfl, rfl, by omega, ?_⟩
  rotate_left
  · exact ⟨by rw [← hh2]; exact Bd.set B1 (by omega) (by omega), same2, Or.inl ⟨rfl, rfl⟩, rfl, fun γ hγ => (by cases hγ), by decide, by decide, rfl⟩
  rintro e fr st ⟨k, hk, mk, lv, s, l, hi, hle, rfl, hmk, Bk, samek, Vk, hll, hbk, hs0, hs1, hgr⟩
  refine Ek.weaken hle ?_
  clear hle
  have Ak : Disk hk d D own := A.keep B (fun γ hγ => (samek γ (by omega)).trans (same1 γ (by omega)))
  have Rh : Row hk βh (cellsB hb ++ r) := R1.of_eq (samek βh hβ)
  have gk := get4_lt (hb.drop (12 + 4 * k))
  rcases (show (k < get4 (hb.drop 4) ∧ get4 (hb.drop (12 + 4 * k)) < 48) ∨ (k < get4 (hb.drop 4) ∧ 48 ≤ get4 (hb.drop (12 + 4 * k)) ∧ D.now.length ≤ get4 (hb.drop (12 + 4 * k))) ∨ (k < get4 (hb.drop 4) ∧ 48 ≤ get4 (hb.drop (12 + 4 * k)) ∧ get4 (hb.drop (12 + 4 * k)) < D.now.length) ∨ ¬ k < get4 (hb.drop 4) by omega) with ⟨hkn, c48⟩ | ⟨hkn, c48, cln⟩ | ⟨hkn, c48, cln⟩ | hkn
  · skip
    refine Ek.seq ?_
    refine Ek.reg ?_
    refine SeqR.go rfl rfl rfl (st_pure rfl rfl) rfl ?_
    refine SeqR.nil ?_
    refine Ek.seq ?_
    refine Ek.condT rfl (by simp; omega) ?_
    refine Ek.skip ?_
    refine Ek.seq ?_
    refine Ek.block ?_
    refine Ek.seq ?_
    refine Ek.reg ?_
    refine SeqR.go rfl rfl rfl (st_pure rfl rfl) rfl ?_
    refine SeqR.go rfl rfl rfl (st_pure rfl rfl) rfl ?_
    refine SeqR.nil ?_
    refine Ek.seq ?_
    refine Ek.reg ?_
    refine SeqR.go rfl rfl rfl (st_pure rfl rfl) rfl ?_
    refine SeqR.go rfl rfl rfl (st_pure rfl rfl) rfl ?_
    refine SeqR.go rfl rfl rfl (mulN (a := 4) (b := k) (by omega)) rfl ?_
    refine SeqR.go rfl rfl rfl (addK (a := 12) (b := 4 * k) (by omega)) rfl ?_
    refine SeqR.go rfl rfl rfl (slLo (lo := 12 + 4 * k) te33 tz5 (by omega) (by omega) (by omega)) rfl ?_
    refine SeqR.cal rfl rfl rfl rfl rfl (w_get4 (bs := hb.drop (12 + 4 * k)) Rh (fun i b q => by rw [List.getElem?_drop] at q; simpa [Nat.add_assoc] using sec_at _ _ q) (by omega) (by simp; omega)) ?_
    rintro _ _ m6 ⟨rfl, rfl, hm6⟩
    refine ⟨_, rfl, ?_⟩
    refine SeqR.go rfl rfl rfl (cv tu89 tu3) rfl ?_
    refine SeqR.go rfl rfl rfl (st_pure rfl rfl) rfl ?_
    refine SeqR.nil ?_
    refine Ek.seq ?_
    refine Ek.seq ?_
    rw [IntWalk.i64_in _ (by omega)]
    refine Ek.reg ?_
    refine SeqR.go rfl rfl rfl (st_pure rfl rfl) rfl ?_
    refine SeqR.go rfl rfl rfl (st_pure rfl rfl) rfl ?_
    refine SeqR.go rfl rfl rfl (st_pure rfl rfl) rfl ?_
    refine SeqR.hop rfl (by simp; omega) rfl ?_
    refine SeqR.hop rfl (by simp; omega) rfl ?_
    refine SeqR.hop rfl (by simp; omega) rfl ?_
    refine SeqR.hop rfl (by simp; omega) rfl ?_
    refine SeqR.go rfl rfl rfl (st_pickT (by simp; omega)) rfl ?_
    refine SeqR.nil ?_
    refine Ek.condT rfl rfl ?_
    refine Ek.seq ?_
    refine Ek.reg ?_
    refine SeqR.go rfl rfl rfl (st_pure rfl rfl) rfl ?_
    refine SeqR.nil ?_
    refine Ek.ret ⟨Or.inr rfl, _, rfl, _, _, rfl, Or.inl ⟨rfl, ?_⟩, Bk.mono (by omega), by omega, fun γ hγ => (samek γ (by omega)).trans (same1 γ (by omega)), fun γ hγ => (by cases hγ)⟩
    have e0 : grp D.now = [] := by
      rw [hyes, hgr, show e = (e - 1) + 1 by omega]
      simp only [grpL]
      rw [if_pos (by omega)]; rfl
    rw [e0]; rfl
  · skip
    refine Ek.seq ?_
    refine Ek.reg ?_
    refine SeqR.go rfl rfl rfl (st_pure rfl rfl) rfl ?_
    refine SeqR.nil ?_
    refine Ek.seq ?_
    refine Ek.condT rfl (by simp; omega) ?_
    refine Ek.skip ?_
    refine Ek.seq ?_
    refine Ek.block ?_
    refine Ek.seq ?_
    refine Ek.reg ?_
    refine SeqR.go rfl rfl rfl (st_pure rfl rfl) rfl ?_
    refine SeqR.go rfl rfl rfl (st_pure rfl rfl) rfl ?_
    refine SeqR.nil ?_
    refine Ek.seq ?_
    refine Ek.reg ?_
    refine SeqR.go rfl rfl rfl (st_pure rfl rfl) rfl ?_
    refine SeqR.go rfl rfl rfl (st_pure rfl rfl) rfl ?_
    refine SeqR.go rfl rfl rfl (mulN (a := 4) (b := k) (by omega)) rfl ?_
    refine SeqR.go rfl rfl rfl (addK (a := 12) (b := 4 * k) (by omega)) rfl ?_
    refine SeqR.go rfl rfl rfl (slLo (lo := 12 + 4 * k) te33 tz5 (by omega) (by omega) (by omega)) rfl ?_
    refine SeqR.cal rfl rfl rfl rfl rfl (w_get4 (bs := hb.drop (12 + 4 * k)) Rh (fun i b q => by rw [List.getElem?_drop] at q; simpa [Nat.add_assoc] using sec_at _ _ q) (by omega) (by simp; omega)) ?_
    rintro _ _ m6 ⟨rfl, rfl, hm6⟩
    refine ⟨_, rfl, ?_⟩
    refine SeqR.go rfl rfl rfl (cv tu89 tu3) rfl ?_
    refine SeqR.go rfl rfl rfl (st_pure rfl rfl) rfl ?_
    refine SeqR.nil ?_
    refine Ek.seq ?_
    refine Ek.seq ?_
    rw [IntWalk.i64_in _ (by omega)]
    refine Ek.reg ?_
    refine SeqR.go rfl rfl rfl (st_pure rfl rfl) rfl ?_
    refine SeqR.go rfl rfl rfl (st_pure rfl rfl) rfl ?_
    refine SeqR.go rfl rfl rfl (st_pure rfl rfl) rfl ?_
    refine SeqR.go rfl (by simp; omega) rfl (st_pure rfl rfl) rfl ?_
    refine SeqR.go rfl (by simp; omega) rfl (st_pure rfl rfl) rfl ?_
    refine SeqR.cal rfl (by simp; omega) rfl rfl rfl (w_len Ak) ?_
    rintro _ _ m7 ⟨rfl, rfl, hm7⟩
    refine ⟨_, rfl, ?_⟩
    refine SeqR.go rfl (by simp; omega) rfl (st_pure rfl rfl) rfl ?_
    refine SeqR.go rfl rfl rfl (st_pickF (by simp; omega)) rfl ?_
    refine SeqR.nil ?_
    refine Ek.condT rfl (by simp; omega) ?_
    refine Ek.seq ?_
    refine Ek.reg ?_
    refine SeqR.go rfl rfl rfl (st_pure rfl rfl) rfl ?_
    refine SeqR.nil ?_
    refine Ek.ret ⟨Or.inr rfl, _, rfl, _, _, rfl, Or.inl ⟨rfl, ?_⟩, Bk.mono (by omega), by omega, fun γ hγ => (samek γ (by omega)).trans (same1 γ (by omega)), fun γ hγ => (by cases hγ)⟩
    have e0 : grp D.now = [] := by
      rw [hyes, hgr, show e = (e - 1) + 1 by omega]
      simp only [grpL]
      rw [if_pos (by omega)]; rfl
    rw [e0]; rfl
  · skip
    refine Ek.seq ?_
    refine Ek.reg ?_
    refine SeqR.go rfl rfl rfl (st_pure rfl rfl) rfl ?_
    refine SeqR.nil ?_
    refine Ek.seq ?_
    refine Ek.condT rfl (by simp; omega) ?_
    refine Ek.skip ?_
    refine Ek.seq ?_
    refine Ek.block ?_
    refine Ek.seq ?_
    refine Ek.reg ?_
    refine SeqR.go rfl rfl rfl (st_pure rfl rfl) rfl ?_
    refine SeqR.go rfl rfl rfl (st_pure rfl rfl) rfl ?_
    refine SeqR.nil ?_
    refine Ek.seq ?_
    refine Ek.reg ?_
    refine SeqR.go rfl rfl rfl (st_pure rfl rfl) rfl ?_
    refine SeqR.go rfl rfl rfl (st_pure rfl rfl) rfl ?_
    refine SeqR.go rfl rfl rfl (mulN (a := 4) (b := k) (by omega)) rfl ?_
    refine SeqR.go rfl rfl rfl (addK (a := 12) (b := 4 * k) (by omega)) rfl ?_
    refine SeqR.go rfl rfl rfl (slLo (lo := 12 + 4 * k) te33 tz5 (by omega) (by omega) (by omega)) rfl ?_
    refine SeqR.cal rfl rfl rfl rfl rfl (w_get4 (bs := hb.drop (12 + 4 * k)) Rh (fun i b q => by rw [List.getElem?_drop] at q; simpa [Nat.add_assoc] using sec_at _ _ q) (by omega) (by simp; omega)) ?_
    rintro _ _ m6 ⟨rfl, rfl, hm6⟩
    refine ⟨_, rfl, ?_⟩
    refine SeqR.go rfl rfl rfl (cv tu89 tu3) rfl ?_
    refine SeqR.go rfl rfl rfl (st_pure rfl rfl) rfl ?_
    refine SeqR.nil ?_
    refine Ek.seq ?_
    refine Ek.seq ?_
    rw [IntWalk.i64_in _ (by omega)]
    refine Ek.reg ?_
    refine SeqR.go rfl rfl rfl (st_pure rfl rfl) rfl ?_
    refine SeqR.go rfl rfl rfl (st_pure rfl rfl) rfl ?_
    refine SeqR.go rfl rfl rfl (st_pure rfl rfl) rfl ?_
    refine SeqR.go rfl (by simp; omega) rfl (st_pure rfl rfl) rfl ?_
    refine SeqR.go rfl (by simp; omega) rfl (st_pure rfl rfl) rfl ?_
    refine SeqR.cal rfl (by simp; omega) rfl rfl rfl (w_len Ak) ?_
    rintro _ _ m7 ⟨rfl, rfl, hm7⟩
    refine ⟨_, rfl, ?_⟩
    refine SeqR.go rfl (by simp; omega) rfl (st_pure rfl rfl) rfl ?_
    refine SeqR.go rfl rfl rfl (st_pickF (by simp; omega)) rfl ?_
    refine SeqR.nil ?_
    refine Ek.condF rfl (by simp; omega) ?_
    refine Ek.skip ?_
    refine Ek.seq ?_
    have hnk : D.now[1 + k]? = some (D.now.getD (1 + k) []) := by rw [List.getD_eq_getElem?_getD, List.getElem?_eq_getElem (by omega)]; rfl
    refine Ek.reg ?_
    refine SeqR.go rfl rfl rfl (st_pure rfl rfl) rfl ?_
    refine SeqR.go rfl rfl rfl (st_pure rfl rfl) rfl ?_
    refine SeqR.go rfl rfl rfl (addK (a := 1) (b := k) (by omega)) rfl ?_
    refine SeqR.cal rfl rfl rfl rfl rfl (w_read Ak (Bk.mono (by omega)) hnk) ?_
    rintro v8 h8 m8 ⟨s8, rfl, S8, B8, hm8, same8⟩
    refine ⟨_, rfl, ?_⟩
    refine SeqR.go rfl rfl rfl (st_pure rfl rfl) rfl ?_
    refine SeqR.go rfl rfl rfl (st_pure rfl rfl) rfl ?_
    refine SeqR.go rfl rfl rfl (st_pure rfl rfl) rfl ?_
    refine SeqR.go rfl rfl rfl (st_pure rfl rfl) rfl ?_
    refine SeqR.go rfl rfl rfl (st_pure rfl rfl) rfl ?_
    refine SeqR.nil ?_
    refine Ek.seq ?_
    refine Ek.reg ?_
    refine SeqR.go rfl rfl rfl (st_pure rfl rfl) rfl ?_
    refine SeqR.go rfl rfl rfl (st_pure rfl rfl) rfl ?_
    refine SeqR.cal rfl rfl rfl rfl rfl (w_moreS S8) ?_
    rintro _ _ m9 ⟨rfl, rfl, hm9⟩
    refine ⟨_, rfl, ?_⟩
    refine SeqR.go rfl rfl rfl (st_pure rfl rfl) rfl ?_
    refine SeqR.nil ?_
    refine Ek.reg ?_
    refine SeqR.go rfl rfl rfl (st_pure rfl rfl) rfl ?_
    refine SeqR.go rfl rfl rfl (st_pure rfl rfl) rfl ?_
    refine SeqR.go rfl rfl rfl (bs1 te23 tz3 tzo3) rfl ?_
    refine SeqR.ex rfl rfl rfl (st_app (new := [.int .i64 ((get4 (hb.drop (12 + 4 * k)) : Nat) : Int)]) (k := 1) te23 tz3 tb3 te23 ((Vk.of_eq (fun γ hγ => same8 γ (by have := Bk.base Vk hγ; omega))).of_eq fun γ hγ => get_set_ne (by have := Bk.base Vk hγ; omega)) (by decide) (by decide) rfl (elems_row (Row.new) (Nat.le_refl 1)) rfl rfl tzo3 (by simp [intsV]; omega)) ?_
    rintro v10 h10 m10 ⟨V10, p1, p2, p3, p4⟩
    refine ⟨_, rfl, ?_⟩
    refine SeqR.go rfl rfl rfl (st_pure rfl rfl) rfl ?_
    refine SeqR.nil ?_
    refine Ek.reg ?_
    refine SeqR.go rfl rfl rfl add1 rfl ?_
    refine SeqR.go rfl rfl rfl (st_pure rfl rfl) rfl ?_
    refine SeqR.nil ?_
    have hrng := crcM_rng s (D.now.getD (1 + k) [])
    refine ⟨e - 1, by omega, k + 1, h10, _, v10, _, l ++ [get4 (hb.drop (12 + 4 * k))], by omega, Le.put (Le.put (Le.put (Le.put (Le.put (Le.put (Le.put (Le.nil _) rfl) rfl) rfl) rfl) rfl) rfl) rfl, rfl, by omega, ?_, ?_, ?_, by simp [hll], ?_, hrng.1, hrng.2, ?_⟩
    · exact (Bd.of (m' := m10) (Bd.set B8 (Nat.lt_succ_self _) (by omega)) (by omega) (fun γ hγ => p3 γ (Or.inr hγ) (fun q => by have := Bk.base Vk q; omega))).mono (by omega)
    · intro γ hγ
      rw [p3 γ (Or.inl (by omega)) (fun q => by have := hbk γ q; omega), get_set_ne (by omega), same8 γ (by omega), samek γ hγ]
    · have e7 : intsV (l ++ [get4 (hb.drop (12 + 4 * k))]) = intsV l ++ [.int .i64 ((get4 (hb.drop (12 + 4 * k)) : Nat) : Int)] := by simp [intsV]
      rw [e7]; exact V10
    · intro γ hγ
      rcases p4 with q | q
      · exact hbk γ (q ▸ hγ)
      · rw [q] at hγ; injection hγ; omega
    · rw [hgr, show e = (e - 1) + 1 by omega]
      simp only [grpL]
      rw [if_neg (by omega)]
      rfl
  · skip
    refine Ek.seq ?_
    refine Ek.reg ?_
    refine SeqR.go rfl rfl rfl (st_pure rfl rfl) rfl ?_
    refine SeqR.nil ?_
    refine Ek.seq ?_
    refine Ek.condF rfl (by simp; omega) ?_
    refine Ek.exit ?_
    simp only [AEx.then, AEx.inBlock, if_true]
    refine Ek.seq ?_
    refine Ek.seq ?_
    refine Ek.reg ?_
    refine SeqR.go rfl rfl rfl (st_pure rfl rfl) rfl ?_
    refine SeqR.go rfl rfl rfl (cv tu91 tu89) rfl ?_
    rw [IntWalk.u64_in _ (by omega)]
    refine SeqR.go rfl rfl rfl (st_pure rfl rfl) rfl ?_
    refine SeqR.go rfl rfl rfl (slLo (lo := 8) te33 tz5 (by decide) (by decide) (by omega)) rfl ?_
    refine SeqR.cal rfl rfl rfl rfl rfl (w_get4 (bs := hb.drop 8) Rh (fun i b q => by rw [List.getElem?_drop] at q; simpa [Nat.add_assoc] using sec_at _ _ q) (by omega) (by simp; omega)) ?_
    rintro _ _ m11 ⟨rfl, rfl, hm11⟩
    refine ⟨_, rfl, ?_⟩
    refine SeqR.go rfl rfl rfl (st_pure rfl rfl) rfl ?_
    refine SeqR.nil ?_
    by_cases cs : ¬ s = (get4 (hb.drop 8) : Int)
    · refine Ek.condT rfl (by simp [cs]) ?_
      refine Ek.seq ?_
      refine Ek.reg ?_
      refine SeqR.go rfl rfl rfl (st_pure rfl rfl) rfl ?_
      refine SeqR.nil ?_
      refine Ek.ret ⟨Or.inr rfl, _, rfl, _, _, rfl, Or.inl ⟨rfl, ?_⟩, Bk.mono (by omega), by omega, fun γ hγ => (samek γ (by omega)).trans (same1 γ (by omega)), fun γ hγ => (by cases hγ)⟩
      have e0 : grp D.now = [] := by
        rw [hyes, hgr, show e = 0 by omega]
        exact if_neg cs
      rw [e0]; rfl
    · refine Ek.condF rfl (by simp at cs; simp [cs]) ?_
      refine Ek.skip ?_
      refine Ek.seq ?_
      refine Ek.reg ?_
      refine SeqR.go rfl rfl rfl (st_pure rfl rfl) rfl ?_
      refine SeqR.go rfl rfl rfl (st_pure rfl rfl) rfl ?_
      refine SeqR.nil ?_
      have e0 : grp D.now = l := by
        rw [hyes, hgr, show e = 0 by omega]
        exact if_pos (by simpa using cs)
      exact Ek.ret ⟨Or.inr rfl, _, rfl, _, _, rfl, by rw [e0]; exact Vk, Bk.mono (by omega), by omega, fun γ hγ => (samek γ (by omega)).trans (same1 γ (by omega)), fun γ hγ => by have := hbk γ hγ; omega⟩
end
end Go.Xec
