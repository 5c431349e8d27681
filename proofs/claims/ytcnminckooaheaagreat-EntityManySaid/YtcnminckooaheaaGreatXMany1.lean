/- The tables of the program's types, as far as EntityMany's texts use them; and the contract of entity.Make. -/
import Derived.Test.YtcnminckooaheaaGreatProg
import Derived.Test.YtcnminckooaheaaGreatXq
namespace Go.Xec
open Go.Proofs
noncomputable abbrev MP : Program := Tryz.prog
theorem mp_follows : MP.follows .mixedOrders = true := by kernel_rfl
theorem mp_under29 : MP.underlying 29 = some (.pointer 46) := by kernel_rfl
theorem mp_f46_1 : fieldT MP 46 1 = some (1, 2, 1) := by kernel_rfl
theorem mp_f46_4 : fieldT MP 46 4 = some (4, 40, 1) := by kernel_rfl
theorem mp_f38_0 : fieldT MP 38 0 = some (0, 2, 1) := by kernel_rfl
theorem mp_f38_2 : fieldT MP 38 2 = some (2, 3, 1) := by kernel_rfl
theorem mp_f38_3 : fieldT MP 38 3 = some (3, 3, 1) := by kernel_rfl
theorem mp_f38_4 : fieldT MP 38 4 = some (4, 9, 1) := by kernel_rfl
theorem mp_a2 : aggT MP 2 = some false := by kernel_rfl
theorem mp_a3 : aggT MP 3 = some false := by kernel_rfl
theorem mp_a9 : aggT MP 9 = some false := by kernel_rfl
theorem mp_a40 : aggT MP 40 = some false := by kernel_rfl
theorem mp_z2 : sizeOfT MP 2 = some 1 := by kernel_rfl
theorem mp_z38 : sizeOfT MP 38 = some 5 := by kernel_rfl
theorem mp_z40 : sizeOfT MP 40 = some 1 := by kernel_rfl
theorem mp_e40 : sliceElem MP 40 = some 38 := by kernel_rfl
theorem mp_by38b : (match bytesOfT MP 38 with
  | some b => Nat.ble b 64
  | none => false) = true := by kernel_rfl
theorem mp_by38 : ∃ b, bytesOfT MP 38 = some b ∧ b ≤ 64 := by
  have h := mp_by38b
  cases hb : bytesOfT MP 38 with
  | none => rw [hb] at h; cases h
  | some b => rw [hb] at h; exact ⟨b, rfl, Nat.le_of_ble_eq_true h⟩
theorem mp_zok38 : zeroOk MP 38 5 = true := by kernel_rfl

/-- What lies behind the field 'things' of a World of k things. -/
def ThOk (st : St) (wn k : Nat) (a : AV) : Prop :=
  (k = 0 ∧ a = .nils) ∨ ∃ β tc, a = .sl β 0 k k 5 ∧ β ≠ wn ∧ β < st.nxt ∧ st.heap.get β = some (.cells (k * 5) tc) ∧ (∀ j, j < k → tc.get (j * 5) = some (.int .i64 (3 + j))) ∧ (∀ i, i < k * 5 → ∃ x, tc.get i = some x)

structure WOk (st : St) (wn k : Nat) : Prop where
  lt : wn < st.nxt
  ex : ∃ wc th, st.heap.get wn = some (.cells 9 wc) ∧ wc.get 1 = some (.int .i64 (3 + k)) ∧ wc.get 4 = some th ∧ ThOk st wn k th

noncomputable def newTh (k : Nat) : AV := .agg [.int .i64 (3 + k), .int .i64 3, .int .i64 2, .int .i64 0, .str [120]]
theorem mp_build (k : Nat) : pureA Tryz.prog (.build 38 #[(0, .tmp 25), (1, .tmp 26), (2, .tmp 28), (3, .tmp 30), (4, .tmp 32)]) [.int .i64 (3 + k), .int .i64 3, .int .i64 2, .int .i64 0, .str [120]] = some (newTh k) := by kernel_rfl
theorem mp_bslice (k nm : Nat) : allocA Tryz.prog nm (.buildSlice 40 1 #[(0, .tmp 33)]) [newTh k] = some (.sl nm 0 1 1 5, blkOf (newTh k).cells) := by kernel_rfl

theorem newTh_cells (k : Nat) : (newTh k).cells = [.int .i64 (3 + k), .int .i64 3, .int .i64 2, .int .i64 0, .str [120]] := rfl

theorem readN_all {tc : T AV} : ∀ (m o : Nat), (∀ i, i < m → ∃ x, tc.get (o + i) = some x) → ∃ l, readN tc o m = some l
  | 0, _, _ => ⟨[], rfl⟩
  | m + 1, o, h => by
    obtain ⟨x, hx⟩ := h 0 (by omega)
    obtain ⟨l, hl⟩ := readN_all m (o + 1) (fun i hi => by
      obtain ⟨y, hy⟩ := h (i + 1) (by omega)
      exact ⟨y, by rw [show o + 1 + i = o + (i + 1) by omega]; exact hy⟩)
    exact ⟨x :: l, by simp only [readN]; rw [show o + 0 = o from rfl] at hx; rw [hx, hl]⟩

theorem append_th {call : Callee} {H : T ABlk} {M wn γ k nm : Nat} {th : AV} (hk : k < 200) (hth : ThOk ⟨H, M⟩ wn k th) (hγ : H.get γ = some (blkOf (newTh k).cells)) (hn : ∀ β o n c z, th = .sl β o n c z → β ≠ γ) (hw : wn < M) :
    ∃ H' : T ABlk, stepA Tryz.prog call nm ⟨H, M⟩ (.call { callee := .builtin .append, args := #[.tmp 21, .tmp 34], argTypes := #[40, 40] }) [th, .sl γ 0 1 1 5] = some (.sl M 0 (k + 1) (k + 1) 5, ⟨H', M + 1⟩)
      ∧ H'.get wn = H.get wn ∧ ThOk ⟨H', M + 1⟩ wn (k + 1) (.sl M 0 (k + 1) (k + 1) 5) := by
  obtain ⟨by_, hby, hble⟩ := mp_by38
  have hu := sliceElem_under mp_e40
  have hroom : roomA (k + 1) by_ = true := by
    unfold roomA
    have h1 : (2 * (k + 1) + 768) * by_ ≤ (2 * (k + 1) + 768) * 64 := Nat.mul_le_mul_left _ hble
    have h2 : Nat.ble ((2 * (k + 1) + 768) * by_) 281474976710656 = true := Nat.ble_eq_true_of_le (Nat.le_trans h1 (by omega))
    have h3 : Nat.blt (k + 1) 4611686018427387904 = true := by rw [Nat.blt_eq]; omega
    rw [h2, h3]; rfl
  have hel : elemsA ⟨H, M⟩ 5 (.sl γ 0 1 1 5) 1 = some (newTh k).cells := by
    unfold elemsA St.read
    simp only [hγ]
    rfl
  have hnew : (Nat.beq (newTh k).cells.length (1 * 5) && (newTh k).cells.all AV.one && zeroOk Tryz.prog 38 5) = true := by
    rw [show zeroOk Tryz.prog 38 5 = true from mp_zok38]; rfl
  have key : ∀ r, appendA Tryz.prog ⟨H, M⟩ 40 th (.sl γ 0 1 1 5) = some r → stepA Tryz.prog call nm ⟨H, M⟩ (.call { callee := .builtin .append, args := #[.tmp 21, .tmp 34], argTypes := #[40, 40] }) [th, .sl γ 0 1 1 5] = some r := by
    intro r hr
    obtain ⟨v, s⟩ := r
    refine st_eff (by kernel_rfl) ?_
    unfold effA
    have h0 : (#[40, 40] : Array TypeId)[0]? = some 40 := rfl
    have h1 : (#[40, 40] : Array TypeId)[1]? = some 40 := rfl
    simp only [h0, h1, hu]
    exact hr
  obtain ⟨rfl, rfl⟩ | ⟨β, tc, rfl, hne, hβ, hb, hid, hall⟩ := hth
  · refine ⟨H.set M (blkOf (newTh 0).cells), key _ ?_, ?_, Or.inr ⟨M, _, rfl, by omega, by simp only; omega, by simp only; rw [T.get_set, if_pos rfl]; rfl, ?_, ?_⟩⟩
    · unfold appendA
      have hl : lenA (.sl γ 0 1 1 5) = some 1 := rfl
      simp only [show sliceElem Tryz.prog 40 = some 38 from mp_e40, show sizeOfT Tryz.prog 38 = some 5 from mp_z38, show bytesOfT Tryz.prog 38 = some by_ from hby, hl, hel, hnew]
      rw [show roomA 1 by_ = true from hroom]
    · rw [T.get_set, if_neg (by omega)]
    · intro j hj
      have : j = 0 := by omega
      subst this; rfl
    · intro i hi
      have : i = 0 ∨ i = 1 ∨ i = 2 ∨ i = 3 ∨ i = 4 := by omega
      rcases this with rfl | rfl | rfl | rfl | rfl <;> exact ⟨_, rfl⟩
  · simp only at hβ hb
    obtain ⟨old, hold⟩ := readN_all (tc := tc) (k * 5) 0 (fun i hi => by rw [Nat.zero_add]; exact hall i hi)
    refine ⟨(H.del β).set M (.cells ((k + 1) * 5) (growT tc 0 (k * 5) old (newTh k).cells)), key _ ?_, ?_, Or.inr ⟨M, _, rfl, by omega, by simp only; omega, by simp only; rw [T.get_set, if_pos rfl], ?_, ?_⟩⟩
    · unfold appendA
      have hl : lenA (.sl γ 0 1 1 5) = some 1 := rfl
      have hc : Nat.ble (k + 1) k = false := by
        cases h : Nat.ble (k + 1) k with
        | false => rfl
        | true => exact absurd (Nat.le_of_ble_eq_true h) (by omega)
      have h2 : Nat.ble (0 + k * 5) (k * 5) = true := Nat.ble_eq_true_of_le (by omega)
      simp only [show sliceElem Tryz.prog 40 = some 38 from mp_e40, show sizeOfT Tryz.prog 38 = some 5 from mp_z38, show bytesOfT Tryz.prog 38 = some by_ from hby, hl, hel, hnew, hc, hroom, hb, h2, hold]
    · rw [T.get_set, if_neg (by omega), T.get_del, if_neg (by omega)]
    · intro j hj
      show (writeL tc (k * 5) (newTh k).cells).get (j * 5) = _
      rw [writeL_get]
      by_cases hjk : j = k
      · subst hjk
        rw [if_pos ⟨Nat.le_refl _, by rw [newTh_cells]; simp⟩, Nat.sub_self]; rfl
      · rw [if_neg (by omega)]; exact hid j (by omega)
    · intro i hi
      show ∃ x, (writeL tc (k * 5) (newTh k).cells).get i = some x
      rw [writeL_get]
      by_cases hik : k * 5 ≤ i
      · rw [if_pos ⟨hik, by rw [newTh_cells]; simp; omega⟩]
        obtain ⟨j, rfl⟩ : ∃ j, i = k * 5 + j := ⟨i - k * 5, by omega⟩
        rw [Nat.add_sub_cancel_left, newTh_cells]
        have : j = 0 ∨ j = 1 ∨ j = 2 ∨ j = 3 ∨ j = 4 := by omega
        rcases this with rfl | rfl | rfl | rfl | rfl <;> exact ⟨_, rfl⟩
      · rw [if_neg (by omega)]; exact hall i (by omega)
theorem wrap_next {k : Nat} (hk : k < 200) : IntKind.i64.wrap ((3 + (k : Int)) + 1) = 3 + ((k + 1 : Nat) : Int) := by
  rw [IntWalk.i64_in _ (by omega)]; omega
section
variable {call : Callee}
/-- The Thing that EntityMany hands over. -/
def dTh : AV := .agg [.int .i64 0, .int .i64 0, .int .i64 2, .int .i64 0, .str [120]]

theorem make_full {st : St} {wn : Nat} (h : WOk st wn 200) :
    ∃ loops v st', bodyA Tryz.prog call loops Tryz.f17 [.ptr wn 0, .int .i64 3, dTh] st = some (v, st') ∧ (v = .bool false ∧ WOk st' wn 200) := by
  cases st with | mk G m
  obtain ⟨hlt, wc, th, hw, hw1, hw4, hth⟩ := h
  obtain ⟨h0, _⟩ | ⟨β, tc, rfl, hne, hβ, hb, hid, hall⟩ := hth
  · cases h0
  simp only at hlt hw hβ hb
  refine bodyA_of_ex rfl rfl rfl ?_
  refine Ex.seq (Ex.reg ?_)
  refine SeqR.go rfl rfl rfl (st_alloc rfl rfl) rfl ?_
  refine SeqR.go rfl rfl rfl (st_pure rfl rfl) rfl ?_
  refine SeqR.nil ?_
  have hw' : (G.set m (blkOf dTh.cells)).get wn = some (.cells 9 wc) := by rw [T.get_set, if_neg (by omega)]; exact hw
  have hb' : (G.set m (blkOf dTh.cells)).get β = some (.cells (200 * 5) tc) := by rw [T.get_set, if_neg (by omega)]; exact hb
  simp only
  generalize G.set m (blkOf dTh.cells) = H at hw' hb' ⊢
  refine Ex.seq (Ex.seq (Ex.reg ?_))
  refine SeqR.go rfl rfl rfl (st_pure rfl rfl) rfl ?_
  refine SeqR.go rfl rfl rfl (st_eqnil mp_under29) rfl ?_
  refine SeqR.go rfl rfl rfl (st_pure rfl rfl) rfl ?_
  refine SeqR.go rfl rfl rfl (st_pure rfl rfl) rfl ?_
  refine SeqR.go rfl rfl rfl (st_pure rfl rfl) rfl ?_
  refine SeqR.go rfl rfl rfl (st_field mp_f46_4 rfl) rfl ?_
  refine SeqR.go rfl rfl rfl (st_load mp_a40 hw' (by decide) hw4) rfl ?_
  refine SeqR.go rfl rfl rfl (st_len mp_e40) rfl ?_
  refine SeqR.go rfl rfl rfl (st_pure rfl rfl) rfl ?_
  refine SeqR.go rfl rfl rfl (st_pure rfl rfl) rfl ?_
  refine SeqR.nil ?_
  refine Ex.condT rfl rfl ?_
  refine Ex.seq (Ex.reg ?_)
  refine SeqR.go rfl rfl rfl (st_pure rfl rfl) rfl ?_
  refine SeqR.nil ?_
  refine Ex.ret ?_
  refine ⟨Or.inr rfl, _, rfl, rfl, ?_⟩
  exact ⟨by simp only; omega, wc, _, hw', hw1, hw4, Or.inr ⟨β, tc, rfl, hne, by simp only; omega, hb', hid, hall⟩⟩

/-- Making a Thing, up to the append. -/
theorem make_more {st : St} {wn k : Nat} (hk : k < 200) (h : WOk st wn k) :
    ∃ loops v st', bodyA Tryz.prog call loops Tryz.f17 [.ptr wn 0, .int .i64 3, dTh] st = some (v, st') ∧ (v = .bool true ∧ WOk st' wn (k + 1)) := by
  cases st with | mk G m
  obtain ⟨hlt, wc, th, hw, hw1, hw4, hth⟩ := h
  simp only at hlt hw
  have hlen : ∀ (st0 : St) (nm : Nat), stepA Tryz.prog call nm st0 (.call { callee := .builtin .len, args := #[.tmp 13], argTypes := #[40] }) [th] = some (.int .i64 k, st0) := by
    intro st0 nm
    obtain ⟨rfl, rfl⟩ | ⟨β, tc, rfl, _⟩ := hth
    · exact st_len_nil mp_e40
    · exact st_len mp_e40
  refine bodyA_of_ex rfl rfl rfl ?_
  refine Ex.seq (Ex.reg ?_)
  refine SeqR.go rfl rfl rfl (st_alloc rfl rfl) rfl ?_
  refine SeqR.go rfl rfl rfl (st_pure rfl rfl) rfl ?_
  refine SeqR.nil ?_
  have hd : (G.set m (blkOf dTh.cells)).get m = some (blkOf dTh.cells) := by rw [T.get_set, if_pos rfl]
  have hw' : (G.set m (blkOf dTh.cells)).get wn = some (.cells 9 wc) := by rw [T.get_set, if_neg (by omega)]; exact hw
  have hth' : ThOk ⟨G.set m (blkOf dTh.cells), m + 1⟩ wn k th := by
    obtain h0 | ⟨β, tc, rfl, hne, hβ, hb, hid, hall⟩ := hth
    · exact Or.inl h0
    · simp only at hβ hb
      exact Or.inr ⟨β, tc, rfl, hne, Nat.lt_succ_of_lt hβ, by simp only; rw [T.get_set, if_neg (by omega)]; exact hb, hid, hall⟩
  simp only
  generalize G.set m (blkOf dTh.cells) = H at hd hw' hth' ⊢
  refine Ex.seq (Ex.seq (Ex.reg ?_))
  refine SeqR.go rfl rfl rfl (st_pure rfl rfl) rfl ?_
  refine SeqR.go rfl rfl rfl (st_eqnil mp_under29) rfl ?_
  refine SeqR.go rfl rfl rfl (st_pure rfl rfl) rfl ?_
  refine SeqR.go rfl rfl rfl (st_pure rfl rfl) rfl ?_
  refine SeqR.go rfl rfl rfl (st_pure rfl rfl) rfl ?_
  refine SeqR.go rfl rfl rfl (st_field mp_f46_4 rfl) rfl ?_
  refine SeqR.go rfl rfl rfl (st_load mp_a40 hw' (by decide) hw4) rfl ?_
  refine SeqR.go rfl rfl rfl (hlen _ _) rfl ?_
  refine SeqR.go rfl rfl rfl (st_pure rfl rfl) rfl ?_
  refine SeqR.go rfl rfl rfl (st_pure rfl rfl) rfl ?_
  refine SeqR.nil ?_
  refine Ex.condF rfl (decide_eq_false (by omega)) (Ex.skip ?_)
  refine Ex.seq (Ex.drw' (by kernel_rfl) ?_)
  refine SeqD.go rfl rfl rfl (st_pure rfl rfl) rfl ?_
  refine SeqD.go rfl rfl rfl (st_pure rfl rfl) rfl ?_
  refine SeqD.go rfl rfl rfl (st_pure rfl rfl) rfl ?_
  refine SeqD.go rfl rfl rfl (st_field mp_f46_4 rfl) rfl ?_
  refine SeqD.go rfl rfl rfl (st_load mp_a40 hw' (by decide) hw4) rfl ?_
  refine SeqD.go rfl rfl rfl (st_pure rfl rfl) rfl ?_
  refine SeqD.go rfl rfl rfl (st_pure rfl rfl) rfl ?_
  refine SeqD.go rfl rfl rfl (st_field mp_f46_1 rfl) rfl ?_
  refine SeqD.go rfl rfl rfl (st_load mp_a2 hw' (by decide) hw1) rfl ?_
  refine SeqD.go rfl rfl rfl (st_pure rfl rfl) rfl ?_
  refine SeqD.go rfl rfl rfl (st_field mp_f38_2 rfl) rfl ?_
  refine SeqD.go rfl rfl rfl (st_load mp_a3 hd (by decide) rfl) rfl ?_
  refine SeqD.go rfl rfl rfl (st_field mp_f38_3 rfl) rfl ?_
  refine SeqD.go rfl rfl rfl (st_load mp_a3 hd (by decide) rfl) rfl ?_
  refine SeqD.go rfl rfl rfl (st_field mp_f38_4 rfl) rfl ?_
  refine SeqD.go rfl rfl rfl (st_load mp_a9 hd (by decide) rfl) rfl ?_
  simp only [Nat.zero_add]
  refine SeqD.go rfl rfl rfl (st_pure rfl (mp_build k)) rfl ?_
  refine SeqD.go rfl rfl rfl (st_alloc rfl (mp_bslice k _)) rfl ?_
  simp only
  obtain ⟨H', happ, hwn, hth2⟩ := append_th (call := call) (H := H.set (m + 1 + 1 + 1 + 1 + 1 + 1 + 1 + 1 + 1 + 1 + 1 + 1 + 17) (blkOf (newTh k).cells)) (M := m + 1 + 1 + 1 + 1 + 1 + 1 + 1 + 1 + 1 + 1 + 1 + 1 + 22) (wn := wn) (γ := m + 1 + 1 + 1 + 1 + 1 + 1 + 1 + 1 + 1 + 1 + 1 + 1 + 17) (nm := m + 1 + 1 + 1 + 1 + 1 + 1 + 1 + 1 + 1 + 1 + 1 + 1 + 18) (k := k) (th := th) hk
    (by
      obtain h0 | ⟨β, tc, rfl, hne, hβ, hb, hid, hall⟩ := hth'
      · exact Or.inl h0
      · simp only at hβ hb
        exact Or.inr ⟨β, tc, rfl, hne, by simp only; omega, by simp only; rw [T.get_set, if_neg (by omega)]; exact hb, hid, hall⟩)
    (by rw [T.get_set, if_pos rfl])
    (by
      rintro β o n c z rfl
      obtain ⟨_, h0⟩ | ⟨β', tc, h0, hne, hβ, hb, hid, hall⟩ := hth'
      · cases h0
      · injection h0 with h0; subst h0
        simp only at hβ; omega)
    (by omega)
  rw [T.get_set, if_neg (by omega), hw'] at hwn
  refine SeqD.go rfl rfl rfl happ rfl ?_
  refine SeqD.go rfl rfl rfl (st_pure rfl rfl) rfl ?_
  refine SeqD.go rfl rfl rfl (st_field mp_f46_4 rfl) rfl ?_
  refine SeqD.go rfl rfl rfl (st_store mp_z40 rfl rfl hwn (by decide)) rfl ?_
  refine SeqD.nil ?_
  have hwc1 : (writeL wc (0 + 4) (AV.cells (.sl (m + 1 + 1 + 1 + 1 + 1 + 1 + 1 + 1 + 1 + 1 + 1 + 1 + 22) 0 (k + 1) (k + 1) 5))).get (0 + 1) = some (.int .i64 (3 + k)) := by
    rw [writeL_get, if_neg (by omega)]; exact hw1
  have hwc4 : (writeL wc (0 + 4) (AV.cells (.sl (m + 1 + 1 + 1 + 1 + 1 + 1 + 1 + 1 + 1 + 1 + 1 + 1 + 22) 0 (k + 1) (k + 1) 5))).get 4 = some (.sl (m + 1 + 1 + 1 + 1 + 1 + 1 + 1 + 1 + 1 + 1 + 1 + 1 + 22) 0 (k + 1) (k + 1) 5) := by
    rw [writeL_get, if_pos (by constructor <;> simp [AV.cells])]; rfl
  generalize writeL wc (0 + 4) (AV.cells (.sl (m + 1 + 1 + 1 + 1 + 1 + 1 + 1 + 1 + 1 + 1 + 1 + 1 + 22) 0 (k + 1) (k + 1) 5)) = wc1 at hwc1 hwc4 ⊢
  have hww : (H'.set wn (.cells 9 wc1)).get wn = some (.cells 9 wc1) := by rw [T.get_set, if_pos rfl]
  have hth3 : ThOk ⟨H'.set wn (.cells 9 wc1), m + 1 + 1 + 1 + 1 + 1 + 1 + 1 + 1 + 1 + 1 + 1 + 1 + 22 + 1⟩ wn (k + 1) (.sl (m + 1 + 1 + 1 + 1 + 1 + 1 + 1 + 1 + 1 + 1 + 1 + 1 + 22) 0 (k + 1) (k + 1) 5) := by
    obtain ⟨h0, _⟩ | ⟨β, tc, he, hne, hβ, hb, hid, hall⟩ := hth2
    · cases h0
    · exact Or.inr ⟨β, tc, he, hne, hβ, by simp only at hb ⊢; rw [T.get_set, if_neg hne]; exact hb, hid, hall⟩
  simp only
  generalize H'.set wn (.cells 9 wc1) = H2 at hww hth3 ⊢
  refine Ex.seq (Ex.reg ?_)
  refine SeqR.go rfl rfl rfl (st_pure rfl rfl) rfl ?_
  refine SeqR.go rfl rfl rfl (st_pure rfl rfl) rfl ?_
  refine SeqR.go rfl rfl rfl (st_field mp_f46_1 rfl) rfl ?_
  refine SeqR.go rfl rfl rfl (st_load mp_a2 hww (by decide) hwc1) rfl ?_
  refine SeqR.go rfl rfl rfl (st_add (wrap_next hk)) rfl ?_
  refine SeqR.go rfl rfl rfl (st_pure rfl rfl) rfl ?_
  refine SeqR.go rfl rfl rfl (st_field mp_f46_1 rfl) rfl ?_
  refine SeqR.go rfl rfl rfl (st_store mp_z2 rfl rfl hww (by decide)) rfl ?_
  refine SeqR.nil ?_
  refine Ex.seq (Ex.reg ?_)
  refine SeqR.go rfl rfl rfl (st_pure rfl rfl) rfl ?_
  refine SeqR.nil ?_
  refine Ex.ret ?_
  refine ⟨Or.inr rfl, _, rfl, rfl, ?_⟩
  refine ⟨by simp only; omega, _, .sl (m + 1 + 1 + 1 + 1 + 1 + 1 + 1 + 1 + 1 + 1 + 1 + 1 + 22) 0 (k + 1) (k + 1) 5, by simp only; rw [T.get_set, if_pos rfl], ?_, ?_, ?_⟩
  · rw [writeL_get, if_pos (by constructor <;> simp [AV.cells])]; rfl
  · rw [writeL_get, if_neg (by simp [AV.cells])]; exact hwc4
  · obtain ⟨h0, _⟩ | ⟨β, tc, he, hne, hβ, hb, hid, hall⟩ := hth3
    · cases h0
    · exact Or.inr ⟨β, tc, he, hne, by simp only at hβ ⊢; omega, by simp only at hb ⊢; rw [T.get_set, if_neg hne]; exact hb, hid, hall⟩
end
end Go.Xec
