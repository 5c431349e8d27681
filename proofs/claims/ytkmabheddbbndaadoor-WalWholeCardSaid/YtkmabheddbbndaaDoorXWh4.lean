/- WalWhole: the first Sync; a body run beside a slice that came in. -/
import Derived.Test.YtkmabheddbbndaaDoorXWh3
namespace Go.Xec
open Go.Proofs
/-- All is on the platter, and the power stays. -/
def Calm (D : Dk) : Prop := Live D ∧ D.lasts = D.now ∧ D.cache = []
section
variable {C D : Dk} {n : Nat} {S : By}
theorem calm_new (k : Nat) : Calm (Dk.new k) := ⟨⟨rfl, rfl⟩, rfl, rfl⟩
theorem calm_batch (h : Calm D) (l : List (Nat × By)) : Calm (wrs D l).flush ∧ (wrs D l).flush.now = setAll D.now l := by
  obtain ⟨⟨h1, h2⟩, h3, h4⟩ := h
  obtain ⟨g1, g2, g3, g4, g5⟩ := wrs_has l (D := D) ⟨h1, Or.inl h2⟩
  rw [if_pos h2] at g5
  rw [flush_go g1]
  exact ⟨⟨⟨g1, g5⟩, by simp only; rw [g2, g3, g4, h3, h4]; rfl, rfl⟩, g2⟩
theorem first_sync (h1 : 1 ≤ n) (hn : n ≤ 40) (h : Calm D) (hl : D.now.length = 200) :
    Calm (syncD D (wts n S)) ∧ (syncD D (wts n S)).now.length = 200 ∧ (syncD D (wts n S)).now[0]? = some zeroS ∧ ∀ i, i < n → (syncD D (wts n S)).now[48 + 3 * i]? = some S := by
  have hne : nums n ≠ [] := fun e => by have := congrArg List.length e; rw [nums_len, List.length_nil] at this; omega
  have hsync : syncD D (wts n S) = ((instL (((wrs D (lgs n S)).flush.write 0 (hdT n S)).flush) 1 (nums n)).flush.write 0 zeroS).flush := by
    unfold syncD
    rw [wts_keys, nums_sorted, if_neg hne, conts_wts, wrL_rep]
    rfl
  rw [hsync]
  obtain ⟨a1, a2⟩ := calm_batch h (lgs n S)
  generalize (wrs D (lgs n S)).flush = A at a1 a2
  obtain ⟨b1, b2⟩ := calm_batch a1 [(0, hdT n S)]
  have eB : (A.write 0 (hdT n S)).flush = (wrs A [(0, hdT n S)]).flush := rfl
  rw [eB]
  generalize (wrs A [(0, hdT n S)]).flush = B at b1 b2
  have b2' : B.now = A.now.set 0 (hdT n S) := b2
  have bk : ∀ k, k < n → B.now.getD (1 + k) [] = S := fun k hk => getD_of (by
    rw [b2', List.getElem?_set_ne (by omega), a2]
    exact setAll_const _ _ _ (fun p hp => (lgs_idx hp).2.2) (lgs_mem hk) (by omega))
  have ei : instL B 1 (nums n) = wrs B (wts n S) := instL_wrs (b := S) (nums n) B 1 (fun i hi => by obtain ⟨j, _, rfl⟩ := nums_mem.1 hi; omega) (by rw [nums_len]; omega) (Or.inr (fun j hj => by rw [nums_len] at hj; exact bk j hj))
  rw [ei]
  obtain ⟨c1, c2⟩ := calm_batch b1 (wts n S)
  generalize (wrs B (wts n S)).flush = E at c1 c2
  obtain ⟨d1, d2⟩ := calm_batch c1 [(0, zeroS)]
  have eF : (E.write 0 zeroS).flush = (wrs E [(0, zeroS)]).flush := rfl
  rw [eF]
  generalize (wrs E [(0, zeroS)]).flush = F at d1 d2
  have d2' : F.now = E.now.set 0 zeroS := d2
  have lA : A.now.length = 200 := by rw [a2, setAll_len, hl]
  have lB : B.now.length = 200 := by rw [b2', List.length_set, lA]
  have lE : E.now.length = 200 := by rw [c2, setAll_len, lB]
  refine ⟨d1, by rw [d2', List.length_set, lE], by rw [d2', List.getElem?_set_self (by omega)], fun i hi => ?_⟩
  rw [d2', List.getElem?_set_ne (by omega), c2]
  exact setAll_const _ _ _ (fun p hp => (wts_idx hp).2.2) (wts_mem hi) (by omega)
theorem sync_writes (D : Dk) (ws : List (Nat × By)) : (syncD D ws).writes ≤ D.writes + 2 * (sortN (ws.map (·.1))).length + 2 := by
  unfold syncD
  split
  · omega
  · unfold inst
    generalize sortN (ws.map (·.1)) = is
    have q1 := wrL_writes (conts ws is) D 1
    have q2 := (wrL D 1 (conts ws is)).flush.write_writes 0 (hdrB is (conts ws is))
    have q3 := instL_writes is ((wrL D 1 (conts ws is)).flush.write 0 (hdrB is (conts ws is))).flush 1
    have q4 := (instL ((wrL D 1 (conts ws is)).flush.write 0 (hdrB is (conts ws is))).flush 1 is).flush.write_writes 0 zeroS
    rw [Dk.flush_writes] at q2 q3 q4 ⊢
    have q5 : (conts ws is).length = is.length := by simp [conts]
    omega
theorem sync_wts (D : Dk) (n : Nat) (S : By) : (syncD D (wts n S)).writes ≤ D.writes + 2 * n + 2 := by
  have := sync_writes D (wts n S)
  rw [wts_keys, nums_sorted, nums_len] at this
  exact this
end

section
variable {P : Program} {call : Callee} {st' : St}
/-- A body run from a heap that stands for the world. -/
theorem body_callH (hm : P.follows .mixedOrders = true) (hcall : ∀ F w0, CalleeOk P F w0 call) {loops : Nat} {f : FuncId} {fn : Func} {args : List AV} {r : AV} {h0 : T ABlk} {m0 : Nat} (hf : P.funcs[f]? = some fn) (h : bodyA P call loops fn args ⟨h0, m0⟩ = some (r, st')) (w : World) (args' : Array Value) (μ : Mu)
    (k : HInv (fun j => j < w.heap.size) w μ h0.get w) (hfr : Fresh μ m0) (hargs : VRs μ args args'.toList) : Calls P f args' w fun e w' => ∃ v μ', e = .returned v ∧ VR μ' r v ∧ RowKit.Below w.heap.size w w' := by
  refine ((bodyA_sound (hcall (fun j => j < w.heap.size) w) hm hf h).2 μ w args' k hfr hargs).mono ?_
  rintro e w' ⟨v, μ', rfl, h1, h2⟩
  exact ⟨v, μ', rfl, h1, h2.inv.os, h2.inv.tape, h2.inv.output, h2.inv.size, h2.inv.frame⟩
noncomputable def romOf (l : List AV) : ABlk := .rom l.length (writeL .nil 0 l)
theorem Rom.new {h : T ABlk} {β : Nat} {l : List AV} : Rom (h.set β (romOf l)) β l :=
  ⟨_, get_set_same, fun i v hi => by
    have hlt : i < l.length := (List.getElem?_eq_some_iff.1 hi).1
    rw [writeL_get, if_pos (by omega)]; exact hi⟩
/-- One slice that came in. -/
def mu1 (r off ext : Nat) : Mu := ⟨fun β => if β = 0 then some (r, off) else none, fun _ => ext⟩
theorem hinv_rom {w : World} {r off cap : Nat} {c : Array Value} {e : TypeId} {fz : Nat × Nat} {l : List AV} (hr : w.heap[r]? = some (.cells c e fz)) (hc : off + cap ≤ c.size) (hl : l.length ≤ cap)
    (hv : ∀ (i : Nat) a, l[i]? = some a → ∃ v, c[off + i]? = some v ∧ VR (mu1 r off cap) a v) : HInv (fun j => j < w.heap.size) w (mu1 r off cap) ((T.nil : T ABlk).set 0 (romOf l)).get w := by
  have only : ∀ β, ((T.nil : T ABlk).set 0 (romOf l)).get β = if β = 0 then some (romOf l) else none := fun β => by
    rw [T.get_set]
    by_cases q : β = 0
    · rw [if_pos q, if_pos q]
    · rw [if_neg q, if_neg q]; rfl
  refine ⟨fun β b hb => ?_, fun β γ r' b1 b2 h1 h2 _ _ => ?_, fun _ _ => rfl, fun _ h => h, Nat.le_refl _, rfl, rfl, rfl⟩
  · rw [only] at hb
    split at hb
    · rename_i q
      subst q
      injection hb with hb
      subst hb
      refine ⟨r, off, _, rfl, hr, ⟨c, e, fz, rfl, ⟨hl, hc⟩, fun i a hi ha => ?_⟩, trivial⟩
      rw [writeL_get, if_pos (by omega)] at ha
      exact hv i a ha
    · cases hb
  · rw [only] at h1 h2
    by_cases q1 : β = 0
    · by_cases q2 : γ = 0
      · rw [q1, q2]
      · rw [if_neg q2] at h2; cases h2
    · rw [if_neg q1] at h1; cases h1
end
end Go.Xec
