/- WalWhole (after a crash within a Sync, and Open, the group is home whole or not at all), for every n, at and picks: the row and its card, proved. -/
import Derived.Test.YtkmabheddbbndaaDoorCards
import Derived.Test.YtkmabheddbbndaaDoorTie
import Derived.Test.YtkmabheddbbndaaDoorXWh5
import Derived.WalkKit
import Derived.ProofKit
import Derived.OpenShut
import Derived.Carry
import Derived.Deep.DeepHandedRow
import Derived.Deep.Grids
import Derived.Lib.LaidTab
namespace Go.Proofs.YtkmabheddbbndaaDoor.fnWhole
open Go.ChangeShapes Go.WideShapes Go.ChangeAt Go.RowKit

theorem own : ownKnob Tryd.prog.godebug = none := by kernel_rfl

noncomputable def laidBlock (cs : Array Value) : Obj → Obj := fun
  | .cells _ t frozen => .cells cs t frozen
  | o => o
/-- A WORLD FOR THE WITNESS: the settled one, the tables holding what their initialisers lay. -/
noncomputable def laidWorld (os : Os) : World :=
  { World.holding Tryd.prog os ⟨#[], #[], []⟩ with heap := (((World.holding Tryd.prog os ⟨#[], #[], []⟩).heap.modify 1 (laidBlock #[.int .u8 0, .int .u8 1, .int .u8 28, .int .u8 2, .int .u8 29, .int .u8 14, .int .u8 24, .int .u8 3, .int .u8 30, .int .u8 22, .int .u8 20, .int .u8 15, .int .u8 25, .int .u8 17, .int .u8 4, .int .u8 8, .int .u8 31, .int .u8 27, .int .u8 13, .int .u8 23, .int .u8 21, .int .u8 19, .int .u8 16, .int .u8 7, .int .u8 26, .int .u8 12, .int .u8 18, .int .u8 6, .int .u8 11, .int .u8 5, .int .u8 10, .int .u8 9])).modify 2 (laidBlock #[.int .u8 0, .int .u8 1, .int .u8 56, .int .u8 2, .int .u8 57, .int .u8 49, .int .u8 28, .int .u8 3, .int .u8 61, .int .u8 58, .int .u8 42, .int .u8 50, .int .u8 38, .int .u8 29, .int .u8 17, .int .u8 4, .int .u8 62, .int .u8 47, .int .u8 59, .int .u8 36, .int .u8 45, .int .u8 43, .int .u8 51, .int .u8 22, .int .u8 53, .int .u8 39, .int .u8 33, .int .u8 30, .int .u8 24, .int .u8 18, .int .u8 12, .int .u8 5, .int .u8 63, .int .u8 55, .int .u8 48, .int .u8 27, .int .u8 60, .int .u8 41, .int .u8 37, .int .u8 16, .int .u8 46, .int .u8 35, .int .u8 44, .int .u8 21, .int .u8 52, .int .u8 32, .int .u8 23, .int .u8 11, .int .u8 54, .int .u8 26, .int .u8 40, .int .u8 15, .int .u8 34, .int .u8 20, .int .u8 31, .int .u8 10, .int .u8 25, .int .u8 14, .int .u8 19, .int .u8 9, .int .u8 13, .int .u8 8, .int .u8 7, .int .u8 6])).modify 0 (laidBlock #[.int .u64 1, .int .u64 10, .int .u64 100, .int .u64 1000, .int .u64 10000, .int .u64 100000, .int .u64 1000000, .int .u64 10000000, .int .u64 100000000, .int .u64 1000000000, .int .u64 10000000000, .int .u64 100000000000, .int .u64 1000000000000, .int .u64 10000000000000, .int .u64 100000000000000, .int .u64 1000000000000000, .int .u64 10000000000000000, .int .u64 100000000000000000, .int .u64 1000000000000000000, .int .u64 10000000000000000000]) }
theorem laid_met (os : Os) : laidMet Tryd.prog Rows.walWholeRow.laid ((laidWorld os).forCall (fun _ _ => 0) ⟨#[], #[.int .i64 0, .int .i64 0, .slice none 0 0], []⟩).memory :=
  laidMet_of_run' 8 (by kernel_rfl) (by kernel_rfl)
theorem reads (os : Os) {H : Type} (enc : TypeId × Value → H) : ∃ places, DataW.whole enc Tryd.prog ((laidWorld os).forCall (fun _ _ => 0) ⟨#[], #[.int .i64 0, .int .i64 0, .slice none 0 0], []⟩).memory Tryd.f5.params.toList Rows.walWholeSpec.vars false (#[.int .i64 0, .int .i64 0, .slice none 0 0] : Array Value).toList 8 = some ([.lit (.int .i64 0), .lit (.int .i64 0), .nil], [], places) :=
  ⟨[], by kernel_rfl⟩

open Go.Xec in
theorem whole_nil (n a : Int) (w : World) {v : Value} {pv : AV} {ps : List Bool} (hp : ∀ h : T ABlk, PV h pv ps) (hv : ∀ μ, VR μ pv v) : Calls Tryd.prog 5 #[.int .i64 n, .int .i64 a, v] w fun e w' => e = .returned (.bool true) ∧ Below w.heap.size w w' := by
  obtain ⟨loops, r, st', h, rfl⟩ := whole_body (h := .nil) (m := 0) (ps := ps) n a (fun _ _ => rfl) (hp _)
  refine (body_call td_follows (fun _ _ => topA_ok td_follows extWb_ok) Tryd.func5 h w _ (fun μ => ?_)).mono ?_
  · exact ⟨_, _, rfl, rfl, _, _, rfl, rfl, _, _, rfl, hv μ, rfl⟩
  · rintro e w' ⟨v, μ', rfl, h1, h2⟩
    have h3 : v = .bool true := by simpa only [VR] using h1
    exact ⟨by rw [h3], h2⟩
open Go.Xec in
theorem whole_row (n a : Int) (w : World) {b : Addr} {len cap : Nat} {B : Nat → Bool} (hl : len ≤ cap) (hc : ∀ i, i < cap → w.cell? (b.add i) = some (.bool (B i))) : Calls Tryd.prog 5 #[.int .i64 n, .int .i64 a, .slice (some b) len cap] w fun e w' => e = .returned (.bool true) ∧ Below w.heap.size w w' := by
  by_cases h0 : len = 0
  · subst h0
    exact whole_nil n a w (pv := .sle) (ps := []) (fun _ => Or.inr (Or.inl ⟨rfl, rfl⟩)) (fun μ => ⟨_, _, rfl⟩)
  have hb0 : b.add 0 = b := by simp [Addr.add]
  obtain ⟨r, off, spot⟩ := b
  have hc0 := hc 0 (by omega)
  rw [hb0] at hc0
  have hx : ∃ c e fz, w.heap[r]? = some (.cells c e fz) ∧ spot = none := by
    simp only [World.cell?] at hc0
    split at hc0
    · rename_i c e fz hh
      refine ⟨c, e, fz, hh, ?_⟩
      cases spot with
      | none => rfl
      | some s => simp at hc0
    · cases hc0
  obtain ⟨c, e, fz, hh, rfl⟩ := hx
  have hcell : ∀ i, i < cap → c[off + i]? = some (.bool (B i)) := by
    intro i hi
    have := hc i hi
    have e1 : (Addr.add ⟨r, off, none⟩ i) = ⟨r, off + i, none⟩ := by
      unfold Addr.add
      by_cases q : i = 0 <;> simp [q]
    rw [e1] at this
    simpa only [World.cell?, hh, Option.isSome_none, Bool.false_eq_true, if_false] using this
  have hsz : off + cap ≤ c.size := by
    have := hcell (cap - 1) (by omega)
    have := (Array.getElem?_eq_some_iff.1 this).1
    omega
  obtain ⟨l, hl2⟩ : ∃ l : List AV, l = (List.range len).map fun i => AV.bool (B i) := ⟨_, rfl⟩
  have hll : l.length = len := by rw [hl2]; simp
  have hat : ∀ i, i < len → l[i]? = some (.bool (B i)) := fun i hi => by rw [hl2]; simp [hi]
  have V : PV ((T.nil : T ABlk).set 0 (romOf l)) (.sl 0 0 len len 1) ((List.range len).map B) :=
    Or.inr (Or.inr ⟨0, 0, len, l, rfl, Rom.new, by simp, fun i b hb => by
      have hi : i < len := by have := (List.getElem?_eq_some_iff.1 hb).1; simpa using this
      rw [Nat.zero_add, hat i hi]
      simp [hi] at hb
      rw [hb]⟩)
  have Bd1 : Bd ((T.nil : T ABlk).set 0 (romOf l)) 1 := fun q hq => by rw [get_set_ne (by omega)]; rfl
  obtain ⟨loops, r', st', h, rfl⟩ := whole_body (ps := (List.range len).map B) n a Bd1 V
  refine (body_callH td_follows (fun _ _ => topA_ok td_follows extWb_ok) Tryd.func5 h w _ (mu1 r off cap) (hinv_rom hh hsz (by omega) (fun i x hx => ?_)) (fun β hβ => if_neg (by omega)) ?_).mono ?_
  · have hi : i < len := by have := (List.getElem?_eq_some_iff.1 hx).1; omega
    rw [hat i hi] at hx
    injection hx with hx
    subst hx
    exact ⟨_, hcell i (by omega), rfl⟩
  · exact ⟨_, _, rfl, rfl, _, _, rfl, rfl, _, _, rfl, ⟨r, off, cap, rfl, hl, Nat.le_refl _, by show 0 + cap * 1 ≤ cap; omega, rfl⟩, rfl⟩
  · rintro e w' ⟨v, μ', rfl, h1, h2⟩
    have h3 : v = .bool true := by simpa only [VR] using h1
    exact ⟨by rw [h3], h2⟩

set_option maxRecDepth 100000 in
theorem contract (H : Type) (enc : TypeId × Value → H) (W : World) (base : Nat) (args : Array Value) (ds gs : List (DataW H)) (before : List MemPlace)
    (hval : ∀ (j : Nat) t v, Tryd.f5.params[j]? = some t → args[j]? = some v → Value.okWide Tryd.prog W .any base t v)
    (hW : DataW.Whole enc Tryd.prog Tryd.f5.params.toList Rows.walWholeSpec.vars false W args.toList ds gs before) :
    Calls Tryd.prog 5 args W fun e W' => ∃ v, e = .returned v ∧ Rows.walWholeSpec.post enc Tryd.prog Tryd.f5 false true false false W args v W' := by
  have hW' := hW
  obtain ⟨p, q, hA0, hV, rfl, hfz, hnd⟩ := hW
  have hA : DataW.TrodAll enc Tryd.prog W 0 (fun _ => true) true Tryd.f5.params.toList args.toList ds p := hA0
  rw [Tryd.params5] at hA hval
  obtain ⟨v0, v1, v2, d0, d1, d2, p0, p1, p2, rfl, rfl, rfl, h0, h1, h2⟩ := trodAll_three hA
  obtain ⟨rfl, rfl⟩ := trodVars_none hV
  obtain ⟨n, rfl, rfl, rfl, wn⟩ := open_int Tryd.underlying3 (hval 0 3 v0 rfl rfl) h0
  obtain ⟨a, rfl, rfl, rfl, wa⟩ := open_int Tryd.underlying3 (hval 1 3 v1 rfl rfl) h1
  clear hA0
  obtain ⟨sa, sl, sc, rfl⟩ := okWide_slice Tryd.underlying44 (hval 2 44 v2 rfl rfl)
  have h2k := h2
  obtain ⟨fuel, h2⟩ := h2
  have hlt : ∀ x ∈ p2, x.block < W.heap.size := fun x hx => hW'.lt x (by simp [hx])
  have fin : ∀ W', Below W.heap.size W W' → Rows.walWholeSpec.post enc Tryd.prog Tryd.f5 false true false false W #[.int .i64 n, .int .i64 a, .slice sa sl sc] (.bool true) W' := by
    intro W' hb
    refine ⟨_, _, _, [] ++ [], [] ++ ([] ++ p2), [], hW', ?_, ?_, rfl, hb.frame _, fun h => by cases h⟩
    · exact trodAll_mk1 (shut_bool Tryd.underlying4 true)
    · exact trodAll_mk3 (shut_int Tryd.underlying3 wn) (shut_int Tryd.underlying3 wa) (Below.trod (by kernel_rfl) (by kernel_rfl) (of_decide_eq_true (by kernel_rfl)) h2k hb hlt)
  have key : Calls Tryd.prog 5 #[.int .i64 n, .int .i64 a, .slice sa sl sc] W fun e w' => e = .returned (.bool true) ∧ Below W.heap.size W w' := by
    rcases Go.Deep.open_bools Tryd.underlying44 Tryd.underlying4 (by kernel_rfl) h2 with ⟨hcs, _⟩ | ⟨b, len, cap, B, hcs, _, hl, _, _, hcell⟩
    · obtain ⟨rfl, rfl, rfl⟩ : sa = none ∧ sl = 0 ∧ sc = 0 := by simpa [Value.cells] using hcs
      exact whole_nil n a W (pv := .nils) (ps := []) (fun _ => Or.inl ⟨rfl, rfl⟩) (fun μ => rfl)
    · obtain ⟨rfl, rfl, rfl⟩ : sa = some b ∧ sl = len ∧ sc = cap := by simpa [Value.cells] using hcs
      exact whole_row n a W hl hcell
  refine key.mono fun e W' ⟨he, hb⟩ => ?_
  subst he
  exact ⟨_, rfl, fin W' hb⟩

set_option maxRecDepth 100000 in
theorem lifted (os : Os) (started : os.Started) (H : Type) (enc : TypeId × Value → H) (F : Stop.Interp) :
    ReturnsInHanded {} Tryd.checked os 5 .any ((OpenSpec.ofChange Rows.walWholeSpec).preRow enc Tryd.prog Tryd.f5 Rows.walWholeRow.domain false Rows.walWholeRow.laid) (((OpenSpec.ofChange Rows.walWholeSpec).at F).post enc Tryd.prog Tryd.f5 false true false false) := by
  obtain ⟨places, hx⟩ := reads os enc
  refine returnsInHanded_of_row (C := Tryd.checked) (s := OpenSpec.ofChange Rows.walWholeSpec) own started (by kernel_rfl) Tryd.func5
    (witness_row_at (enc := enc) (C := Tryd.checked) false (laidWorld os) #[.int .i64 0, .int .i64 0, .slice none 0 0] rfl (by kernel_rfl) (by kernel_rfl) (by kernel_rfl)
      (OpenSpec.preRow_of_cond 8 hx (by kernel_rfl) (fun k hk => by cases hk) (by kernel_rfl) (laid_met os))) ?_
  intro W base args ds gs before hval hW _ _ _ hL _ _
  exact contract H enc W base args ds gs before hval hW

theorem said : Rows.WalWholeSaid :=
  OpenClaim.holds_of_cond 5 Tryd.f5 rfl rfl rfl rfl rfl rfl rfl ⟨rfl, rfl, rfl, rfl, rfl⟩ rfl rfl rfl rfl rfl (by kernel_rfl) Tryd.func5 (by kernel_rfl)
    (of_decide_eq_true (by kernel_rfl)) (by unfold Func.isWrapper; first | (rw [if_pos (by decide +kernel)]; kernel_rfl) | (rw [if_neg (by decide +kernel)]; exact ⟨rfl, rfl⟩))
    (fun os started H enc _ F => by rw [OpenClaim.pre_eq_preRow]; exact lifted os started H enc F)

theorem plain (f : FuncId) (fn : Func) (hf : Tryd.pinned.checked.prog.funcNamed Rows.walWholeRow.func = some f) (hfn : Tryd.pinned.checked.prog.funcs[f]? = some fn) :
    true = Tryd.pinned.checked.prog.looks [] ∧ ∀ (j : Nat) t, fn.params[j]? = some t → Tryd.pinned.checked.prog.wantsStandIn t = false := by
  obtain rfl : f = 5 := Option.some.inj ((show Tryd.prog.funcNamed Rows.walWholeRow.func = some 5 by kernel_rfl).symm.trans hf) |>.symm
  obtain rfl : fn = Tryd.f5 := (Option.some.inj (Tryd.func5.symm.trans hfn)).symm
  refine ⟨by kernel_rfl, fun j t ht => ?_⟩
  rw [Tryd.params5] at ht
  have q := Array.mem_of_getElem? ht
  simp at q
  rcases q with rfl | rfl
  · exact (show Tryd.prog.wantsStandIn 3 = false by kernel_rfl)
  · exact (show Tryd.prog.wantsStandIn 44 = false by kernel_rfl)

end Go.Proofs.YtkmabheddbbndaaDoor.fnWhole

namespace Go.Proofs.YtkmabheddbbndaaDoor
/-- THE CARD. -/
theorem walWhole_card : Rows.WalWholeCardSaid :=
  Claim7.holds_tied_plain_at .later [] _ _ _ _ fnWhole.said (fun _ h => by cases h) (by kernel_rfl) (fun _ h => by cases h) walWhole_row_tie rfl ⟨rfl, rfl⟩ (by kernel_rfl) rfl fnWhole.plain (by kernel_rfl)
#print axioms walWhole_card
end Go.Proofs.YtkmabheddbbndaaDoor
