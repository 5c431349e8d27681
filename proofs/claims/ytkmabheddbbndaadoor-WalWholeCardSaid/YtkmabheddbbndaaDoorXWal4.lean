/- errors.Is's two entries of the model, as callees by contract, at the Wal seat. -/
import Derived.Test.YtkmabheddbbndaaDoorXWal3
namespace Go.Xec
open Go.Proofs

def hndB (a : Addr) : Bool := Nat.beq a.block 3 && Nat.beq a.off 41 && a.spot.isNone

noncomputable def extIs : Callee := fun f args st => match Nat.beq f 51 with
  | true => match args with
    | [.ifc t _] => match Nat.beq t 41 with
      | true => some (.ifc 110 (.agg [.hnd ⟨3, 41, none⟩]), st)
      | false => none
    | _ => none
  | false => match Nat.beq f 111 with
    | true => match args with
      | [.agg [.hnd a]] => match hndB a with
        | true => some (.bool true, st)
        | false => none
      | _ => none
    | false => none

theorem td_follows : Tryd.prog.follows .mixedOrders = true := by kernel_rfl
theorem td_typeOf (v : Value) (w : World) : (Extern.ReflectliteType.typeOf #[.iface 41 v]).run Tryd.prog w = .ok (.iface 110 (.agg #[.pointer (some ⟨3, 41, none⟩)])) w := by kernel_rfl
theorem td_comparable (w : World) : ((Extern.ReflectliteType.method fun t => do Extern.Rtype.noPackHeld "Comparable" t; pure (.bool (← typeInfo t).comparable)) #[.agg #[.pointer (some ⟨3, 41, none⟩)]]).run Tryd.prog w = .ok (.bool true) w := by kernel_rfl

theorem extIs_ok {F : Nat → Prop} {w0 : World} : CalleeOk Tryd.prog F w0 extIs := by
  have h36 := @run_callFunc_extern Tryd.prog 51 _ Extern.ReflectliteType.typeOf Tryd.func51 (by kernel_rfl) (by kernel_rfl) (by kernel_rfl) (by kernel_rfl)
  have h79 := @run_callFunc_extern Tryd.prog 111 _ (Extern.ReflectliteType.method fun t => do Extern.Rtype.noPackHeld "Comparable" t; pure (.bool (← typeInfo t).comparable)) Tryd.func111 (by kernel_rfl) (by kernel_rfl) (by kernel_rfl) (by kernel_rfl)
  intro f args st r st' h
  unfold extIs at h
  split at h
  · rename_i hf
    have hf' := Nat.eq_of_beq_eq_true hf
    subst hf'
    split at h
    case h_2 => cases h
    rename_i t v
    split at h
    case h_2 => cases h
    rename_i ht
    have ht' := Nat.eq_of_beq_eq_true ht
    subst ht'
    injection h with h; simp only [Prod.mk.injEq] at h; obtain ⟨e1, e2⟩ := h; subst e1; subst e2
    refine .inr ⟨rfl, fun μ args' ha => ?_⟩
    obtain ⟨v', vs, e, ⟨x, rfl, _⟩, hn⟩ := VRs_cons.1 ha
    have hn' := VRs_nil.1 hn
    subst hn'
    have e' : args' = #[.iface 41 x] := by apply Array.ext'; exact e
    subst e'
    refine ⟨.iface 110 (.agg #[.pointer (some ⟨3, 41, none⟩)]), ⟨_, rfl, _, rfl, VRs_cons_cons.2 ⟨rfl, VRs_nil.2 rfl⟩⟩, fun w => ?_⟩
    rw [h36, td_typeOf]; rfl
  · split at h
    case h_2 => cases h
    rename_i hf
    have hf' := Nat.eq_of_beq_eq_true hf
    subst hf'
    split at h
    case h_2 => cases h
    rename_i a
    split at h
    case h_2 => cases h
    rename_i ht
    injection h with h; simp only [Prod.mk.injEq] at h; obtain ⟨e1, e2⟩ := h; subst e1; subst e2
    refine .inr ⟨rfl, fun μ args' ha => ?_⟩
    obtain ⟨v', vs, e, ⟨cs, rfl, hcs⟩, hn⟩ := VRs_cons.1 ha
    have hn' := VRs_nil.1 hn
    subst hn'
    obtain ⟨v2, vs2, e2, hv2, hn2⟩ := VRs_cons.1 hcs
    have hn2' := VRs_nil.1 hn2
    subst hn2'
    have hv2' : v2 = .pointer (some a) := hv2
    subst hv2'
    have ec : cs = #[.pointer (some a)] := by apply Array.ext'; exact e2
    subst ec
    have e' : args' = #[.agg #[.pointer (some a)]] := by apply Array.ext'; exact e
    subst e'
    have ha2 : a = ⟨3, 41, none⟩ := by
      obtain ⟨b, o, s⟩ := a
      unfold hndB at ht
      simp only [Bool.and_eq_true] at ht
      have h1 : b = 3 := Nat.eq_of_beq_eq_true ht.1.1
      have h2 : o = 41 := Nat.eq_of_beq_eq_true ht.1.2
      have h3 : s = none := Option.isNone_iff_eq_none.1 ht.2
      subst h1; subst h2; subst h3; rfl
    subst ha2
    refine ⟨.bool true, rfl, fun w => ?_⟩
    rw [h79, td_comparable]; rfl

noncomputable def isTrueA (r : Option (AV × St)) : Bool := match r with
  | some (.bool true, _) => true
  | _ => false

theorem isTrueA_some {r : Option (AV × St)} (h : isTrueA r = true) : ∃ st', r = some (.bool true, st') := by
  unfold isTrueA at h
  split at h
  · exact ⟨_, rfl⟩
  · cases h
end Go.Xec
