/- EntityMany: the law's own code. -/
import Derived.Test.YtcnminckooaheaaGreatXMany2
namespace Go.Xec
open Go.Proofs

noncomputable def manyBase : Callee := orA (onlyA (fun f => Nat.beq f 17) (limA Tryz.prog fun _ _ _ => none)) (runA Tryz.prog 5000 10)
noncomputable def manyCall : Callee := onceA 6 (.bool true) manyBase

theorem manyCall_ok {F : Nat → Prop} {w0 : World} : CalleeOk Tryz.prog F w0 manyCall :=
  onceA_ok (v' := .bool true) (orA_ok (onlyA_ok (limA_ok mp_follows noneA_ok)) (runA_sound mp_follows 5000 10)) (fun μ => by simp only [VR]) begun_enters begun_call

theorem orA_right {a b : Callee} {f : FuncId} {args : List AV} {st : St} (h : a f args st = none) : orA a b f args st = b f args st := by
  unfold orA; rw [h]

/-- What New leaves, looked at. -/
noncomputable def newOk (r : Option (AV × St)) : Bool := match r with
  | some (.ptr wn 0, st) => match st.heap.get wn with
    | some (.cells 9 wc) => match wc.get 1, wc.get 4 with
      | some (.int .i64 n), some .nils => decide (n = 3) && Nat.blt wn st.nxt
      | _, _ => false
    | _ => false
  | _ => false

theorem newOk_some {r : Option (AV × St)} (h : newOk r = true) : ∃ wn st, r = some (.ptr wn 0, st) ∧ WOk st wn 0 := by
  unfold newOk at h
  split at h
  case h_2 => cases h
  rename_i wn st
  split at h
  case h_2 => cases h
  rename_i wc hwc
  split at h
  case h_2 => cases h
  rename_i n h1 h4
  rw [Bool.and_eq_true] at h
  refine ⟨wn, st, rfl, by simpa using h.2, wc, .nils, hwc, ?_, h4, Or.inl ⟨rfl, rfl⟩⟩
  rw [h1, of_decide_eq_true h.1]; rfl

noncomputable def baseRun : Option (AV × St) := runA Tryz.prog 5000 10 16 [] ⟨.nil, 12⟩
theorem new_run : newOk (match baseRun with
  | some (v, st) => runA Tryz.prog 5000 10 10 [v] ⟨st.heap, st.nxt + 1⟩
  | none => none) = true := by kernel_rfl

theorem new_ex : ∃ v st1, runA Tryz.prog 5000 10 16 [] ⟨.nil, 12⟩ = some (v, st1) ∧ ∃ wn st2, runA Tryz.prog 5000 10 10 [v] ⟨st1.heap, st1.nxt + 1⟩ = some (.ptr wn 0, st2) ∧ WOk st2 wn 0 := by
  have h := new_run
  cases hb : baseRun with
  | none => rw [hb] at h; cases h
  | some q =>
    obtain ⟨v, st1⟩ := q
    rw [hb] at h
    obtain ⟨wn, st2, h2, h3⟩ := newOk_some h
    exact ⟨v, st1, hb, wn, st2, h2, h3⟩

theorem manyCall_run {f : FuncId} {args : List AV} {st : St} (h6 : Nat.beq f 6 = false) (h17 : Nat.beq f 17 = false) : manyCall f args st = runA Tryz.prog 5000 10 f args st := by
  unfold manyCall onceA manyBase orA onlyA
  simp only [h6, h17, Bool.false_and]
theorem manyCall_make {args : List AV} {st : St} {r : AV × St} (h : limA Tryz.prog (fun _ _ _ => none) 17 args st = some r) : manyCall 17 args st = some r := by
  have h6 : Nat.beq 17 6 = false := rfl
  have h17 : Nat.beq 17 17 = true := rfl
  unfold manyCall onceA manyBase orA onlyA
  simp only [h6, h17, Bool.false_and, h]

theorem call_make {st : St} {wn k : Nat} (hk : k ≤ 200) (h : WOk st wn k) : ∃ st', manyCall 17 [.ptr wn 0, .int .i64 3, dTh] st = some (.bool (decide (k < 200)), st') ∧ WOk st' wn (min (k + 1) 200) := by
  by_cases hlt : k < 200
  · obtain ⟨loops, v, st', hb, rfl, hw⟩ := make_more (call := fun _ _ _ => none) hlt h
    refine ⟨st', ?_, by rw [Nat.min_eq_left (by omega)]; exact hw⟩
    rw [decide_eq_true hlt]
    exact manyCall_make (limA_of Tryz.func17 hb)
  · have : k = 200 := by omega
    subst this
    obtain ⟨loops, v, st', hb, rfl, hw⟩ := make_full (call := fun _ _ _ => none) h
    refine ⟨st', ?_, hw⟩
    exact manyCall_make (limA_of Tryz.func17 hb)

end Go.Xec
