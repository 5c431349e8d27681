/- EntityMany: 'begun' of law 16, computed once. -/
import Derived.Test.YtcnminckooaheaaGreatXMany1
import Derived.Test.YtcnminckooaheaaGreatXr
namespace Go.Xec
open Go.Proofs

noncomputable def isTrueA (r : Option (AV × St)) : Bool := match r with
  | some (.bool true, _) => true
  | _ => false

theorem isTrueA_some {r : Option (AV × St)} (h : isTrueA r = true) : ∃ st', r = some (.bool true, st') := by
  unfold isTrueA at h
  split at h
  · exact ⟨_, rfl⟩
  · cases h

theorem begun_run : isTrueA (runA Tryz.prog 100000 60 6 [] ⟨.nil, 0⟩) = true := by kernel_rfl

theorem begun_enters : Enters Tryz.prog 6 := by
  obtain ⟨st', h⟩ := isTrueA_some begun_run
  exact (runA_sound (F := fun _ => False) (w0 := default) mp_follows 100000 60 6 [] ⟨.nil, 0⟩ _ _ h).1

theorem begun_call (w : World) : Calls Tryz.prog 6 #[] w fun e w' => e = .returned (.bool true) ∧ RowKit.Below w.heap.size w w' := by
  obtain ⟨st', h⟩ := isTrueA_some begun_run
  refine (closed_call mp_follows h w #[] (fun μ => VRs_nil.2 rfl)).mono ?_
  rintro e w' ⟨v, μ', rfl, h1, h2⟩
  have h3 : v = .bool true := by simpa only [VR] using h1
  exact ⟨by rw [h3], h2⟩
end Go.Xec
