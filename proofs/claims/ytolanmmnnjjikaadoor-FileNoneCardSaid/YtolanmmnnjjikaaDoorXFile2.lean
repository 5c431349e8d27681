/- FileNone: computed. -/
import Derived.Test.YtolanmmnnjjikaaDoorXFile1
namespace Go.Xec
open Go.Proofs

theorem fbegun_run : isTrueA (runE Tryd.prog extIs 100000 40 5 [] ⟨.nil, 0⟩) = true := by kernel_rfl

theorem fbegun_enters : Enters Tryd.prog 5 := by
  obtain ⟨st', h⟩ := isTrueA_some fbegun_run
  exact (runE_body (F := fun _ => False) (w0 := default) td_follows extIs_ok rfl h).1

theorem fbegun_call (w : World) : Calls Tryd.prog 5 #[] w fun e w' => e = .returned (.bool true) ∧ RowKit.Below w.heap.size w w' := by
  obtain ⟨st', h⟩ := isTrueA_some fbegun_run
  refine (closed_callE td_follows (fun _ _ => extIs_ok) rfl h w #[] (fun μ => VRs_nil.2 rfl)).mono ?_
  rintro e w' ⟨v, μ', rfl, h1, h2⟩
  have h3 : v = .bool true := by simpa only [VR] using h1
  exact ⟨by rw [h3], h2⟩

/-- 'begun' and errors.Is's entries by contract. -/
noncomputable def extFile : Callee := onceA 5 (.bool true) extIs
theorem extFile_ok {F : Nat → Prop} {w0 : World} : CalleeOk Tryd.prog F w0 extFile :=
  onceA_ok (v' := .bool true) extIs_ok (fun μ => by simp only [VR]) fbegun_enters fbegun_call

theorem fnone_run : isTrueA (runE Tryd.prog extFile 100000 40 4 [] ⟨.nil, 0⟩) = true := by kernel_rfl

theorem fnone_call (w : World) : Calls Tryd.prog 4 #[] w fun e w' => e = .returned (.bool true) ∧ RowKit.Below w.heap.size w w' := by
  obtain ⟨st', h⟩ := isTrueA_some fnone_run
  refine (closed_callE td_follows (fun _ _ => extFile_ok) rfl h w #[] (fun μ => VRs_nil.2 rfl)).mono ?_
  rintro e w' ⟨v, μ', rfl, h1, h2⟩
  have h3 : v = .bool true := by simpa only [VR] using h1
  exact ⟨by rw [h3], h2⟩
end Go.Xec
