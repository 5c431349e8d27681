/- WalNone: computed. -/
import Derived.Test.YtkmabheddbbndaaDoorXWal6
namespace Go.Xec
open Go.Proofs

theorem isTrueW_some {r : Option (AV × St)} (h : isTrueW r = true) : ∃ st', r = some (.bool true, st') := by
  unfold isTrueW at h
  split at h
  · rename_i b st; subst h; exact ⟨st, rfl⟩
  · cases h

theorem wbegun_enters : Enters Tryd.prog 8 := by
  obtain ⟨st', h⟩ := isTrueW_some wbegun_run
  exact (runE_body (F := fun _ => False) (w0 := default) td_follows extWal_ok rfl h).1

theorem wbegun_call (w : World) : Calls Tryd.prog 8 #[] w fun e w' => e = .returned (.bool true) ∧ RowKit.Below w.heap.size w w' := by
  obtain ⟨st', h⟩ := isTrueW_some wbegun_run
  refine (closed_callE td_follows (fun _ _ => extWal_ok) rfl h w #[] (fun μ => VRs_nil.2 rfl)).mono ?_
  rintro e w' ⟨v, μ', rfl, h1, h2⟩
  have h3 : v = .bool true := by simpa only [VR] using h1
  exact ⟨by rw [h3], h2⟩

/-- 'begun' and the others by contract. -/
noncomputable def extWb : Callee := onceA 8 (.bool true) extWal
theorem extWb_ok {F : Nat → Prop} {w0 : World} : CalleeOk Tryd.prog F w0 extWb :=
  onceA_ok (v' := .bool true) extWal_ok (fun μ => by simp only [VR]) wbegun_enters wbegun_call

theorem wnone_run : isTrueW (runE Tryd.prog extWb 100000 40 7 [] ⟨.nil, 0⟩) = true := by kernel_rfl

theorem wnone_call (w : World) : Calls Tryd.prog 7 #[] w fun e w' => e = .returned (.bool true) ∧ RowKit.Below w.heap.size w w' := by
  obtain ⟨st', h⟩ := isTrueW_some wnone_run
  refine (closed_callE td_follows (fun _ _ => extWb_ok) rfl h w #[] (fun μ => VRs_nil.2 rfl)).mono ?_
  rintro e w' ⟨v, μ', rfl, h1, h2⟩
  have h3 : v = .bool true := by simpa only [VR] using h1
  exact ⟨by rw [h3], h2⟩
end Go.Xec
