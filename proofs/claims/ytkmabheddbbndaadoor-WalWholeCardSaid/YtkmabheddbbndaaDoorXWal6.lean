/- The callees by contract at this seat, and the closed run of 'begun'. -/
import Derived.Test.YtkmabheddbbndaaDoorXWal5
import Derived.Test.YtkmabheddbbndaaDoorXs
namespace Go.Xec
open Go.Proofs
noncomputable def extWal : Callee := orA extSort (orA extCrc extIs)
theorem extWal_ok {F : Nat → Prop} {w0 : World} : CalleeOk Tryd.prog F w0 extWal := orA_ok extSort_ok (orA_ok extCrc_ok extIs_ok)
noncomputable def isTrueW (r : Option (AV × St)) : Bool := match r with
  | some (.bool b, _) => b
  | _ => false
theorem wbegun_run : isTrueW (runE Tryd.prog extWal 100000 40 8 [] ⟨.nil, 0⟩) = true := by kernel_rfl
end Go.Xec
