/-
  No cell of these rows narrows 'for every input' (looked for: loops, veiled, ifaces, maps, wideKeys, modest, calm, conditions, laid).
  DERIVED. THE GIVEN ROWS OF THIS SEAT. 3 by the template 'for every input the law returns true; each argument reads behind the call as it read before'; 0 by the template 'total and deterministic' (their statements: YtcnminckooaheaaGreatTotals.lean).
  GIVEN WITH THE SEED: the statements are not yours to turn. If you find one false, say at which input.
  Laid BY PROGRAM, IN A SANDBOX (cutbox-rows.mjs): the forced cells as the released guide's own fill.sh prints them over the translation 0821157008e68b84… (all of the seat's roots in one cut). By AI agents, Wed Nov 11 2026. No macro, syntax, notation, axiom, sorry.
-/
import Derived.Test.YtcnminckooaheaaGreatChecked
import GoSem.Claim
import GoSem.ClaimJoined
import GoSem.ClaimMapViews
import Derived.JoinedTies
import Derived.KernelRfl
namespace Go.Proofs.YtcnminckooaheaaGreat
/- THE CELL 'sum', in the pinned program and in every row, IS THE sha256 OF THE DUMP (.gsa) THAT YtcnminckooaheaaGreatProg.lean LOADS. Nothing in Lean hashes anything: it is a label: what it is worth is what the hold of that sum in a sandbox is worth. -/
noncomputable def Tryz.pinned : Pinned := { name := "ytcnminckooaheaagreat", sum := "0821157008e68b84d3bc36f20d3b228b0354240e95512bc0edaeb0adedfe42d5", checked := Tryz.checked }
namespace Rows
def none {H : Type} : Left H := { results := [], args := [] }

/-- 'lychgatelaw16.EntityNew': WHATEVER THE INPUT: true; the input reads as it did. -/
def entityNewSpec : ChangeSpec := { name := "entityNew", fn := fun _ => fun
  | [d] => { results := [.lit (.bool true)], args := [d] }
  | _ => none }
def entityNewRow : OpenClaim := { program := "ytcnminckooaheaagreat", sum := "0821157008e68b84d3bc36f20d3b228b0354240e95512bc0edaeb0adedfe42d5", func := "lychgate/lychgatelaw16.EntityNew", spec := "entityNew", unfollowed := true, recurses := true, apart := false }
def EntityNewSaid : Prop := entityNewRow.holds Tryz.pinned (OpenSpec.ofChange entityNewSpec)

/-- ITS FALSE NEIGHBOUR: 'it returns false'. Refute it at one input. -/
def entityNewWrong : ChangeSpec := { name := "entityNew", fn := fun _ => fun
  | [d] => { results := [.lit (.bool false)], args := [d] }
  | _ => none }
def EntityNewWrongFalsely : Prop := entityNewRow.holds Tryz.pinned (OpenSpec.ofChange entityNewWrong)

/-- 'lychgatelaw16.EntityMany': WHATEVER THE INPUT: true; the input reads as it did. -/
def entityManySpec : ChangeSpec := { name := "entityMany", fn := fun _ => fun
  | [d] => { results := [.lit (.bool true)], args := [d] }
  | _ => none }
def entityManyRow : OpenClaim := { program := "ytcnminckooaheaagreat", sum := "0821157008e68b84d3bc36f20d3b228b0354240e95512bc0edaeb0adedfe42d5", func := "lychgate/lychgatelaw16.EntityMany", spec := "entityMany", unfollowed := true, recurses := true, apart := false }
def EntityManySaid : Prop := entityManyRow.holds Tryz.pinned (OpenSpec.ofChange entityManySpec)

/-- ITS FALSE NEIGHBOUR: 'it returns false'. Refute it at one input. -/
def entityManyWrong : ChangeSpec := { name := "entityMany", fn := fun _ => fun
  | [d] => { results := [.lit (.bool false)], args := [d] }
  | _ => none }
def EntityManyWrongFalsely : Prop := entityManyRow.holds Tryz.pinned (OpenSpec.ofChange entityManyWrong)

/-- 'lychgatelaw16.EntityOrdinals': WHATEVER THE INPUT: true; the input reads as it did. -/
def entityOrdinalsSpec : ChangeSpec := { name := "entityOrdinals", fn := fun _ => fun
  | [d1, d2, d3] => { results := [.lit (.bool true)], args := [d1, d2, d3] }
  | _ => none }
def entityOrdinalsRow : OpenClaim := { program := "ytcnminckooaheaagreat", sum := "0821157008e68b84d3bc36f20d3b228b0354240e95512bc0edaeb0adedfe42d5", func := "lychgate/lychgatelaw16.EntityOrdinals", spec := "entityOrdinals", inPlace := ["internal/bytealg.IndexByteString", "internal/bytealg.IndexString"], unfollowed := true, recurses := true, named := ["internal/bytealg.MaxLen"], apart := false }
def EntityOrdinalsSaid : Prop := entityOrdinalsRow.holds Tryz.pinned (OpenSpec.ofChange entityOrdinalsSpec)

/-- ITS FALSE NEIGHBOUR: 'it returns false'. Refute it at one input. -/
def entityOrdinalsWrong : ChangeSpec := { name := "entityOrdinals", fn := fun _ => fun
  | [d1, d2, d3] => { results := [.lit (.bool false)], args := [d1, d2, d3] }
  | _ => none }
def EntityOrdinalsWrongFalsely : Prop := entityOrdinalsRow.holds Tryz.pinned (OpenSpec.ofChange entityOrdinalsWrong)

/- THE SECOND FORM. 'bulk': how many values and letters a reading holds, each counted each time it is reached (what is shared counts as often as it is met; a slice's spare places count too). A statement '..UptoSaid' is the law's where the arguments, and the package variables that the reading takes, are together of bulk at most 1048576: NARROWER than '..Said'. Prove '..Said' where nothing that the law and all that it calls make is longer than what came in: it says more and counts as full. Else prove '..UptoSaid'. A law counts once. -/
mutual
def uptoBulk {H : Type} : DataW H → Nat
  | .lit (.string bytes) => bytes.length + 1
  | .lit _ => 1
  | .nil => 1
  | .ptr d => uptoBulk d + 1
  | .slice elems spare => uptoBulkAll elems + uptoBulkAll spare + 1
  | .agg parts => uptoBulkAll parts + 1
  | .iface _ d => uptoBulk d + 1
  | .map entries => uptoBulkEntries entries + 1
  | .held _ => 1
def uptoBulkAll {H : Type} : List (DataW H) → Nat
  | [] => 0
  | d :: r => uptoBulk d + uptoBulkAll r
def uptoBulkEntries {H : Type} : List (Lit × DataW H) → Nat
  | [] => 0
  | x :: r => uptoBulkEntry x + uptoBulkEntries r
def uptoBulkEntry {H : Type} : Lit × DataW H → Nat
  | (.string bytes, d) => bytes.length + uptoBulk d + 1
  | (_, d) => uptoBulk d + 1
 end
def uptoSmall : (H : Type) → List (DataW H) → Bool := fun _ ds => decide (uptoBulkAll ds ≤ 1048576)
def OpenSpec.upto (s : _root_.Go.ChangeSpec) : _root_.Go.OpenSpec := { _root_.Go.OpenSpec.ofChange s with cond := some uptoSmall }

/-- 'lychgatelaw16.EntityNew', WHERE WHAT IT READS IS OF BULK AT MOST 1048576: true; the input reads as it did. -/
def entityNewUptoRow : OpenClaim := { program := "ytcnminckooaheaagreat", sum := "0821157008e68b84d3bc36f20d3b228b0354240e95512bc0edaeb0adedfe42d5", func := "lychgate/lychgatelaw16.EntityNew", spec := "entityNew", unfollowed := true, recurses := true, apart := false, narrowed := true }
def EntityNewUptoSaid : Prop := entityNewUptoRow.holds Tryz.pinned (OpenSpec.upto entityNewSpec)

/-- 'lychgatelaw16.EntityMany', WHERE WHAT IT READS IS OF BULK AT MOST 1048576: true; the input reads as it did. -/
def entityManyUptoRow : OpenClaim := { program := "ytcnminckooaheaagreat", sum := "0821157008e68b84d3bc36f20d3b228b0354240e95512bc0edaeb0adedfe42d5", func := "lychgate/lychgatelaw16.EntityMany", spec := "entityMany", unfollowed := true, recurses := true, apart := false, narrowed := true }
def EntityManyUptoSaid : Prop := entityManyUptoRow.holds Tryz.pinned (OpenSpec.upto entityManySpec)

/-- 'lychgatelaw16.EntityOrdinals', WHERE WHAT IT READS IS OF BULK AT MOST 1048576: true; the input reads as it did. -/
def entityOrdinalsUptoRow : OpenClaim := { program := "ytcnminckooaheaagreat", sum := "0821157008e68b84d3bc36f20d3b228b0354240e95512bc0edaeb0adedfe42d5", func := "lychgate/lychgatelaw16.EntityOrdinals", spec := "entityOrdinals", inPlace := ["internal/bytealg.IndexByteString", "internal/bytealg.IndexString"], unfollowed := true, recurses := true, named := ["internal/bytealg.MaxLen"], apart := false, narrowed := true }
def EntityOrdinalsUptoSaid : Prop := entityOrdinalsUptoRow.holds Tryz.pinned (OpenSpec.upto entityOrdinalsSpec)

end Rows
end Go.Proofs.YtcnminckooaheaaGreat
