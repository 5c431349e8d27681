/-
  DERIVED. GIVEN WITH THE SEED: THE CARDS: each row of YtolanmmnnjjikaaDoorRows.lean that lists a variable, with what it lists TIED to the program's text (the seventh form; the later family's looks); each row that meets fmt, with fmt's text TOLD by the authors' own Lean function (tested against real Go, not proved from fmt's source: count such statements apart). THE CARD IS WHAT COUNTS. Prove the row's statement (the work); the ties are given (YtolanmmnnjjikaaDoorTie.lean); close each card by the builder's one call (the guide's Derived/Test/ToyasCard.lean, 'card_holds'). Laid BY PROGRAM, IN A SANDBOX (cutbox-door.mjs). By AI agents, Wed Nov 11 2026. No macro, syntax, notation, axiom, sorry.
-/
import Derived.Test.YtolanmmnnjjikaaDoorRows
import GoSem.ClaimSeven
namespace Go.Proofs.YtolanmmnnjjikaaDoor
namespace Rows

/-- THE TIED CARD OF 'lychgatelaw5.FileBytes'. -/
def fileBytesCard : Claim7 := { stood := { row := fileBytesRow, standIns := [], harness := (true, "3b056ccbe7f63779b7e0fc5d1e820218e8740559096b3d44c3ccad54b08d46b0"), looks := true }, kinds := [], alts := [], laidByText := true, laidKinds := [.data, .data, .data], laidTests := true, laidLooks := .later }
def FileBytesCardSaid : Prop := Claim7.holds Tryd.pinned (.plain (OpenSpec.ofChange fileBytesSpec)) fileBytesCard

/-- THE TIED CARD OF 'lychgatelaw5.FileNone'. -/
def fileNoneCard : Claim7 := { stood := { row := fileNoneRow, standIns := [], harness := (true, "3b056ccbe7f63779b7e0fc5d1e820218e8740559096b3d44c3ccad54b08d46b0"), looks := true }, kinds := [], alts := [], laidByText := true, laidKinds := [.data, .data, .data], laidTests := true, laidLooks := .later }
def FileNoneCardSaid : Prop := Claim7.holds Tryd.pinned (.plain (OpenSpec.ofChange fileNoneSpec)) fileNoneCard

/-- THE SECOND FORM's CARD OF 'lychgatelaw5.FileBytes'. -/
def fileBytesUptoCard : Claim7 := { stood := { row := fileBytesUptoRow, standIns := [], harness := (true, "3b056ccbe7f63779b7e0fc5d1e820218e8740559096b3d44c3ccad54b08d46b0"), looks := true }, kinds := [], alts := [], laidByText := true, laidKinds := [.data, .data, .data], laidTests := true, laidLooks := .later }
def FileBytesUptoCardSaid : Prop := Claim7.holds Tryd.pinned (.plain (OpenSpec.upto fileBytesSpec)) fileBytesUptoCard

/-- THE SECOND FORM's CARD OF 'lychgatelaw5.FileNone'. -/
def fileNoneUptoCard : Claim7 := { stood := { row := fileNoneUptoRow, standIns := [], harness := (true, "3b056ccbe7f63779b7e0fc5d1e820218e8740559096b3d44c3ccad54b08d46b0"), looks := true }, kinds := [], alts := [], laidByText := true, laidKinds := [.data, .data, .data], laidTests := true, laidLooks := .later }
def FileNoneUptoCardSaid : Prop := Claim7.holds Tryd.pinned (.plain (OpenSpec.upto fileNoneSpec)) fileNoneUptoCard
end Rows
end Go.Proofs.YtolanmmnnjjikaaDoor
