/-
  DERIVED. GIVEN WITH THE SEED: THE CARDS: each row of YtkmabheddbbndaaDoorRows.lean that lists a variable, with what it lists TIED to the program's text (the seventh form; the later family's looks); each row that meets fmt, with fmt's text TOLD by the authors' own Lean function (tested against real Go, not proved from fmt's source: count such statements apart). THE CARD IS WHAT COUNTS. Prove the row's statement (the work); the ties are given (YtkmabheddbbndaaDoorTie.lean); close each card by the builder's one call (the guide's Derived/Test/ToyasCard.lean, 'card_holds'). Laid BY PROGRAM, IN A SANDBOX (cutbox-door.mjs). By AI agents, Wed Nov 11 2026. No macro, syntax, notation, axiom, sorry.
-/
import Derived.Test.YtkmabheddbbndaaDoorRows
import GoSem.ClaimSeven
namespace Go.Proofs.YtkmabheddbbndaaDoor
namespace Rows

/-- THE TIED CARD OF 'lychgatelaw3.WalForged'. -/
def walForgedCard : Claim7 := { stood := { row := walForgedRow, standIns := [], harness := (true, "22d8a14ebadada51069cbcfefbbff64acb5bd7cb7afb19f7ebaa44110d1f0a91"), looks := true }, kinds := [], alts := [], laidByText := true, laidKinds := [.data, .data, .data], laidTests := true, laidLooks := .later }
def WalForgedCardSaid : Prop := Claim7.holds Tryd.pinned (.plain (OpenSpec.ofChange walForgedSpec)) walForgedCard

/-- THE TIED CARD OF 'lychgatelaw3.WalGroups'. -/
def walGroupsCard : Claim7 := { stood := { row := walGroupsRow, standIns := [], harness := (true, "22d8a14ebadada51069cbcfefbbff64acb5bd7cb7afb19f7ebaa44110d1f0a91"), looks := true }, kinds := [], alts := [], laidByText := true, laidKinds := [.data, .data, .data], laidTests := true, laidLooks := .later }
def WalGroupsCardSaid : Prop := Claim7.holds Tryd.pinned (.plain (OpenSpec.ofChange walGroupsSpec)) walGroupsCard

/-- THE TIED CARD OF 'lychgatelaw3.WalWhole'. -/
def walWholeCard : Claim7 := { stood := { row := walWholeRow, standIns := [], harness := (true, "22d8a14ebadada51069cbcfefbbff64acb5bd7cb7afb19f7ebaa44110d1f0a91"), looks := true }, kinds := [], alts := [], laidByText := true, laidKinds := [.data, .data, .data], laidTests := true, laidLooks := .later }
def WalWholeCardSaid : Prop := Claim7.holds Tryd.pinned (.plain (OpenSpec.ofChange walWholeSpec)) walWholeCard

/-- THE TIED CARD OF 'lychgatelaw3.WalCrash'. -/
def walCrashCard : Claim7 := { stood := { row := walCrashRow, standIns := [], harness := (true, "22d8a14ebadada51069cbcfefbbff64acb5bd7cb7afb19f7ebaa44110d1f0a91"), looks := true }, kinds := [], alts := [], laidByText := true, laidKinds := [.data, .data, .data], laidTests := true, laidLooks := .later }
def WalCrashCardSaid : Prop := Claim7.holds Tryd.pinned (.plain (OpenSpec.ofChange walCrashSpec)) walCrashCard

/-- THE TIED CARD OF 'lychgatelaw3.WalNone'. -/
def walNoneCard : Claim7 := { stood := { row := walNoneRow, standIns := [], harness := (true, "22d8a14ebadada51069cbcfefbbff64acb5bd7cb7afb19f7ebaa44110d1f0a91"), looks := true }, kinds := [], alts := [], laidByText := true, laidKinds := [.data, .data, .data], laidTests := true, laidLooks := .later }
def WalNoneCardSaid : Prop := Claim7.holds Tryd.pinned (.plain (OpenSpec.ofChange walNoneSpec)) walNoneCard

/-- THE SECOND FORM's CARD OF 'lychgatelaw3.WalForged'. -/
def walForgedUptoCard : Claim7 := { stood := { row := walForgedUptoRow, standIns := [], harness := (true, "22d8a14ebadada51069cbcfefbbff64acb5bd7cb7afb19f7ebaa44110d1f0a91"), looks := true }, kinds := [], alts := [], laidByText := true, laidKinds := [.data, .data, .data], laidTests := true, laidLooks := .later }
def WalForgedUptoCardSaid : Prop := Claim7.holds Tryd.pinned (.plain (OpenSpec.upto walForgedSpec)) walForgedUptoCard

/-- THE SECOND FORM's CARD OF 'lychgatelaw3.WalGroups'. -/
def walGroupsUptoCard : Claim7 := { stood := { row := walGroupsUptoRow, standIns := [], harness := (true, "22d8a14ebadada51069cbcfefbbff64acb5bd7cb7afb19f7ebaa44110d1f0a91"), looks := true }, kinds := [], alts := [], laidByText := true, laidKinds := [.data, .data, .data], laidTests := true, laidLooks := .later }
def WalGroupsUptoCardSaid : Prop := Claim7.holds Tryd.pinned (.plain (OpenSpec.upto walGroupsSpec)) walGroupsUptoCard

/-- THE SECOND FORM's CARD OF 'lychgatelaw3.WalWhole'. -/
def walWholeUptoCard : Claim7 := { stood := { row := walWholeUptoRow, standIns := [], harness := (true, "22d8a14ebadada51069cbcfefbbff64acb5bd7cb7afb19f7ebaa44110d1f0a91"), looks := true }, kinds := [], alts := [], laidByText := true, laidKinds := [.data, .data, .data], laidTests := true, laidLooks := .later }
def WalWholeUptoCardSaid : Prop := Claim7.holds Tryd.pinned (.plain (OpenSpec.upto walWholeSpec)) walWholeUptoCard

/-- THE SECOND FORM's CARD OF 'lychgatelaw3.WalCrash'. -/
def walCrashUptoCard : Claim7 := { stood := { row := walCrashUptoRow, standIns := [], harness := (true, "22d8a14ebadada51069cbcfefbbff64acb5bd7cb7afb19f7ebaa44110d1f0a91"), looks := true }, kinds := [], alts := [], laidByText := true, laidKinds := [.data, .data, .data], laidTests := true, laidLooks := .later }
def WalCrashUptoCardSaid : Prop := Claim7.holds Tryd.pinned (.plain (OpenSpec.upto walCrashSpec)) walCrashUptoCard

/-- THE SECOND FORM's CARD OF 'lychgatelaw3.WalNone'. -/
def walNoneUptoCard : Claim7 := { stood := { row := walNoneUptoRow, standIns := [], harness := (true, "22d8a14ebadada51069cbcfefbbff64acb5bd7cb7afb19f7ebaa44110d1f0a91"), looks := true }, kinds := [], alts := [], laidByText := true, laidKinds := [.data, .data, .data], laidTests := true, laidLooks := .later }
def WalNoneUptoCardSaid : Prop := Claim7.holds Tryd.pinned (.plain (OpenSpec.upto walNoneSpec)) walNoneUptoCard
end Rows
end Go.Proofs.YtkmabheddbbndaaDoor
