/-
  DERIVED. GIVEN WITH THE SEED: THE CARDS: each row of YtoemahhpheobkaaGreatDoorRows.lean that lists a variable, with what it lists TIED to the program's text (the seventh form; the later family's looks); each row that meets fmt, with fmt's text TOLD by the authors' own Lean function (tested against real Go, not proved from fmt's source: count such statements apart). THE CARD IS WHAT COUNTS. Prove the row's statement (the work); the ties are given (YtoemahhpheobkaaGreatDoorTie.lean); close each card by the builder's one call (the guide's Derived/Test/ToyasCard.lean, 'card_holds'). Laid BY PROGRAM, IN A SANDBOX (cutbox-door.mjs). By AI agents, Wed Nov 11 2026. No macro, syntax, notation, axiom, sorry.
-/
import Derived.Test.YtoemahhpheobkaaGreatDoorRows
import GoSem.ClaimSeven
namespace Go.Proofs.YtoemahhpheobkaaGreatDoor
namespace Rows

/-- THE TIED CARD OF 'stillroomlaw2.DirsLinks'. -/
def dirsLinksCard : Claim7 := { stood := { row := dirsLinksRow, standIns := [], harness := (true, "13b2e7cc40ebd6ce1a3c6f61bc6a38c75671e88bb9e69bb40837cab5f5da4baa"), looks := false }, kinds := [], alts := [], laidByText := true, laidKinds := [.data, .sentinel, .sentinel, .sentinel, .sentinel, .sentinel, .sentinel, .sentinel, .sentinel, .sentinel, .sentinel, .pinned], laidTests := true, laidLooks := .later }
def DirsLinksCardSaid : Prop := Claim7.holds Tryz.pinned (.plain (OpenSpec.ofChange dirsLinksSpec)) dirsLinksCard

/-- THE TIED CARD OF 'stillroomlaw2.OptSame'. -/
def optSameCard : Claim7 := { stood := { row := optSameRow, standIns := [], harness := (true, "13b2e7cc40ebd6ce1a3c6f61bc6a38c75671e88bb9e69bb40837cab5f5da4baa"), looks := false }, kinds := [], alts := [], laidByText := true, laidKinds := [.data, .sentinel, .sentinel, .sentinel, .sentinel, .sentinel, .sentinel, .sentinel, .sentinel, .sentinel, .sentinel, .pinned], laidTests := true, laidLooks := .later }
def OptSameCardSaid : Prop := Claim7.holds Tryz.pinned (.plain (OpenSpec.ofChange optSameSpec)) optSameCard

/-- THE SECOND FORM's CARD OF 'stillroomlaw2.DirsLinks'. -/
def dirsLinksUptoCard : Claim7 := { stood := { row := dirsLinksUptoRow, standIns := [], harness := (true, "13b2e7cc40ebd6ce1a3c6f61bc6a38c75671e88bb9e69bb40837cab5f5da4baa"), looks := false }, kinds := [], alts := [], laidByText := true, laidKinds := [.data, .sentinel, .sentinel, .sentinel, .sentinel, .sentinel, .sentinel, .sentinel, .sentinel, .sentinel, .sentinel, .pinned], laidTests := true, laidLooks := .later }
def DirsLinksUptoCardSaid : Prop := Claim7.holds Tryz.pinned (.plain (OpenSpec.upto dirsLinksSpec)) dirsLinksUptoCard

/-- THE SECOND FORM's CARD OF 'stillroomlaw2.OptSame'. -/
def optSameUptoCard : Claim7 := { stood := { row := optSameUptoRow, standIns := [], harness := (true, "13b2e7cc40ebd6ce1a3c6f61bc6a38c75671e88bb9e69bb40837cab5f5da4baa"), looks := false }, kinds := [], alts := [], laidByText := true, laidKinds := [.data, .sentinel, .sentinel, .sentinel, .sentinel, .sentinel, .sentinel, .sentinel, .sentinel, .sentinel, .sentinel, .pinned], laidTests := true, laidLooks := .later }
def OptSameUptoCardSaid : Prop := Claim7.holds Tryz.pinned (.plain (OpenSpec.upto optSameSpec)) optSameUptoCard
end Rows
end Go.Proofs.YtoemahhpheobkaaGreatDoor
