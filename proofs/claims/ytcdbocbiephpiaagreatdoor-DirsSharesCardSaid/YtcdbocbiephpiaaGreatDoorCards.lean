/-
  DERIVED. GIVEN WITH THE SEED: THE CARDS: each row of YtcdbocbiephpiaaGreatDoorRows.lean that lists a variable, with what it lists TIED to the program's text (the seventh form; the later family's looks); each row that meets fmt, with fmt's text TOLD by the authors' own Lean function (tested against real Go, not proved from fmt's source: count such statements apart). THE CARD IS WHAT COUNTS. Prove the row's statement (the work); the ties are given (YtcdbocbiephpiaaGreatDoorTie.lean); close each card by the builder's one call (the guide's Derived/Test/ToyasCard.lean, 'card_holds'). Laid BY PROGRAM, IN A SANDBOX (cutbox-door.mjs). By AI agents, Wed Nov 11 2026. No macro, syntax, notation, axiom, sorry.
-/
import Derived.Test.YtcdbocbiephpiaaGreatDoorRows
import GoSem.ClaimSeven
namespace Go.Proofs.YtcdbocbiephpiaaGreatDoor
namespace Rows

/-- THE TIED CARD OF 'stillroomlaw2.DirsShares'. -/
def dirsSharesCard : Claim7 := { stood := { row := dirsSharesRow, standIns := [], harness := (true, "1b17ca3c52e137f0a87e29c3bcbbfcdd32bdacec7f80dd4c94a983a9fcb2ebea"), looks := false }, kinds := [], alts := [], laidByText := true, laidKinds := [.data, .sentinel, .sentinel, .sentinel, .sentinel, .sentinel, .sentinel, .sentinel, .sentinel, .sentinel, .sentinel, .pinned], laidTests := true, laidLooks := .later }
def DirsSharesCardSaid : Prop := Claim7.holds Tryz.pinned (.plain (OpenSpec.ofChange dirsSharesSpec)) dirsSharesCard

/-- THE TIED CARD OF 'stillroomlaw2.DirsLinks'. -/
def dirsLinksCard : Claim7 := { stood := { row := dirsLinksRow, standIns := [], harness := (true, "1b17ca3c52e137f0a87e29c3bcbbfcdd32bdacec7f80dd4c94a983a9fcb2ebea"), looks := false }, kinds := [], alts := [], laidByText := true, laidKinds := [.data, .sentinel, .sentinel, .sentinel, .sentinel, .sentinel, .sentinel, .sentinel, .sentinel, .sentinel, .sentinel, .pinned], laidTests := true, laidLooks := .later }
def DirsLinksCardSaid : Prop := Claim7.holds Tryz.pinned (.plain (OpenSpec.ofChange dirsLinksSpec)) dirsLinksCard

/-- THE SECOND FORM's CARD OF 'stillroomlaw2.DirsShares'. -/
def dirsSharesUptoCard : Claim7 := { stood := { row := dirsSharesUptoRow, standIns := [], harness := (true, "1b17ca3c52e137f0a87e29c3bcbbfcdd32bdacec7f80dd4c94a983a9fcb2ebea"), looks := false }, kinds := [], alts := [], laidByText := true, laidKinds := [.data, .sentinel, .sentinel, .sentinel, .sentinel, .sentinel, .sentinel, .sentinel, .sentinel, .sentinel, .sentinel, .pinned], laidTests := true, laidLooks := .later }
def DirsSharesUptoCardSaid : Prop := Claim7.holds Tryz.pinned (.plain (OpenSpec.upto dirsSharesSpec)) dirsSharesUptoCard

/-- THE SECOND FORM's CARD OF 'stillroomlaw2.DirsLinks'. -/
def dirsLinksUptoCard : Claim7 := { stood := { row := dirsLinksUptoRow, standIns := [], harness := (true, "1b17ca3c52e137f0a87e29c3bcbbfcdd32bdacec7f80dd4c94a983a9fcb2ebea"), looks := false }, kinds := [], alts := [], laidByText := true, laidKinds := [.data, .sentinel, .sentinel, .sentinel, .sentinel, .sentinel, .sentinel, .sentinel, .sentinel, .sentinel, .sentinel, .pinned], laidTests := true, laidLooks := .later }
def DirsLinksUptoCardSaid : Prop := Claim7.holds Tryz.pinned (.plain (OpenSpec.upto dirsLinksSpec)) dirsLinksUptoCard
end Rows
end Go.Proofs.YtcdbocbiephpiaaGreatDoor
