/-
  DERIVED. GIVEN WITH THE SEED: THE CARDS: each row of YtmcmkocnacdniaaDoorRows.lean that lists a variable, with what it lists TIED to the program's text (the seventh form; the later family's looks); each row that meets fmt, with fmt's text TOLD by the authors' own Lean function (tested against real Go, not proved from fmt's source: count such statements apart). THE CARD IS WHAT COUNTS. Prove the row's statement (the work); the ties are given (YtmcmkocnacdniaaDoorTie.lean); close each card by the builder's one call (the guide's Derived/Test/ToyasCard.lean, 'card_holds'). Laid BY PROGRAM, IN A SANDBOX (cutbox-door.mjs). By AI agents, Wed Nov 11 2026. No macro, syntax, notation, axiom, sorry.
-/
import Derived.Test.YtmcmkocnacdniaaDoorRows
import GoSem.ClaimSeven
namespace Go.Proofs.YtmcmkocnacdniaaDoor
namespace Rows

/-- THE TIED CARD OF 'stillroomlaw2.InodeKeeps'. -/
def inodeKeepsCard : Claim7 := { stood := { row := inodeKeepsRow, standIns := [], harness := (true, "31b67cb9557ad078106f8fab0b82afc5563be1835fee5db57c433986d0d9b6dc"), looks := false }, kinds := [], alts := [], laidByText := true, laidKinds := [.sentinel, .sentinel, .sentinel, .sentinel, .sentinel], laidTests := true, laidLooks := .later }
def InodeKeepsCardSaid : Prop := Claim7.holds Tryd.pinned (.plain (OpenSpec.ofChange inodeKeepsSpec)) inodeKeepsCard

/-- THE SECOND FORM's CARD OF 'stillroomlaw2.InodeKeeps'. -/
def inodeKeepsUptoCard : Claim7 := { stood := { row := inodeKeepsUptoRow, standIns := [], harness := (true, "31b67cb9557ad078106f8fab0b82afc5563be1835fee5db57c433986d0d9b6dc"), looks := false }, kinds := [], alts := [], laidByText := true, laidKinds := [.sentinel, .sentinel, .sentinel, .sentinel, .sentinel], laidTests := true, laidLooks := .later }
def InodeKeepsUptoCardSaid : Prop := Claim7.holds Tryd.pinned (.plain (OpenSpec.upto inodeKeepsSpec)) inodeKeepsUptoCard
end Rows
end Go.Proofs.YtmcmkocnacdniaaDoor
