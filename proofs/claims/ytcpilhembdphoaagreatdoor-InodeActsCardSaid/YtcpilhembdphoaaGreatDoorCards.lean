/-
  DERIVED. GIVEN WITH THE SEED: THE CARDS: each row of YtcpilhembdphoaaGreatDoorRows.lean that lists a variable, with what it lists TIED to the program's text (the seventh form; the later family's looks); each row that meets fmt, with fmt's text TOLD by the authors' own Lean function (tested against real Go, not proved from fmt's source: count such statements apart). THE CARD IS WHAT COUNTS. Prove the row's statement (the work); the ties are given (YtcpilhembdphoaaGreatDoorTie.lean); close each card by the builder's one call (the guide's Derived/Test/ToyasCard.lean, 'card_holds'). Laid BY PROGRAM, IN A SANDBOX (cutbox-door.mjs). By AI agents, Wed Nov 11 2026. No macro, syntax, notation, axiom, sorry.
-/
import Derived.Test.YtcpilhembdphoaaGreatDoorRows
import GoSem.ClaimSeven
namespace Go.Proofs.YtcpilhembdphoaaGreatDoor
namespace Rows

/-- THE TIED CARD OF 'stillroomlaw2.ScrubMends'. -/
def scrubMendsCard : Claim7 := { stood := { row := scrubMendsRow, standIns := [], harness := (true, "752a7f29d7aad91e8a9a888b911cbe319fb931aa8e0c7ce49aa24a414c6edc39"), looks := true }, kinds := [], alts := [], laidByText := true, laidKinds := [.handle, .sentinel, .sentinel, .sentinel, .sentinel, .sentinel, .sentinel, .sentinel, .sentinel, .sentinel, .sentinel, .sentinel, .sentinel, .sentinel], laidTests := true, laidLooks := .later }
def ScrubMendsCardSaid : Prop := Claim7.holds Tryz.pinned (.plain (OpenSpec.ofChange scrubMendsSpec)) scrubMendsCard

/-- THE TIED CARD OF 'stillroomlaw2.InodeActs'. -/
def inodeActsCard : Claim7 := { stood := { row := inodeActsRow, standIns := [], harness := (true, "752a7f29d7aad91e8a9a888b911cbe319fb931aa8e0c7ce49aa24a414c6edc39"), looks := true }, kinds := [], alts := [], laidByText := true, laidKinds := [.handle, .sentinel, .sentinel, .sentinel, .sentinel, .sentinel, .sentinel, .sentinel, .sentinel, .sentinel, .sentinel, .sentinel, .sentinel, .sentinel], laidTests := true, laidLooks := .later }
def InodeActsCardSaid : Prop := Claim7.holds Tryz.pinned (.plain (OpenSpec.ofChange inodeActsSpec)) inodeActsCard

/-- THE SECOND FORM's CARD OF 'stillroomlaw2.ScrubMends'. -/
def scrubMendsUptoCard : Claim7 := { stood := { row := scrubMendsUptoRow, standIns := [], harness := (true, "752a7f29d7aad91e8a9a888b911cbe319fb931aa8e0c7ce49aa24a414c6edc39"), looks := true }, kinds := [], alts := [], laidByText := true, laidKinds := [.handle, .sentinel, .sentinel, .sentinel, .sentinel, .sentinel, .sentinel, .sentinel, .sentinel, .sentinel, .sentinel, .sentinel, .sentinel, .sentinel], laidTests := true, laidLooks := .later }
def ScrubMendsUptoCardSaid : Prop := Claim7.holds Tryz.pinned (.plain (OpenSpec.upto scrubMendsSpec)) scrubMendsUptoCard

/-- THE SECOND FORM's CARD OF 'stillroomlaw2.InodeActs'. -/
def inodeActsUptoCard : Claim7 := { stood := { row := inodeActsUptoRow, standIns := [], harness := (true, "752a7f29d7aad91e8a9a888b911cbe319fb931aa8e0c7ce49aa24a414c6edc39"), looks := true }, kinds := [], alts := [], laidByText := true, laidKinds := [.handle, .sentinel, .sentinel, .sentinel, .sentinel, .sentinel, .sentinel, .sentinel, .sentinel, .sentinel, .sentinel, .sentinel, .sentinel, .sentinel], laidTests := true, laidLooks := .later }
def InodeActsUptoCardSaid : Prop := Claim7.holds Tryz.pinned (.plain (OpenSpec.upto inodeActsSpec)) inodeActsUptoCard
end Rows
end Go.Proofs.YtcpilhembdphoaaGreatDoor
