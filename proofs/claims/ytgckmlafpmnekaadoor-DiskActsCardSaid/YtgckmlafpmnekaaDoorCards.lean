/-
  DERIVED. GIVEN WITH THE SEED: THE CARDS: each row of YtgckmlafpmnekaaDoorRows.lean that lists a variable, with what it lists TIED to the program's text (the seventh form; the later family's looks); each row that meets fmt, with fmt's text TOLD by the authors' own Lean function (tested against real Go, not proved from fmt's source: count such statements apart). THE CARD IS WHAT COUNTS. Prove the row's statement (the work); the ties are given (YtgckmlafpmnekaaDoorTie.lean); close each card by the builder's one call (the guide's Derived/Test/ToyasCard.lean, 'card_holds'). Laid BY PROGRAM, IN A SANDBOX (cutbox-door.mjs). By AI agents, Wed Nov 11 2026. No macro, syntax, notation, axiom, sorry.
-/
import Derived.Test.YtgckmlafpmnekaaDoorRows
import GoSem.ClaimSeven
namespace Go.Proofs.YtgckmlafpmnekaaDoor
namespace Rows

/-- THE TIED CARD OF 'stillroomlaw1.Names'. -/
def namesCard : Claim7 := { stood := { row := namesRow, standIns := [], harness := (true, "c0c0a5358e6d5ce4280eeb60b4220e06f0c77276f4ef3ba4867aef01970887fe"), looks := true }, kinds := [], alts := [], laidByText := true, laidKinds := [.handle, .sentinel, .sentinel, .sentinel, .sentinel, .sentinel, .sentinel, .sentinel, .sentinel, .sentinel, .sentinel, .sentinel, .sentinel, .sentinel], laidTests := true, laidLooks := .later }
def NamesCardSaid : Prop := Claim7.holds Tryd.pinned (.plain (OpenSpec.ofChange namesSpec)) namesCard

/-- THE TIED CARD OF 'stillroomlaw2.DiskStays'. -/
def diskStaysCard : Claim7 := { stood := { row := diskStaysRow, standIns := [], harness := (true, "c0c0a5358e6d5ce4280eeb60b4220e06f0c77276f4ef3ba4867aef01970887fe"), looks := true }, kinds := [], alts := [], laidByText := true, laidKinds := [.sentinel], laidTests := true, laidLooks := .later }
def DiskStaysCardSaid : Prop := Claim7.holds Tryd.pinned (.plain (OpenSpec.ofChange diskStaysSpec)) diskStaysCard

/-- THE TIED CARD OF 'stillroomlaw2.SpaceKeeps'. -/
def spaceKeepsCard : Claim7 := { stood := { row := spaceKeepsRow, standIns := [], harness := (true, "c0c0a5358e6d5ce4280eeb60b4220e06f0c77276f4ef3ba4867aef01970887fe"), looks := true }, kinds := [], alts := [], laidByText := true, laidKinds := [.handle, .sentinel, .sentinel, .sentinel, .sentinel, .sentinel, .sentinel, .sentinel, .sentinel, .sentinel, .sentinel, .sentinel, .sentinel, .sentinel], laidTests := true, laidLooks := .later }
def SpaceKeepsCardSaid : Prop := Claim7.holds Tryd.pinned (.plain (OpenSpec.ofChange spaceKeepsSpec)) spaceKeepsCard

/-- THE TIED CARD OF 'stillroomlaw2.SpaceActs'. -/
def spaceActsCard : Claim7 := { stood := { row := spaceActsRow, standIns := [], harness := (true, "c0c0a5358e6d5ce4280eeb60b4220e06f0c77276f4ef3ba4867aef01970887fe"), looks := true }, kinds := [], alts := [], laidByText := true, laidKinds := [.handle, .sentinel, .sentinel, .sentinel, .sentinel, .sentinel, .sentinel, .sentinel, .sentinel, .sentinel, .sentinel, .sentinel, .sentinel, .sentinel], laidTests := true, laidLooks := .later }
def SpaceActsCardSaid : Prop := Claim7.holds Tryd.pinned (.plain (OpenSpec.ofChange spaceActsSpec)) spaceActsCard

/-- THE TIED CARD OF 'stillroomlaw2.InodeKeeps'. -/
def inodeKeepsCard : Claim7 := { stood := { row := inodeKeepsRow, standIns := [], harness := (true, "c0c0a5358e6d5ce4280eeb60b4220e06f0c77276f4ef3ba4867aef01970887fe"), looks := true }, kinds := [], alts := [], laidByText := true, laidKinds := [.sentinel, .sentinel, .sentinel, .sentinel, .sentinel], laidTests := true, laidLooks := .later }
def InodeKeepsCardSaid : Prop := Claim7.holds Tryd.pinned (.plain (OpenSpec.ofChange inodeKeepsSpec)) inodeKeepsCard

/-- THE TIED CARD OF 'stillroomlaw2.DiskActs'. -/
def diskActsCard : Claim7 := { stood := { row := diskActsRow, standIns := [], harness := (true, "c0c0a5358e6d5ce4280eeb60b4220e06f0c77276f4ef3ba4867aef01970887fe"), looks := true }, kinds := [], alts := [], laidByText := true, laidKinds := [.handle, .sentinel, .sentinel, .sentinel, .sentinel, .sentinel, .sentinel, .sentinel, .sentinel, .sentinel, .sentinel, .sentinel, .sentinel, .sentinel], laidTests := true, laidLooks := .later }
def DiskActsCardSaid : Prop := Claim7.holds Tryd.pinned (.plain (OpenSpec.ofChange diskActsSpec)) diskActsCard

/-- THE TIED CARD OF 'stillroomlaw1.TreeTells'. -/
def treeTellsCard : Claim7 := { stood := { row := treeTellsRow, standIns := [], harness := (true, "c0c0a5358e6d5ce4280eeb60b4220e06f0c77276f4ef3ba4867aef01970887fe"), looks := true }, kinds := [], alts := [], laidByText := true, laidKinds := [.data, .handle, .sentinel, .sentinel, .sentinel, .sentinel, .sentinel, .sentinel, .sentinel, .sentinel, .sentinel, .sentinel, .sentinel, .sentinel, .sentinel, .pinned], laidTests := true, laidLooks := .later }
def TreeTellsCardSaid : Prop := Claim7.holds Tryd.pinned (.plain (OpenSpec.ofChange treeTellsSpec)) treeTellsCard

/-- THE TIED CARD OF 'stillroomlaw1.TreeSums'. -/
def treeSumsCard : Claim7 := { stood := { row := treeSumsRow, standIns := [], harness := (true, "c0c0a5358e6d5ce4280eeb60b4220e06f0c77276f4ef3ba4867aef01970887fe"), looks := true }, kinds := [], alts := [], laidByText := true, laidKinds := [.data, .handle, .sentinel, .sentinel, .sentinel, .sentinel, .sentinel, .sentinel, .sentinel, .sentinel, .sentinel, .sentinel, .sentinel, .sentinel, .sentinel, .pinned], laidTests := true, laidLooks := .later }
def TreeSumsCardSaid : Prop := Claim7.holds Tryd.pinned (.plain (OpenSpec.ofChange treeSumsSpec)) treeSumsCard

/-- THE SECOND FORM's CARD OF 'stillroomlaw1.Names'. -/
def namesUptoCard : Claim7 := { stood := { row := namesUptoRow, standIns := [], harness := (true, "c0c0a5358e6d5ce4280eeb60b4220e06f0c77276f4ef3ba4867aef01970887fe"), looks := true }, kinds := [], alts := [], laidByText := true, laidKinds := [.handle, .sentinel, .sentinel, .sentinel, .sentinel, .sentinel, .sentinel, .sentinel, .sentinel, .sentinel, .sentinel, .sentinel, .sentinel, .sentinel], laidTests := true, laidLooks := .later }
def NamesUptoCardSaid : Prop := Claim7.holds Tryd.pinned (.plain (OpenSpec.upto namesSpec)) namesUptoCard

/-- THE SECOND FORM's CARD OF 'stillroomlaw2.DiskStays'. -/
def diskStaysUptoCard : Claim7 := { stood := { row := diskStaysUptoRow, standIns := [], harness := (true, "c0c0a5358e6d5ce4280eeb60b4220e06f0c77276f4ef3ba4867aef01970887fe"), looks := true }, kinds := [], alts := [], laidByText := true, laidKinds := [.sentinel], laidTests := true, laidLooks := .later }
def DiskStaysUptoCardSaid : Prop := Claim7.holds Tryd.pinned (.plain (OpenSpec.upto diskStaysSpec)) diskStaysUptoCard

/-- THE SECOND FORM's CARD OF 'stillroomlaw2.SpaceKeeps'. -/
def spaceKeepsUptoCard : Claim7 := { stood := { row := spaceKeepsUptoRow, standIns := [], harness := (true, "c0c0a5358e6d5ce4280eeb60b4220e06f0c77276f4ef3ba4867aef01970887fe"), looks := true }, kinds := [], alts := [], laidByText := true, laidKinds := [.handle, .sentinel, .sentinel, .sentinel, .sentinel, .sentinel, .sentinel, .sentinel, .sentinel, .sentinel, .sentinel, .sentinel, .sentinel, .sentinel], laidTests := true, laidLooks := .later }
def SpaceKeepsUptoCardSaid : Prop := Claim7.holds Tryd.pinned (.plain (OpenSpec.upto spaceKeepsSpec)) spaceKeepsUptoCard

/-- THE SECOND FORM's CARD OF 'stillroomlaw2.SpaceActs'. -/
def spaceActsUptoCard : Claim7 := { stood := { row := spaceActsUptoRow, standIns := [], harness := (true, "c0c0a5358e6d5ce4280eeb60b4220e06f0c77276f4ef3ba4867aef01970887fe"), looks := true }, kinds := [], alts := [], laidByText := true, laidKinds := [.handle, .sentinel, .sentinel, .sentinel, .sentinel, .sentinel, .sentinel, .sentinel, .sentinel, .sentinel, .sentinel, .sentinel, .sentinel, .sentinel], laidTests := true, laidLooks := .later }
def SpaceActsUptoCardSaid : Prop := Claim7.holds Tryd.pinned (.plain (OpenSpec.upto spaceActsSpec)) spaceActsUptoCard

/-- THE SECOND FORM's CARD OF 'stillroomlaw2.InodeKeeps'. -/
def inodeKeepsUptoCard : Claim7 := { stood := { row := inodeKeepsUptoRow, standIns := [], harness := (true, "c0c0a5358e6d5ce4280eeb60b4220e06f0c77276f4ef3ba4867aef01970887fe"), looks := true }, kinds := [], alts := [], laidByText := true, laidKinds := [.sentinel, .sentinel, .sentinel, .sentinel, .sentinel], laidTests := true, laidLooks := .later }
def InodeKeepsUptoCardSaid : Prop := Claim7.holds Tryd.pinned (.plain (OpenSpec.upto inodeKeepsSpec)) inodeKeepsUptoCard

/-- THE SECOND FORM's CARD OF 'stillroomlaw2.DiskActs'. -/
def diskActsUptoCard : Claim7 := { stood := { row := diskActsUptoRow, standIns := [], harness := (true, "c0c0a5358e6d5ce4280eeb60b4220e06f0c77276f4ef3ba4867aef01970887fe"), looks := true }, kinds := [], alts := [], laidByText := true, laidKinds := [.handle, .sentinel, .sentinel, .sentinel, .sentinel, .sentinel, .sentinel, .sentinel, .sentinel, .sentinel, .sentinel, .sentinel, .sentinel, .sentinel], laidTests := true, laidLooks := .later }
def DiskActsUptoCardSaid : Prop := Claim7.holds Tryd.pinned (.plain (OpenSpec.upto diskActsSpec)) diskActsUptoCard

/-- THE SECOND FORM's CARD OF 'stillroomlaw1.TreeTells'. -/
def treeTellsUptoCard : Claim7 := { stood := { row := treeTellsUptoRow, standIns := [], harness := (true, "c0c0a5358e6d5ce4280eeb60b4220e06f0c77276f4ef3ba4867aef01970887fe"), looks := true }, kinds := [], alts := [], laidByText := true, laidKinds := [.data, .handle, .sentinel, .sentinel, .sentinel, .sentinel, .sentinel, .sentinel, .sentinel, .sentinel, .sentinel, .sentinel, .sentinel, .sentinel, .sentinel, .pinned], laidTests := true, laidLooks := .later }
def TreeTellsUptoCardSaid : Prop := Claim7.holds Tryd.pinned (.plain (OpenSpec.upto treeTellsSpec)) treeTellsUptoCard

/-- THE SECOND FORM's CARD OF 'stillroomlaw1.TreeSums'. -/
def treeSumsUptoCard : Claim7 := { stood := { row := treeSumsUptoRow, standIns := [], harness := (true, "c0c0a5358e6d5ce4280eeb60b4220e06f0c77276f4ef3ba4867aef01970887fe"), looks := true }, kinds := [], alts := [], laidByText := true, laidKinds := [.data, .handle, .sentinel, .sentinel, .sentinel, .sentinel, .sentinel, .sentinel, .sentinel, .sentinel, .sentinel, .sentinel, .sentinel, .sentinel, .sentinel, .pinned], laidTests := true, laidLooks := .later }
def TreeSumsUptoCardSaid : Prop := Claim7.holds Tryd.pinned (.plain (OpenSpec.upto treeSumsSpec)) treeSumsUptoCard
end Rows
end Go.Proofs.YtgckmlafpmnekaaDoor
