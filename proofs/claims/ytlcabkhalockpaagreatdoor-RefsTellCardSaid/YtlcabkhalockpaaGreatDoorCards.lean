/-
  DERIVED. GIVEN WITH THE SEED: THE CARDS: each row of YtlcabkhalockpaaGreatDoorRows.lean that lists a variable, with what it lists TIED to the program's text (the seventh form; the later family's looks); each row that meets fmt, with fmt's text TOLD by the authors' own Lean function (tested against real Go, not proved from fmt's source: count such statements apart). THE CARD IS WHAT COUNTS. Prove the row's statement (the work); the ties are given (YtlcabkhalockpaaGreatDoorTie.lean); close each card by the builder's one call (the guide's Derived/Test/ToyasCard.lean, 'card_holds'). Laid BY PROGRAM, IN A SANDBOX (cutbox-door.mjs). By AI agents, Wed Nov 11 2026. No macro, syntax, notation, axiom, sorry.
-/
import Derived.Test.YtlcabkhalockpaaGreatDoorRows
import GoSem.ClaimSeven
namespace Go.Proofs.YtlcabkhalockpaaGreatDoor
namespace Rows

/-- THE TIED CARD OF 'stillroomlaw3.RefsTell'. -/
def refsTellCard : Claim7 := { stood := { row := refsTellRow, standIns := [], harness := (true, "baface936d89a09d6c965aada102a7908f41dfffd92c7a5c4d6f2fd43f0df5a9"), looks := true }, kinds := [], alts := [], laidByText := true, laidKinds := [.data, .handle, .sentinel, .sentinel, .sentinel, .sentinel, .sentinel, .sentinel, .sentinel, .sentinel, .sentinel, .sentinel, .sentinel, .sentinel, .sentinel, .pinned], laidTests := true, laidLooks := .later }
def RefsTellCardSaid : Prop := Claim7.holds Tryz.pinned (.plain (OpenSpec.ofChange refsTellSpec)) refsTellCard

/-- THE TIED CARD OF 'stillroomlaw3.RefsClosed'. -/
def refsClosedCard : Claim7 := { stood := { row := refsClosedRow, standIns := [], harness := (true, "baface936d89a09d6c965aada102a7908f41dfffd92c7a5c4d6f2fd43f0df5a9"), looks := true }, kinds := [], alts := [], laidByText := true, laidKinds := [.data, .handle, .sentinel, .sentinel, .sentinel, .sentinel, .sentinel, .sentinel, .sentinel, .sentinel, .sentinel, .sentinel, .sentinel, .sentinel, .sentinel, .pinned], laidTests := true, laidLooks := .later }
def RefsClosedCardSaid : Prop := Claim7.holds Tryz.pinned (.plain (OpenSpec.ofChange refsClosedSpec)) refsClosedCard

/-- THE TIED CARD OF 'stillroomlaw3.RefsUsers'. -/
def refsUsersCard : Claim7 := { stood := { row := refsUsersRow, standIns := [], harness := (true, "baface936d89a09d6c965aada102a7908f41dfffd92c7a5c4d6f2fd43f0df5a9"), looks := true }, kinds := [], alts := [], laidByText := true, laidKinds := [.data, .handle, .sentinel, .sentinel, .sentinel, .sentinel, .sentinel, .sentinel, .sentinel, .sentinel, .sentinel, .sentinel, .sentinel, .sentinel, .sentinel, .pinned], laidTests := true, laidLooks := .later }
def RefsUsersCardSaid : Prop := Claim7.holds Tryz.pinned (.plain (OpenSpec.ofChange refsUsersSpec)) refsUsersCard

/-- THE SECOND FORM's CARD OF 'stillroomlaw3.RefsTell'. -/
def refsTellUptoCard : Claim7 := { stood := { row := refsTellUptoRow, standIns := [], harness := (true, "baface936d89a09d6c965aada102a7908f41dfffd92c7a5c4d6f2fd43f0df5a9"), looks := true }, kinds := [], alts := [], laidByText := true, laidKinds := [.data, .handle, .sentinel, .sentinel, .sentinel, .sentinel, .sentinel, .sentinel, .sentinel, .sentinel, .sentinel, .sentinel, .sentinel, .sentinel, .sentinel, .pinned], laidTests := true, laidLooks := .later }
def RefsTellUptoCardSaid : Prop := Claim7.holds Tryz.pinned (.plain (OpenSpec.upto refsTellSpec)) refsTellUptoCard

/-- THE SECOND FORM's CARD OF 'stillroomlaw3.RefsClosed'. -/
def refsClosedUptoCard : Claim7 := { stood := { row := refsClosedUptoRow, standIns := [], harness := (true, "baface936d89a09d6c965aada102a7908f41dfffd92c7a5c4d6f2fd43f0df5a9"), looks := true }, kinds := [], alts := [], laidByText := true, laidKinds := [.data, .handle, .sentinel, .sentinel, .sentinel, .sentinel, .sentinel, .sentinel, .sentinel, .sentinel, .sentinel, .sentinel, .sentinel, .sentinel, .sentinel, .pinned], laidTests := true, laidLooks := .later }
def RefsClosedUptoCardSaid : Prop := Claim7.holds Tryz.pinned (.plain (OpenSpec.upto refsClosedSpec)) refsClosedUptoCard

/-- THE SECOND FORM's CARD OF 'stillroomlaw3.RefsUsers'. -/
def refsUsersUptoCard : Claim7 := { stood := { row := refsUsersUptoRow, standIns := [], harness := (true, "baface936d89a09d6c965aada102a7908f41dfffd92c7a5c4d6f2fd43f0df5a9"), looks := true }, kinds := [], alts := [], laidByText := true, laidKinds := [.data, .handle, .sentinel, .sentinel, .sentinel, .sentinel, .sentinel, .sentinel, .sentinel, .sentinel, .sentinel, .sentinel, .sentinel, .sentinel, .sentinel, .pinned], laidTests := true, laidLooks := .later }
def RefsUsersUptoCardSaid : Prop := Claim7.holds Tryz.pinned (.plain (OpenSpec.upto refsUsersSpec)) refsUsersUptoCard
end Rows
end Go.Proofs.YtlcabkhalockpaaGreatDoor
