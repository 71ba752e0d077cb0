/-
  DERIVED. GIVEN WITH THE SEED: THE CARDS: each row of YthnlaigabefidaaDoorRows.lean that lists a variable, with what it lists TIED to the program's text (the seventh form; the later family's looks); each row that meets fmt, with fmt's text TOLD by the authors' own Lean function (tested against real Go, not proved from fmt's source: count such statements apart). THE CARD IS WHAT COUNTS. Prove the row's statement (the work); the ties are given (YthnlaigabefidaaDoorTie.lean); close each card by the builder's one call (the guide's Derived/Test/ToyasCard.lean, 'card_holds'). Laid BY PROGRAM, IN A SANDBOX (cutbox-door.mjs). By AI agents, Wed Nov 11 2026. No macro, syntax, notation, axiom, sorry.
-/
import Derived.Test.YthnlaigabefidaaDoorRows
import GoSem.ClaimSeven
namespace Go.Proofs.YthnlaigabefidaaDoor
namespace Rows

/-- THE TIED CARD OF 'stillroomlaw1.PathFollows'. -/
def pathFollowsCard : Claim7 := { stood := { row := pathFollowsRow, standIns := [], harness := (true, "358225498de3ccde3e78444caeb0ce4f04b3b3b0ee411c7a729f71c693bd4796"), looks := false }, kinds := [], alts := [], laidByText := true, laidKinds := [.data, .sentinel, .sentinel, .sentinel, .sentinel, .sentinel, .sentinel, .sentinel, .sentinel, .sentinel, .pinned], laidTests := true, laidLooks := .later }
def PathFollowsCardSaid : Prop := Claim7.holds Tryd.pinned (.plain (OpenSpec.ofChange pathFollowsSpec)) pathFollowsCard

/-- THE SECOND FORM's CARD OF 'stillroomlaw1.PathFollows'. -/
def pathFollowsUptoCard : Claim7 := { stood := { row := pathFollowsUptoRow, standIns := [], harness := (true, "358225498de3ccde3e78444caeb0ce4f04b3b3b0ee411c7a729f71c693bd4796"), looks := false }, kinds := [], alts := [], laidByText := true, laidKinds := [.data, .sentinel, .sentinel, .sentinel, .sentinel, .sentinel, .sentinel, .sentinel, .sentinel, .sentinel, .pinned], laidTests := true, laidLooks := .later }
def PathFollowsUptoCardSaid : Prop := Claim7.holds Tryd.pinned (.plain (OpenSpec.upto pathFollowsSpec)) pathFollowsUptoCard
end Rows
end Go.Proofs.YthnlaigabefidaaDoor
