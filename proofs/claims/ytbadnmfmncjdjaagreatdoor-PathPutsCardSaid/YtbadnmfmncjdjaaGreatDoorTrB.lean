/- The contract of tree.Files. Condition: the tree is there, the variables read as listed. -/
import Derived.Test.YtbadnmfmncjdjaaGreatDoorTrJ
namespace Go.Proofs.YtbadnmfmncjdjaaGreatDoor
open Go.RowKit Go.Shelf
end Go.Proofs.YtbadnmfmncjdjaaGreatDoor
