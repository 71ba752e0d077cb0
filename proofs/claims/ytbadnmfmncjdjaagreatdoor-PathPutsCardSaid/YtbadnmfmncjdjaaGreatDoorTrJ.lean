/- The contracts of tree.Count, Size and Files. Condition: the tree is there, the variables read as listed. -/
import Derived.Test.YtbadnmfmncjdjaaGreatDoorTrH
import Derived.Test.YtbadnmfmncjdjaaGreatDoorTxt
namespace Go.Proofs.YtbadnmfmncjdjaaGreatDoor
open Go.RowKit Go.Shelf
end Go.Proofs.YtbadnmfmncjdjaaGreatDoor
