/- The contract of tree.each, over any function value that keeps a promise. Condition: as stated. -/
import Derived.Test.YtbadnmfmncjdjaaGreatDoorTrC
import Derived.Lib.MinMaxS
namespace Go.Proofs.YtbadnmfmncjdjaaGreatDoor
open Go.RowKit Go.Shelf
end Go.Proofs.YtbadnmfmncjdjaaGreatDoor
