/- The closed fact of the paths' statements; stillroomlaw1.PathSplits, walked. Condition: the texts are there, the variables read as listed. -/
import Derived.Test.YtoaedkinlnkkhaaGreatDoorPaF
import Derived.Test.YtoaedkinlnkkhaaGreatDoorPaP
import Derived.Test.YtoaedkinlnkkhaaGreatDoorTrG
namespace Go.Proofs.YtoaedkinlnkkhaaGreatDoor
open Go.RowKit Go.Shelf
end Go.Proofs.YtoaedkinlnkkhaaGreatDoor
