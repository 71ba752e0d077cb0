/- The contracts of tree.Each, over the function values of Count, Size and Files. Condition: as stated. -/
import Derived.Test.YtbadnmfmncjdjaaGreatDoorTrF
import Derived.Lib.MinMaxS
namespace Go.Proofs.YtbadnmfmncjdjaaGreatDoor
open Go.RowKit Go.Shelf

def pathOf (p : ByteArray) : ByteArray := Lib.maxS p ⟨#[47]⟩
def listed {α : Type} (t : Tr α) : List (It α) := if treeE t = 0 then pre ⟨#[]⟩ 0 t else []
end Go.Proofs.YtbadnmfmncjdjaaGreatDoor
