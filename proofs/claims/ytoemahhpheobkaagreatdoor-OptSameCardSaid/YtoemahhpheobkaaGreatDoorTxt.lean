/- The statements' function on texts: the same ones. Condition: the slices' cells are there. -/
import Derived.Test.YtoemahhpheobkaaGreatDoorApp
import Derived.Lib.Strings
import Derived.WideShapes
namespace Go.Proofs.YtoemahhpheobkaaGreatDoor
open Go.RowKit

/-- texts as cells -/
def tcells (l : List ByteArray) : List Value := l.map Value.string
theorem tcells_len (l : List ByteArray) : (tcells l).length = l.length := by simp [tcells]
theorem one_tcells (l : List ByteArray) : ∀ u ∈ tcells l, u.oneCell' = true := by
  intro u hu
  obtain ⟨x, _, rfl⟩ := List.mem_map.1 hu
  rfl
end Go.Proofs.YtoemahhpheobkaaGreatDoor
