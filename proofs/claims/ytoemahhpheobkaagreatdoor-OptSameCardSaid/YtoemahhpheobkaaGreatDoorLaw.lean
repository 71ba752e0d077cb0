/- Small functions of the statements: own memory of numbers, the same numbers. Condition: the slices' cells are there. -/
import Derived.Test.YtoemahhpheobkaaGreatDoorApp
namespace Go.Proofs.YtoemahhpheobkaaGreatDoor
open Go.RowKit

theorem infoI' : (Tryz.prog.info? 3).map (fun i => (i.zero, i.size, i.bytes)) = some (some (.int .i64 0), 1, 8) := by kernel_rfl
theorem one_icells (l : List Int) : ∀ u ∈ icells l, u.oneCell' = true := by
  intro u hu
  obtain ⟨x, _, rfl⟩ := List.mem_map.1 hu
  rfl

/-- A result: a slice of the call's own. -/
def OwnSl (e1 : TypeId) (size : Nat) (n : Nat) (xs : List Value) (w : World) (e : Ending) (w' : World) : Prop :=
  ∃ a cap, e = .returned (.slice a n cap) ∧ Ow (fun g => w.heap.size ≤ g) w' e1 size (.slice a n cap) n xs ∧ Below w.heap.size w w'


end Go.Proofs.YtoemahhpheobkaaGreatDoor
