/- A sentinel error as a value, where no error is asked for its number. No condition. -/
import Derived.Test.YtoemahhpheobkaaGreatDoorB
import Derived.Test.YtoemahhpheobkaaGreatDoorProg
import Derived.LaidEql
import Derived.RowKitTokens
namespace Go.Proofs.YtoemahhpheobkaaGreatDoor
open Go.RowKit

/-- A sentinel error: a pointer to its text. -/
def erv (E : Nat → Addr) (g : Nat) : Value := .iface 249 (.pointer (some (E g)))
end Go.Proofs.YtoemahhpheobkaaGreatDoor
