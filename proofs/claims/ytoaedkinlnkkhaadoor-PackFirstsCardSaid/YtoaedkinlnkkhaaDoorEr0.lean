/- A sentinel error as a value, where no error is asked for its number. No condition. -/
import Derived.Test.YtoaedkinlnkkhaaDoorB
import Derived.Test.YtoaedkinlnkkhaaDoorProg
import Derived.LaidEql
import Derived.RowKitTokens
namespace Go.Proofs.YtoaedkinlnkkhaaDoor
open Go.RowKit

/-- A sentinel error: a pointer to its text. -/
def erv (E : Nat → Addr) (g : Nat) : Value := .iface 178 (.pointer (some (E g)))
end Go.Proofs.YtoaedkinlnkkhaaDoor
