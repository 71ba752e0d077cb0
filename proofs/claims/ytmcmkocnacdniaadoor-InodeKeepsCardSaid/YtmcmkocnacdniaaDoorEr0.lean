/- A sentinel error as a value, where no error is asked for its number. No condition. -/
import Derived.Test.YtmcmkocnacdniaaDoorB
import Derived.Test.YtmcmkocnacdniaaDoorProg
import Derived.LaidEql
import Derived.RowKitTokens
namespace Go.Proofs.YtmcmkocnacdniaaDoor
open Go.RowKit

/-- A sentinel error: a pointer to its text. -/
def erv (E : Nat → Addr) (g : Nat) : Value := .iface 117 (.pointer (some (E g)))
end Go.Proofs.YtmcmkocnacdniaaDoor
