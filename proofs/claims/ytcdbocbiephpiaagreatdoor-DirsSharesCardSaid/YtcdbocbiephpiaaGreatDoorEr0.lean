/- A sentinel error as a value, where no error is asked for its number. No condition. -/
import Derived.Test.YtcdbocbiephpiaaGreatDoorB
import Derived.Test.YtcdbocbiephpiaaGreatDoorProg
import Derived.LaidEql
import Derived.RowKitTokens
namespace Go.Proofs.YtcdbocbiephpiaaGreatDoor
open Go.RowKit

/-- A sentinel error: a pointer to its text. -/
def erv (E : Nat → Addr) (g : Nat) : Value := .iface 242 (.pointer (some (E g)))
end Go.Proofs.YtcdbocbiephpiaaGreatDoor
