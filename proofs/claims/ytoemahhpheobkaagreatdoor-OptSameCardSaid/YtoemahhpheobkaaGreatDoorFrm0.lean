/- What the card asks of the program alone, where no error is asked for its number. No condition. -/
import Derived.Test.YtoemahhpheobkaaGreatDoorEnv
import Derived.Test.YtoemahhpheobkaaGreatDoorRows
import Derived.ProofKit
import Derived.LaidMore
import Derived.OpenShut
import Derived.ChangeOld
import Derived.Stop.Joined
namespace Go.Proofs.YtoemahhpheobkaaGreatDoor
open Go.ChangeShapes Go.WideShapes Go.ChangeAt Go.RowKit

theorem ownK : ownKnob Tryz.prog.godebug = none := by kernel_rfl
theorem laidOutB' : laidOutB Tryz.prog = true := by kernel_rfl
end Go.Proofs.YtoemahhpheobkaaGreatDoor
