/- What the card asks of the program alone, where no error is asked for its number. No condition. -/
import Derived.Test.YtoaedkinlnkkhaaDoorEnv
import Derived.Test.YtoaedkinlnkkhaaDoorRows
import Derived.ProofKit
import Derived.LaidMore
import Derived.OpenShut
import Derived.ChangeOld
import Derived.Stop.Joined
namespace Go.Proofs.YtoaedkinlnkkhaaDoor
open Go.ChangeShapes Go.WideShapes Go.ChangeAt Go.RowKit

theorem ownK : ownKnob Tryd.prog.godebug = none := by kernel_rfl
theorem laidOutB' : laidOutB Tryd.prog = true := by kernel_rfl
end Go.Proofs.YtoaedkinlnkkhaaDoor
