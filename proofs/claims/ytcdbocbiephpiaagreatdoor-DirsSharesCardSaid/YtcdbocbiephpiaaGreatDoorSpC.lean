/- The contracts of space.Copy and of stillroomref2.NeedOf; Used of a copy. Condition: the receiver is a space that New gave. -/
import Derived.Test.YtcdbocbiephpiaaGreatDoorSp5
import Derived.Test.YtcdbocbiephpiaaGreatDoorApp
import Derived.WalkSpells
import Derived.Laws.Cover3
namespace Go.Proofs.YtcdbocbiephpiaaGreatDoor
open Go.RowKit
@[go_sem] theorem run_eql_slice_nil {P : Program} (w : World) (t e : TypeId) (a : Option Addr) (l c : Nat) (h : P.underlying t = some (.slice e)) : (Go.binOp .eql t (.slice a l c) (.slice none 0 0)).run P w = .ok (.bool a.isNone) w := by
  simp only [Go.binOp]
  simp [Go.run_equal_slice_nil w t e a l c h]

end Go.Proofs.YtcdbocbiephpiaaGreatDoor
