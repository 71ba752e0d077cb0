/- The contract of the document's ReadTree. Condition: the text's size fits. -/
import Derived.Test.YtoaedkinlnkkhaaDoorPk3
namespace Go.Proofs.YtoaedkinlnkkhaaDoor
open Go.RowKit
/-- What a text read as a tree says. -/
def readP (s : ByteArray) : Except Nat Nd := if 20000 < s.size then .error 2 else match nodeP 9 0 s.data.toList with
  | .error e => .error e
  | .ok (x, _, r) => if r.length ≠ 0 then .error 1 else if treeE x = 0 then .ok x else .error (treeE x)
end Go.Proofs.YtoaedkinlnkkhaaDoor
