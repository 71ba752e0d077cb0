/- The contract of tree.Files. Condition: the tree is there, the variables read as listed. -/
import Derived.Test.YthnlaigabefidaaDoorTrJ
namespace Go.Proofs.YthnlaigabefidaaDoor
open Go.RowKit Go.Shelf
end Go.Proofs.YthnlaigabefidaaDoor
