/- The contracts of tree.Count, Size and Files. Condition: the tree is there, the variables read as listed. -/
import Derived.Test.YthnlaigabefidaaDoorTrH
import Derived.Test.YthnlaigabefidaaDoorTxt
namespace Go.Proofs.YthnlaigabefidaaDoor
open Go.RowKit Go.Shelf
end Go.Proofs.YthnlaigabefidaaDoor
