/- The contract of tree.each, over any function value that keeps a promise. Condition: as stated. -/
import Derived.Test.YthnlaigabefidaaDoorTrC
import Derived.Lib.MinMaxS
namespace Go.Proofs.YthnlaigabefidaaDoor
open Go.RowKit Go.Shelf
end Go.Proofs.YthnlaigabefidaaDoor
