/- The contract of disk.turned. Condition: the bit lies in the text. -/
import Derived.Test.YtmcmkocnacdniaaDoorB
import Derived.Test.YtmcmkocnacdniaaDoorDkP
import Derived.Test.YtmcmkocnacdniaaDoorProg
import Derived.Laws.BitsAll
import Derived.Laws.BitsAllLaws
import Derived.Laws.IdiomStrings
import Derived.Lib.ConvBytes
import Derived.RegionTactic
import Derived.BigRegion
namespace Go.Proofs.YtmcmkocnacdniaaDoor
open Go.RowKit
end Go.Proofs.YtmcmkocnacdniaaDoor
