/- The statements' function 'coded' answers whether an error has a number. Condition: the variables read as listed. -/
import Derived.Test.YthnlaigabefidaaDoorEnv
namespace Go.Proofs.YthnlaigabefidaaDoor
open Go.RowKit
/-- The sentinels by their numbers, as far as they are there (a 0 stands for one that is not). -/
def codeGs : List Nat := [7, 6, 5, 4, 0, 1, 0, 3, 2, 8, 0, 0, 0]


end Go.Proofs.YthnlaigabefidaaDoor
