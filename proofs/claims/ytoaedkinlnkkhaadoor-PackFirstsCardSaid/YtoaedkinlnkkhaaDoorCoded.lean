/- The statements' function 'coded' answers whether an error has a number. Condition: the variables read as listed. -/
import Derived.Test.YtoaedkinlnkkhaaDoorEnv
namespace Go.Proofs.YtoaedkinlnkkhaaDoor
open Go.RowKit
/-- The sentinels by their numbers, as far as they are there (a 0 stands for one that is not). -/
def codeGs : List Nat := [2, 1, 4, 5, 8, 0, 3, 7, 6, 9, 0, 0, 0]


end Go.Proofs.YtoaedkinlnkkhaaDoor
