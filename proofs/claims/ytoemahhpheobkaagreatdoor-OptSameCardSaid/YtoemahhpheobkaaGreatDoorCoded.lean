/- The statements' function 'coded' answers whether an error has a number. Condition: the variables read as listed. -/
import Derived.Test.YtoemahhpheobkaaGreatDoorEnv
namespace Go.Proofs.YtoemahhpheobkaaGreatDoor
open Go.RowKit
/-- The sentinels by their numbers, as far as they are there (a 0 stands for one that is not). -/
def codeGs : List Nat := [8, 4, 2, 7, 5, 1, 0, 0, 6, 9, 0, 0, 0]


end Go.Proofs.YtoemahhpheobkaaGreatDoor
