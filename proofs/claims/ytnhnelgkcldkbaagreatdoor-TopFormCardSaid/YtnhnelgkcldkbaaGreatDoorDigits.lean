/- The reference's Digits: a number to the base 10. -/
import Derived.Test.YtnhnelgkcldkbaaGreatDoorReg
import Derived.Test.YtnhnelgkcldkbaaGreatDoorTests5
set_option linter.all false
namespace Go.Proofs.YtnhnelgkcldkbaaGreatDoor
open Go.RowKit
