/- The reference's Digits: a number to the base 10. -/
import Derived.Test.YtnhnelgkcldkbaaGreatDoorKit2
import Derived.Test.YtnhnelgkcldkbaaGreatDoorLn
import Derived.Test.YtnhnelgkcldkbaaGreatDoorAmC
import Derived.Below
namespace Go.Proofs.YtnhnelgkcldkbaaGreatDoor
open Go.RowKit

/-! the digits of a number, and of its tenth -/
end Go.Proofs.YtnhnelgkcldkbaaGreatDoor
