/- The reference's Digits: a number to the base 10. -/
import Derived.Test.YtglmonlofejcgaaDoorTwinA
import Derived.Test.YtglmonlofejcgaaDoorLn
import Derived.Test.YtglmonlofejcgaaDoorAmC
import Derived.Below
namespace Go.Proofs.YtglmonlofejcgaaDoor
open Go.RowKit

/-! the digits of a number, and of its tenth -/
end Go.Proofs.YtglmonlofejcgaaDoor
