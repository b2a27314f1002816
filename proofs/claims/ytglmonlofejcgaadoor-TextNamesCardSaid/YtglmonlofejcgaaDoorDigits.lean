/- The reference's Digits: a number to the base 10. -/
import Derived.Test.YtglmonlofejcgaaDoorLoanK
import Derived.Test.YtglmonlofejcgaaDoorJump1
import Derived.Test.YtglmonlofejcgaaDoorAmC
import Derived.Below
namespace Go.Proofs.YtglmonlofejcgaaDoor
open Go.RowKit
end Go.Proofs.YtglmonlofejcgaaDoor
