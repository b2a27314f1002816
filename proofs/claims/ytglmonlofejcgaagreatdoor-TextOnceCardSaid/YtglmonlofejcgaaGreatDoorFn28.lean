/- fnshape.Calls, as the machine runs it. -/
import Derived.Test.YtglmonlofejcgaaGreatDoorTextX
set_option maxRecDepth 100000
set_option linter.unusedVariables false
set_option linter.unusedSectionVars false
namespace Go.Proofs.YtglmonlofejcgaaGreatDoor
namespace callsF
open Go.RowKit Am
end callsF
end Go.Proofs.YtglmonlofejcgaaGreatDoor
