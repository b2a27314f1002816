/- What fnshape.Calls answers. -/
import Derived.Test.YtglmonlofejcgaaGreatDoorFn28
set_option maxRecDepth 100000
set_option linter.unusedVariables false
set_option linter.unusedSectionVars false
namespace Go.Proofs.YtglmonlofejcgaaGreatDoor
namespace callsF
open Go.RowKit Am
section
variable {w : World} {v : Value} {D : FnD} (h : aV w v D)
include h
end
end callsF
end Go.Proofs.YtglmonlofejcgaaGreatDoor
