/- pawnshopref07.Twin: a copy of a function that shares no memory. -/
import Derived.Test.YtglmonlofejcgaaDoorLoanK
import Derived.Test.YtglmonlofejcgaaDoorCore
import Derived.Test.YtglmonlofejcgaaDoorProg
import Derived.Deep.DeepCutAuto
import Derived.Deep.LoopGhost
namespace Go.Proofs.YtglmonlofejcgaaDoor.twin
open Go.RowKit Go.Proofs.YtglmonlofejcgaaDoor Go.Proofs.YtglmonlofejcgaaDoor.Am
set_option linter.unusedVariables false
set_option linter.unusedSectionVars false
def own2 (b : BlkD) : List Nat := blkOf b.s ++ blkOf b.a
end Go.Proofs.YtglmonlofejcgaaDoor.twin
