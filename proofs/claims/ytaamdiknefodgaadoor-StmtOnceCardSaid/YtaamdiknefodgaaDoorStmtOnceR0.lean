/- StmtOnce: the runs of some cases. -/
import Derived.Test.YtaamdiknefodgaaDoorStmtOnceC
namespace Go.Proofs.YtaamdiknefodgaaDoor.stmtOnce
open Go.RowKit Go.Proofs.YtaamdiknefodgaaDoor.Am
set_option linter.unusedVariables false
set_option linter.unusedSectionVars false
set_option maxRecDepth 100000
theorem run1 : cases1.all all = true := by kernel_rfl
theorem run10 : (casesP 1 0).all all = true := by kernel_rfl
theorem run20 : (casesP 2 0).all all = true := by kernel_rfl
theorem run21 : (casesP 2 1).all all = true := by kernel_rfl
end Go.Proofs.YtaamdiknefodgaaDoor.stmtOnce
