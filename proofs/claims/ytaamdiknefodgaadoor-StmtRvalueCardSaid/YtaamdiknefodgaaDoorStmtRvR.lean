/- StmtRvalue: the runs of its cases. -/
import Derived.Test.YtaamdiknefodgaaDoorStmtRvC
namespace Go.Proofs.YtaamdiknefodgaaDoor.stmtRvalue
open Go.RowKit Go.Proofs.YtaamdiknefodgaaDoor.Am
set_option maxRecDepth 100000
theorem law0_run : law0 = true := by kernel_rfl
theorem law3_run : law3 = true := by kernel_rfl
theorem a1_loop : (cases1.all loopOk) = true := by kernel_rfl
theorem a1_law : (cases1.all lawOk) = true := by kernel_rfl
theorem a2_loop : ((cases2 2).all loopOk) = true := by kernel_rfl
theorem a2_law : ((cases2 2).all lawOk) = true := by kernel_rfl
theorem a4_loop : ((cases2 4).all loopOk) = true := by kernel_rfl
theorem a4_law : ((cases2 4).all lawOk) = true := by kernel_rfl
theorem a5_loop : ((cases5 5).all loopOk) = true := by kernel_rfl
theorem a5_law : ((cases5 5).all lawOk) = true := by kernel_rfl
theorem a6_loop : ((cases5 6).all loopOk) = true := by kernel_rfl
theorem a6_law : ((cases5 6).all lawOk) = true := by kernel_rfl
end Go.Proofs.YtaamdiknefodgaaDoor.stmtRvalue
