/- Runs of place.Read and the reference's Read at 16 of the 96 texts, by the kernel. -/
import Derived.Test.YtncbkjokabgkbaaDoorReadRuns
namespace Go.Proofs.YtncbkjokabgkbaaDoor.Am
open Go.RowKit
set_option maxRecDepth 100000
theorem own32 : ([(5, false, 2), (5, true, 0), (5, true, 1), (5, true, 2)].all ownAt) = true := by kernel_rfl
theorem own36 : ([(6, false, 0), (6, false, 1), (6, false, 2), (6, true, 0)].all ownAt) = true := by kernel_rfl
theorem own40 : ([(6, true, 1), (6, true, 2), (7, false, 0), (7, false, 1)].all ownAt) = true := by kernel_rfl
theorem own44 : ([(7, false, 2), (7, true, 0), (7, true, 1), (7, true, 2)].all ownAt) = true := by kernel_rfl
theorem ref32 : refAt (5, false, 2) = true := by kernel_rfl
theorem ref33 : refAt (5, true, 0) = true := by kernel_rfl
theorem ref34 : refAt (5, true, 1) = true := by kernel_rfl
theorem ref35 : refAt (5, true, 2) = true := by kernel_rfl
theorem ref36 : refAt (6, false, 0) = true := by kernel_rfl
theorem ref37 : refAt (6, false, 1) = true := by kernel_rfl
theorem ref38 : refAt (6, false, 2) = true := by kernel_rfl
theorem ref39 : refAt (6, true, 0) = true := by kernel_rfl
theorem ref40 : refAt (6, true, 1) = true := by kernel_rfl
theorem ref41 : refAt (6, true, 2) = true := by kernel_rfl
theorem ref42 : refAt (7, false, 0) = true := by kernel_rfl
theorem ref43 : refAt (7, false, 1) = true := by kernel_rfl
theorem ref44 : refAt (7, false, 2) = true := by kernel_rfl
theorem ref45 : refAt (7, true, 0) = true := by kernel_rfl
theorem ref46 : refAt (7, true, 1) = true := by kernel_rfl
theorem ref47 : refAt (7, true, 2) = true := by kernel_rfl
end Go.Proofs.YtncbkjokabgkbaaDoor.Am
