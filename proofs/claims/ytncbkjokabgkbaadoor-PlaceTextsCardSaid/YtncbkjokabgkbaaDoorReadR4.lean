/- Runs of place.Read and the reference's Read at 16 of the 96 texts, by the kernel. -/
import Derived.Test.YtncbkjokabgkbaaDoorReadRuns
namespace Go.Proofs.YtncbkjokabgkbaaDoor.Am
open Go.RowKit
set_option maxRecDepth 100000
theorem own64 : ([(10, true, 1), (10, true, 2), (11, false, 0), (11, false, 1)].all ownAt) = true := by kernel_rfl
theorem own68 : ([(11, false, 2), (11, true, 0), (11, true, 1), (11, true, 2)].all ownAt) = true := by kernel_rfl
theorem own72 : ([(12, false, 0), (12, false, 1), (12, false, 2), (12, true, 0)].all ownAt) = true := by kernel_rfl
theorem own76 : ([(12, true, 1), (12, true, 2), (13, false, 0), (13, false, 1)].all ownAt) = true := by kernel_rfl
theorem ref64 : refAt (10, true, 1) = true := by kernel_rfl
theorem ref65 : refAt (10, true, 2) = true := by kernel_rfl
theorem ref66 : refAt (11, false, 0) = true := by kernel_rfl
theorem ref67 : refAt (11, false, 1) = true := by kernel_rfl
theorem ref68 : refAt (11, false, 2) = true := by kernel_rfl
theorem ref69 : refAt (11, true, 0) = true := by kernel_rfl
theorem ref70 : refAt (11, true, 1) = true := by kernel_rfl
theorem ref71 : refAt (11, true, 2) = true := by kernel_rfl
theorem ref72 : refAt (12, false, 0) = true := by kernel_rfl
theorem ref73 : refAt (12, false, 1) = true := by kernel_rfl
theorem ref74 : refAt (12, false, 2) = true := by kernel_rfl
theorem ref75 : refAt (12, true, 0) = true := by kernel_rfl
theorem ref76 : refAt (12, true, 1) = true := by kernel_rfl
theorem ref77 : refAt (12, true, 2) = true := by kernel_rfl
theorem ref78 : refAt (13, false, 0) = true := by kernel_rfl
theorem ref79 : refAt (13, false, 1) = true := by kernel_rfl
end Go.Proofs.YtncbkjokabgkbaaDoor.Am
