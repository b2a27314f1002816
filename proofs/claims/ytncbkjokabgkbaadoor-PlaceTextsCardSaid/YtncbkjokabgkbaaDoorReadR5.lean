/- Runs of place.Read and the reference's Read at 16 of the 96 texts, by the kernel. -/
import Derived.Test.YtncbkjokabgkbaaDoorReadRuns
namespace Go.Proofs.YtncbkjokabgkbaaDoor.Am
open Go.RowKit
set_option maxRecDepth 100000
theorem own80 : ([(13, false, 2), (13, true, 0), (13, true, 1), (13, true, 2)].all ownAt) = true := by kernel_rfl
theorem own84 : ([(14, false, 0), (14, false, 1), (14, false, 2), (14, true, 0)].all ownAt) = true := by kernel_rfl
theorem own88 : ([(14, true, 1), (14, true, 2), (15, false, 0), (15, false, 1)].all ownAt) = true := by kernel_rfl
theorem own92 : ([(15, false, 2), (15, true, 0), (15, true, 1), (15, true, 2)].all ownAt) = true := by kernel_rfl
theorem ref80 : refAt (13, false, 2) = true := by kernel_rfl
theorem ref81 : refAt (13, true, 0) = true := by kernel_rfl
theorem ref82 : refAt (13, true, 1) = true := by kernel_rfl
theorem ref83 : refAt (13, true, 2) = true := by kernel_rfl
theorem ref84 : refAt (14, false, 0) = true := by kernel_rfl
theorem ref85 : refAt (14, false, 1) = true := by kernel_rfl
theorem ref86 : refAt (14, false, 2) = true := by kernel_rfl
theorem ref87 : refAt (14, true, 0) = true := by kernel_rfl
theorem ref88 : refAt (14, true, 1) = true := by kernel_rfl
theorem ref89 : refAt (14, true, 2) = true := by kernel_rfl
theorem ref90 : refAt (15, false, 0) = true := by kernel_rfl
theorem ref91 : refAt (15, false, 1) = true := by kernel_rfl
theorem ref92 : refAt (15, false, 2) = true := by kernel_rfl
theorem ref93 : refAt (15, true, 0) = true := by kernel_rfl
theorem ref94 : refAt (15, true, 1) = true := by kernel_rfl
theorem ref95 : refAt (15, true, 2) = true := by kernel_rfl
end Go.Proofs.YtncbkjokabgkbaaDoor.Am
