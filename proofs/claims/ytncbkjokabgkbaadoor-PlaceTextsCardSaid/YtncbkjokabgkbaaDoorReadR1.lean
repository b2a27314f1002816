/- Runs of place.Read and the reference's Read at 16 of the 96 texts, by the kernel. -/
import Derived.Test.YtncbkjokabgkbaaDoorReadRuns
namespace Go.Proofs.YtncbkjokabgkbaaDoor.Am
open Go.RowKit
set_option maxRecDepth 100000
theorem own16 : ([(2, true, 1), (2, true, 2), (3, false, 0), (3, false, 1)].all ownAt) = true := by kernel_rfl
theorem own20 : ([(3, false, 2), (3, true, 0), (3, true, 1), (3, true, 2)].all ownAt) = true := by kernel_rfl
theorem own24 : ([(4, false, 0), (4, false, 1), (4, false, 2), (4, true, 0)].all ownAt) = true := by kernel_rfl
theorem own28 : ([(4, true, 1), (4, true, 2), (5, false, 0), (5, false, 1)].all ownAt) = true := by kernel_rfl
theorem ref16 : refAt (2, true, 1) = true := by kernel_rfl
theorem ref17 : refAt (2, true, 2) = true := by kernel_rfl
theorem ref18 : refAt (3, false, 0) = true := by kernel_rfl
theorem ref19 : refAt (3, false, 1) = true := by kernel_rfl
theorem ref20 : refAt (3, false, 2) = true := by kernel_rfl
theorem ref21 : refAt (3, true, 0) = true := by kernel_rfl
theorem ref22 : refAt (3, true, 1) = true := by kernel_rfl
theorem ref23 : refAt (3, true, 2) = true := by kernel_rfl
theorem ref24 : refAt (4, false, 0) = true := by kernel_rfl
theorem ref25 : refAt (4, false, 1) = true := by kernel_rfl
theorem ref26 : refAt (4, false, 2) = true := by kernel_rfl
theorem ref27 : refAt (4, true, 0) = true := by kernel_rfl
theorem ref28 : refAt (4, true, 1) = true := by kernel_rfl
theorem ref29 : refAt (4, true, 2) = true := by kernel_rfl
theorem ref30 : refAt (5, false, 0) = true := by kernel_rfl
theorem ref31 : refAt (5, false, 1) = true := by kernel_rfl
end Go.Proofs.YtncbkjokabgkbaaDoor.Am
