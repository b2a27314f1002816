/- Runs of place.Read and the reference's Read at 16 of the 96 texts, by the kernel. -/
import Derived.Test.YtncbkjokabgkbaaDoorReadRuns
namespace Go.Proofs.YtncbkjokabgkbaaDoor.Am
open Go.RowKit
set_option maxRecDepth 100000
theorem own48 : ([(8, false, 0), (8, false, 1), (8, false, 2), (8, true, 0)].all ownAt) = true := by kernel_rfl
theorem own52 : ([(8, true, 1), (8, true, 2), (9, false, 0), (9, false, 1)].all ownAt) = true := by kernel_rfl
theorem own56 : ([(9, false, 2), (9, true, 0), (9, true, 1), (9, true, 2)].all ownAt) = true := by kernel_rfl
theorem own60 : ([(10, false, 0), (10, false, 1), (10, false, 2), (10, true, 0)].all ownAt) = true := by kernel_rfl
theorem ref48 : refAt (8, false, 0) = true := by kernel_rfl
theorem ref49 : refAt (8, false, 1) = true := by kernel_rfl
theorem ref50 : refAt (8, false, 2) = true := by kernel_rfl
theorem ref51 : refAt (8, true, 0) = true := by kernel_rfl
theorem ref52 : refAt (8, true, 1) = true := by kernel_rfl
theorem ref53 : refAt (8, true, 2) = true := by kernel_rfl
theorem ref54 : refAt (9, false, 0) = true := by kernel_rfl
theorem ref55 : refAt (9, false, 1) = true := by kernel_rfl
theorem ref56 : refAt (9, false, 2) = true := by kernel_rfl
theorem ref57 : refAt (9, true, 0) = true := by kernel_rfl
theorem ref58 : refAt (9, true, 1) = true := by kernel_rfl
theorem ref59 : refAt (9, true, 2) = true := by kernel_rfl
theorem ref60 : refAt (10, false, 0) = true := by kernel_rfl
theorem ref61 : refAt (10, false, 1) = true := by kernel_rfl
theorem ref62 : refAt (10, false, 2) = true := by kernel_rfl
theorem ref63 : refAt (10, true, 0) = true := by kernel_rfl
end Go.Proofs.YtncbkjokabgkbaaDoor.Am
