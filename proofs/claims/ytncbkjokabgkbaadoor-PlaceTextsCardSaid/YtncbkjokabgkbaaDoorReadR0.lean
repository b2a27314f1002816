/- Runs of place.Read and the reference's Read at 16 of the 96 texts, by the kernel. -/
import Derived.Test.YtncbkjokabgkbaaDoorReadRuns
namespace Go.Proofs.YtncbkjokabgkbaaDoor.Am
open Go.RowKit
set_option maxRecDepth 100000
theorem own0 : ([(0, false, 0), (0, false, 1), (0, false, 2), (0, true, 0)].all ownAt) = true := by kernel_rfl
theorem own4 : ([(0, true, 1), (0, true, 2), (1, false, 0), (1, false, 1)].all ownAt) = true := by kernel_rfl
theorem own8 : ([(1, false, 2), (1, true, 0), (1, true, 1), (1, true, 2)].all ownAt) = true := by kernel_rfl
theorem own12 : ([(2, false, 0), (2, false, 1), (2, false, 2), (2, true, 0)].all ownAt) = true := by kernel_rfl
theorem ref0 : refAt (0, false, 0) = true := by kernel_rfl
theorem ref1 : refAt (0, false, 1) = true := by kernel_rfl
theorem ref2 : refAt (0, false, 2) = true := by kernel_rfl
theorem ref3 : refAt (0, true, 0) = true := by kernel_rfl
theorem ref4 : refAt (0, true, 1) = true := by kernel_rfl
theorem ref5 : refAt (0, true, 2) = true := by kernel_rfl
theorem ref6 : refAt (1, false, 0) = true := by kernel_rfl
theorem ref7 : refAt (1, false, 1) = true := by kernel_rfl
theorem ref8 : refAt (1, false, 2) = true := by kernel_rfl
theorem ref9 : refAt (1, true, 0) = true := by kernel_rfl
theorem ref10 : refAt (1, true, 1) = true := by kernel_rfl
theorem ref11 : refAt (1, true, 2) = true := by kernel_rfl
theorem ref12 : refAt (2, false, 0) = true := by kernel_rfl
theorem ref13 : refAt (2, false, 1) = true := by kernel_rfl
theorem ref14 : refAt (2, false, 2) = true := by kernel_rfl
theorem ref15 : refAt (2, true, 0) = true := by kernel_rfl
end Go.Proofs.YtncbkjokabgkbaaDoor.Am
