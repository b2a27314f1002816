/- PlaceMeets: the law's runs, a case each, by the kernel: true. -/
import Derived.Test.YtncbkjokabgkbaaDoorPlaceMeetsC
namespace Go.Proofs.YtncbkjokabgkbaaDoor.placeMeets
open Go.RowKit Go.Proofs.YtncbkjokabgkbaaDoor.Am
set_option maxHeartbeats 20000000
set_option maxRecDepth 100000
theorem run0 : ls0.all good = true := by kernel_rfl
theorem run1 : ls1.all good = true := by kernel_rfl
theorem run2 : ls2.all good = true := by kernel_rfl
theorem run3 : ls3.all good = true := by kernel_rfl
end Go.Proofs.YtncbkjokabgkbaaDoor.placeMeets
