/- PlaceOrder: the law's runs, a case each, by the kernel: true. -/
import Derived.Test.YtncbkjokabgkbaaDoorPlaceOrderC
namespace Go.Proofs.YtncbkjokabgkbaaDoor.placeOrder
open Go.RowKit Go.Proofs.YtncbkjokabgkbaaDoor.Am
set_option maxHeartbeats 20000000
set_option maxRecDepth 100000
theorem run0 : ls0.all good = true := by kernel_rfl
theorem run1 : ls1.all good = true := by kernel_rfl
theorem run2 : ls2.all good = true := by kernel_rfl
theorem run3 : ls3.all good = true := by kernel_rfl
theorem run4 : ls4.all good = true := by kernel_rfl
theorem run5 : ls5.all good = true := by kernel_rfl
theorem run6 : ls6.all good = true := by kernel_rfl
theorem run7 : ls7.all good = true := by kernel_rfl
theorem run8 : ls8.all good = true := by kernel_rfl
theorem run9 : ls9.all good = true := by kernel_rfl
end Go.Proofs.YtncbkjokabgkbaaDoor.placeOrder
