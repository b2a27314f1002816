/- PlaceHalves: the law's runs, a case each, by the kernel: true. -/
import Derived.Test.YtncbkjokabgkbaaDoorPlaceHalvesC
namespace Go.Proofs.YtncbkjokabgkbaaDoor.placeHalves
open Go.RowKit Go.Proofs.YtncbkjokabgkbaaDoor.Am
set_option maxHeartbeats 20000000
set_option maxRecDepth 100000
theorem run0 : ls0.all good = true := by kernel_rfl
end Go.Proofs.YtncbkjokabgkbaaDoor.placeHalves
