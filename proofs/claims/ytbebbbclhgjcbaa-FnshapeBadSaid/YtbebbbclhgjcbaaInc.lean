/- Increasing: the numbers of the truth values that are true, in order. -/
import Derived.Test.YtbebbbclhgjcbaaKit
import Derived.Test.YtbebbbclhgjcbaaProg
import Derived.Test.YtbebbbclhgjcbaaAmC
namespace Go.Proofs.Ytbebbbclhgjcbaa
open Go.RowKit Go.Proofs.Ytbebbbclhgjcbaa.Am

theorem introw : (Try.prog.info? 3).map (fun i => (i.zero, i.size, i.bytes)) = some (some (.int .i64 0), 1, 8) := by kernel_rfl

namespace Am
end Am
end Go.Proofs.Ytbebbbclhgjcbaa
