/- Increasing: the numbers of the truth values that are true, in order. -/
import Derived.Test.YtmljjflimiakfaaDoorKit
import Derived.Test.YtmljjflimiakfaaDoorProg
import Derived.Test.YtmljjflimiakfaaDoorAmC
namespace Go.Proofs.YtmljjflimiakfaaDoor
open Go.RowKit Go.Proofs.YtmljjflimiakfaaDoor.Am

theorem introw : (Tryd.prog.info? 3).map (fun i => (i.zero, i.size, i.bytes)) = some (some (.int .i64 0), 1, 8) := by kernel_rfl

namespace Am
end Am
end Go.Proofs.YtmljjflimiakfaaDoor
