/- What the frames of this seat's laws ask of the program. -/
import Derived.Test.YtbebbbclhgjcbaaRows
import Derived.Test.YtbebbbclhgjcbaaAmB
import Derived.WalkKit
import Derived.ProofKit
import Derived.OpenShut
import Derived.ShutString
import Derived.ChangeOld
import Derived.Below
namespace Go.Proofs.Ytbebbbclhgjcbaa.Am
open Go.ChangeShapes Go.WideShapes Go.ChangeAt Go.RowKit
theorem own : ownKnob Try.prog.godebug = none := by kernel_rfl
theorem laidOut : laidOutB Try.prog = true := by kernel_rfl
end Go.Proofs.Ytbebbbclhgjcbaa.Am
