/- What the frames of this seat's laws ask of the program. -/
import Derived.Test.YthdcahkedlijpaaGreatRows
import Derived.Test.YthdcahkedlijpaaGreatAmB
import Derived.WalkKit
import Derived.ProofKit
import Derived.OpenShut
import Derived.ShutString
import Derived.ChangeOld
import Derived.Below
namespace Go.Proofs.YthdcahkedlijpaaGreat.Am
open Go.ChangeShapes Go.WideShapes Go.ChangeAt Go.RowKit
theorem own : ownKnob Tryz.prog.godebug = none := by kernel_rfl
theorem laidOut : laidOutB Tryz.prog = true := by kernel_rfl
end Go.Proofs.YthdcahkedlijpaaGreat.Am
