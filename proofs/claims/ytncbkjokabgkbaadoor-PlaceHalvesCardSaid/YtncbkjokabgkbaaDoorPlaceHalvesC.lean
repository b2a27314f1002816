/- PlaceHalves: the cases of its arguments. -/
import Derived.Test.YtncbkjokabgkbaaDoorAmLeaf
import Derived.Test.YtncbkjokabgkbaaDoorAlive03
namespace Go.Proofs.YtncbkjokabgkbaaDoor.placeHalves
open Go.RowKit Go.Proofs.YtncbkjokabgkbaaDoor.Am
set_option maxHeartbeats 20000000
set_option maxRecDepth 100000
def gs : List Gp := [(true, [.i .i64, .b, .i .u8])]
def sp : Sp := (.cut 0 0 .leaf (.cut 0 16 (.cut 2 3 (.cut 1 1 .leaf .leaf) .leaf) .leaf))
def ls0 : List Lf := [⟨[((-9223372036854775808), (-1)), (0, 1), (0, 255)], [], [], [0, 1, 2], [], []⟩, ⟨[(0, 15), (0, 0), (0, 2)], [], [], [0, 1, 2], [], []⟩, ⟨[(0, 15), (1, 1), (0, 2)], [], [], [0, 1, 2], [], []⟩, ⟨[(0, 15), (0, 1), (3, 255)], [], [], [0, 1, 2], [], []⟩, ⟨[(16, 9223372036854775807), (0, 1), (0, 255)], [], [], [0, 1, 2], [], []⟩]
theorem leaves_eq : sp.leaves (Lf.start gs) = ls0 := by kernel_rfl
/-- the law answers true in a case -/
noncomputable def good (L : Lf) : Bool := tells true (@runs (L.know (strsT 0 (kindsT gs))) (tyOf Tryd.prog) (fnOf Tryd.prog) alive03O 100 20 7 ((argsT 0 gs).map L.nA) ⟨[], 0⟩ 0)
end Go.Proofs.YtncbkjokabgkbaaDoor.placeHalves
