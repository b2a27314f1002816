/- PlaceTells: the cases of its arguments. -/
import Derived.Test.YtncbkjokabgkbaaDoorAmLeaf
import Derived.Test.YtncbkjokabgkbaaDoorOrc
namespace Go.Proofs.YtncbkjokabgkbaaDoor.placeTells
open Go.RowKit Go.Proofs.YtncbkjokabgkbaaDoor.Am
set_option maxHeartbeats 20000000
set_option maxRecDepth 100000
def gs : List Gp := [(true, [.i .i64, .b, .i .u8]), (true, [.i .i64, .b, .i .u8])]
def sp : Sp := (.cut 0 0 (.cut 3 0 .leaf (.cut 3 16 (.cut 5 3 .leaf .leaf) .leaf)) (.cut 0 16 (.cut 2 3 (.cut 2 1 (.cut 3 0 .leaf (.cut 3 16 (.cut 5 3 (.cut 1 1 (.eqs 0 3 (.cut 4 1 (.cut 5 1 .leaf (.cut 5 2 .leaf .leaf)) (.cut 5 2 (.cut 5 1 .leaf .leaf) .leaf)) (.cut 5 2 (.cut 5 1 .leaf .leaf) .leaf)) (.eqs 0 3 (.cut 4 1 (.cut 5 2 (.cut 5 1 .leaf .leaf) .leaf) (.cut 5 1 .leaf (.cut 5 2 .leaf .leaf))) (.cut 5 2 (.cut 5 1 .leaf .leaf) .leaf))) .leaf) .leaf)) (.cut 2 2 (.cut 3 0 .leaf (.cut 3 16 (.cut 5 3 (.cut 1 1 (.eqs 0 3 (.cut 4 1 (.cut 5 1 .leaf (.cut 5 2 .leaf .leaf)) (.cut 5 2 (.cut 5 1 .leaf .leaf) .leaf)) (.cut 5 2 (.cut 5 1 .leaf .leaf) .leaf)) (.eqs 0 3 (.cut 4 1 (.cut 5 2 (.cut 5 1 .leaf .leaf) .leaf) (.cut 5 1 .leaf (.cut 5 2 .leaf .leaf))) (.cut 5 2 (.cut 5 1 .leaf .leaf) .leaf))) .leaf) .leaf)) (.cut 3 0 .leaf (.cut 3 16 (.cut 5 3 (.cut 1 1 (.eqs 0 3 (.cut 4 1 (.cut 5 1 .leaf (.cut 5 2 .leaf .leaf)) (.cut 5 2 (.cut 5 1 .leaf .leaf) .leaf)) (.cut 5 2 (.cut 5 1 .leaf .leaf) .leaf)) (.eqs 0 3 (.cut 4 1 (.cut 5 2 (.cut 5 1 .leaf .leaf) .leaf) (.cut 5 1 .leaf (.cut 5 2 .leaf .leaf))) (.cut 5 2 (.cut 5 1 .leaf .leaf) .leaf))) .leaf) .leaf)))) (.cut 3 0 .leaf (.cut 3 16 (.cut 5 3 .leaf .leaf) .leaf))) (.cut 3 0 .leaf (.cut 3 16 (.cut 5 3 .leaf .leaf) .leaf))))
def pls : List Pl := [(0, (1, 2)), (3, (4, 5))]
/-- the law answers true in a case -/
noncomputable def good (L : Lf) : Bool := tells true (@runs (L.know (strsT 0 (kindsT gs))) (tyOf Tryd.prog) (fnOf Tryd.prog) (orcX L (kindsT gs) pls noO) 20 15 3 ((argsT 0 gs).map L.nA) ⟨[], 0⟩ 0)
end Go.Proofs.YtncbkjokabgkbaaDoor.placeTells
