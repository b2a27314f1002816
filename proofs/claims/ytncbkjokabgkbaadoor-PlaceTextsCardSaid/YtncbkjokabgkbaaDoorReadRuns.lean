/- What place.Read and the reference's Read answer at the 96 texts: what is asked of each. -/
import Derived.Test.YtncbkjokabgkbaaDoorReads
namespace Go.Proofs.YtncbkjokabgkbaaDoor.Am
open Go.RowKit
set_option maxRecDepth 100000
noncomputable abbrev runT (f : FuncId) (s : List UInt8) : R := @runs Know.nought (tyOf Tryd.prog) (fnOf Tryd.prog) bothO 100 20 f [.s (.str s)] ⟨[], 0⟩ 0
def readV (t : Nat × Bool × Nat) : V := .t [.g [.int .i64 t.1, .bool t.2.1, .int .u8 t.2.2], .s (.int .i64 0)]
noncomputable def ownAt (t : Nat × Bool × Nat) : Bool := sayV (readV t) (runT 30 (placeT t.1 t.2.1 t.2.2))
noncomputable def refAt (t : Nat × Bool × Nat) : Bool := sayV (readV t) (runT 31 (placeT t.1 t.2.1 t.2.2))
end Go.Proofs.YtncbkjokabgkbaaDoor.Am
