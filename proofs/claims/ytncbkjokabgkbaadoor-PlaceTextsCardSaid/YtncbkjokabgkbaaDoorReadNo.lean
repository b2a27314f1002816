/- A text that is none of the 96: place.Read and the reference's Read say so: runs, by the kernel. -/
import Derived.Test.YtncbkjokabgkbaaDoorReadRuns
namespace Go.Proofs.YtncbkjokabgkbaaDoor.Am
open Go.RowKit
set_option maxRecDepth 100000
def cT : List CRow := [⟨61, 0, [42], 1, 10⟩, ⟨62, 1, [46, 49], 2, 11⟩, ⟨62, 1, [46, 50], 3, 12⟩, ⟨61, 2, [120], 4, 13⟩, ⟨61, 3, [120], 5, 14⟩, ⟨61, 1, [120], 6, 15⟩]
def aT : List ARow := [⟨4, 16, 19⟩, ⟨5, 17, 20⟩, ⟨6, 18, 21⟩]
def plsR : List Pl := [(16, 10, 22), (17, 10, 23), (18, 10, 24)]
abbrev i64I : Int × Int := (-9223372036854775808, 9223372036854775807)
def ivR : List (Int × Int) := [(0, 1000), (0, 1000), (0, 1000), (0, 1000), (0, 1000), (0, 1000), (0, 1000), (0, 21), (0, 21), (0, 21), (0, 1), (0, 1), (0, 1), (0, 1), (0, 1), (0, 1), i64I, i64I, i64I, (0, 1), (0, 1), (0, 1), (1, 1), (2, 2), (0, 0)]
def noL : Lf := ⟨ivR, [], [], List.range 25, [], (triples.map fun t => (0, (placeT t.1 t.2.1 t.2.2).map UInt8.toNat)) ++ [(0, [263]), (0, [264]), (0, [265])], []⟩
def ssR : List Nat := [0, 1, 2, 3, 4, 5, 6]
def spR : Sp := (.cut 11 1 (.cut 12 1 (.cut 21 1 (.cut 15 1 .leaf .leaf) (.cut 15 1 .leaf (.cut 18 0 .leaf (.cut 18 16 .leaf .leaf)))) (.cut 20 1 (.cut 14 1 .leaf .leaf) (.cut 14 1 .leaf (.cut 17 0 .leaf (.cut 17 16 .leaf .leaf))))) (.cut 19 1 (.cut 13 1 .leaf .leaf) (.cut 13 1 .leaf (.cut 16 0 .leaf (.cut 16 16 .leaf .leaf)))))
noncomputable def orcR (L : Lf) : Oracle := fun f a h fl => orR (cutPO cT f a h fl) (orR (cutSO cT f a h fl) (orR (atoiXO (L.know ssR) aT f a h fl) (plO L 7 plsR f a h fl)))
noncomputable abbrev runN (f : FuncId) (L : Lf) : R := @runs (L.know ssR) (tyOf Tryd.prog) (fnOf Tryd.prog) (orcR L) 100 20 f [.s (.xs [256])] ⟨[], 0⟩ 0
def noV : V := .t [.g [.int .i64 0, .bool false, .int .u8 0], .s (.int .i64 12)]
theorem own_no : ((spR.leaves noL).all fun L => sayV noV (runN 30 L)) = true := by kernel_rfl
theorem ref_no : sayV noV (runN 31 noL) = true := by kernel_rfl
end Go.Proofs.YtncbkjokabgkbaaDoor.Am
