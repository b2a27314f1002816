/- What a law's listed variables give: the two errors of strconv lie where the program laid them. -/
import Derived.Test.YtncbkjokabgkbaaDoorSeat
import Derived.Test.YtncbkjokabgkbaaDoorLe
namespace Go.Proofs.YtncbkjokabgkbaaDoor.Am
open Go.ChangeShapes Go.WideShapes Go.ChangeAt Go.RowKit

theorem gSyn : Tryd.prog.globalNamed "strconv.ErrSyntax" = some 1 := by kernel_rfl
theorem gRng : Tryd.prog.globalNamed "strconv.ErrRange" = some 2 := by kernel_rfl
theorem tSyn : (Tryd.prog.globals[1]?).map (·.type) = some 97 := by kernel_rfl
theorem tRng : (Tryd.prog.globals[2]?).map (·.type) = some 97 := by kernel_rfl

theorem one_iface {w : World} {n : String} {g : Nat} {b : List UInt8} (hg : Tryd.prog.globalNamed n = some g) (ht : (Tryd.prog.globals[g]?).map (·.type) = some 97)
    (h : Reads Tryd.prog w n (.iface "*errors.errorString" (.ptr (.agg [.lit (.string b)])))) : ∃ t p, w.cell? ⟨g, 0, none⟩ = some (.iface t p) := by
  obtain ⟨g', t', cs, fuel, p, h1, h2, h3, h4⟩ := h
  obtain rfl := Option.some.inj (hg.symm.trans h1)
  obtain rfl := Option.some.inj (ht.symm.trans h2)
  obtain ⟨f1, u, v, e, _⟩ := iface_of_trod Tryd.underlying97 h4
  have hc := World.var?_cell hg h3 0
  refine ⟨u, v, hc.trans ?_⟩
  rw [← Array.getElem?_toList, e]
  rfl
theorem errOk {w : World} {l : List (String × DataW Unit)} (hh : (l.all fun x => x.2.handleName?.isNone) = true)
    (h1 : ("strconv.ErrSyntax", Rows.laid_strconv_ErrSyntax) ∈ l) (h2 : ("strconv.ErrRange", Rows.laid_strconv_ErrRange) ∈ l) (h3 : ("math/bits.deBruijn64tab", Rows.laid_math_bits_deBruijn64tab) ∈ l) (h : laidMetH Tryd.prog l w) : ErrOk w := by
  obtain ⟨g', t', cs, fuel, p, k1, k2, k3, k4⟩ := met_reads hh h h3
  have := var_size gLast k3
  exact ⟨by omega, one_iface gSyn tSyn (met_reads hh h h1), one_iface gRng tRng (met_reads hh h h2)⟩
end Go.Proofs.YtncbkjokabgkbaaDoor.Am
