/- TextHead: the law answers true for every function and two numbers. -/
import Derived.Test.YtglmonlofejcgaaDoorLines
import Derived.Test.YtglmonlofejcgaaDoorTextAl
namespace Go.Proofs.YtglmonlofejcgaaDoor.txt
open Go.RowKit Go.Proofs.YtglmonlofejcgaaDoor Go.Proofs.YtglmonlofejcgaaDoor.Am Go.Proofs.YtglmonlofejcgaaDoor.loan Go.Proofs.YtglmonlofejcgaaDoor.bld
set_option linter.unusedVariables false
def YesH (w : World) (e : Ending) (w' : World) : Prop := e = .returned (.bool true) ∧ Below w.heap.size w w'
structure One (w : World) (D : FnD) (W : World) : Prop where
 b : Below w.heap.size w W
 x : Box W w.heap.size tFn (.int .i64 D.p) (.bool D.u) D.lv D.bv
theorem One.below {w W W' : World} {D : FnD} (h : One w D W) (hb : Below W.heap.size W W') : One w D W' := ⟨h.b.trans (hb.mono h.b.size), h.x.below hb⟩
theorem strs_flat : ∀ ls : List (List UInt8), (ls.map fun l => [Value.string ⟨l.toArray⟩]).flatten = strsV ls
 | [] => rfl
 | a :: l => by rw [List.map_cons, List.flatten_cons, strs_flat l]; rfl
theorem lines_of {D : FnD} (hL : Lim D) (n : Int) (W : World) : Calls Tryd.prog 10 #[.string ⟨(textF D n).toArray⟩] W fun e w' => ∃ s, e = .returned (.tuple #[s, .bool true]) ∧ w'.ownsRow W.heap.size tS1 1 s (linesF D n).length (strsV (linesF D n)) ∧ Below W.heap.size W w' :=
 lawlines_c (no_lines D n) (by have h1 := linB_cnt hL n D.bs.length; have h2 := hL.b; have h3 : (linesF D n).length ≤ 17 + 26 * D.bs.length := h1; omega) (by have := textF_lim hL n; have h4 : (nl (linesF D n)).length ≤ 1000000 := this; omega)
end Go.Proofs.YtglmonlofejcgaaDoor.txt
