/- A program among the arguments: its functions, each with its data. -/
import Derived.Test.YtglmonlofejcgaaDoorFn1
import Derived.Test.YtglmonlofejcgaaDoorLoanK
namespace Go.Proofs.YtglmonlofejcgaaDoor.Am
open Go.RowKit Go.ChangeShapes Go.WideShapes Go.Deep Go.Proofs.YtglmonlofejcgaaDoor.loan
set_option linter.unusedVariables false
set_option linter.unusedSectionVars false
def FnD.cells (D : FnD) : List Value := [.int .i64 D.p, .bool D.u, D.lv, D.bv]
structure ProgOk (w : World) (v fv : Value) (Ds : List FnD) : Prop where
 eq : v = .agg #[fv]
 fns : ListAt w fv 4 (Ds.map FnD.cells)
 fn : ∀ D ∈ Ds, FnOk' w (.agg #[.int .i64 D.p, .bool D.u, D.lv, D.bv]) D
theorem ProgOk.frz {w w' : World} {v fv : Value} {Ds : List FnD} (h : ProgOk w v fv Ds) (hw : ∀ k, k < w.heap.size → w'.heap[k]? = w.heap[k]?) : ProgOk w' v fv Ds :=
 ⟨h.eq, h.fns.frz hw, fun D hD => (h.fn D hD).frz hw⟩
theorem ProgOk.below {w w' : World} {v fv : Value} {Ds : List FnD} (h : ProgOk w v fv Ds) (hb : Below w.heap.size w w') : ProgOk w' v fv Ds := h.frz hb.block
theorem ProgOk.rows {w : World} {v fv : Value} {Ds : List FnD} (h : ProgOk w v fv Ds) : ∃ A c, v = .agg #[.slice A Ds.length c] ∧ fv = .slice A Ds.length c ∧ (Ds.length : Int) ≤ 9223372036854775807 ∧ RowsAt w A 4 (Ds.map FnD.cells) := by
 obtain ⟨A, c, e, hm, hr⟩ := ListAt.rows h.fns (by decide)
 rw [List.length_map] at e hm
 exact ⟨A, c, by rw [h.eq, e], e, hm, hr⟩
end Go.Proofs.YtglmonlofejcgaaDoor.Am
