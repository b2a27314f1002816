/- TextLines where the function is great or none, or the number is not 0 to 7: the answer of alive. -/
import Derived.Test.YtglmonlofejcgaaDoorTextHead
import Derived.Test.YtglmonlofejcgaaDoorLineAt
import Derived.Test.YtglmonlofejcgaaDoorPts
namespace Go.Proofs.YtglmonlofejcgaaDoor.txt
open Go.RowKit Go.Proofs.YtglmonlofejcgaaDoor Go.Proofs.YtglmonlofejcgaaDoor.Am Go.Proofs.YtglmonlofejcgaaDoor.loan Go.Proofs.YtglmonlofejcgaaDoor.bld
set_option linter.unusedVariables false
set_option maxHeartbeats 8000000 in
set_option maxRecDepth 100000 in
theorem tlines_not {w : World} {v : Value} {D : FnD} {n : Int} (h : FnOk' w v D) (kt : TabOk w)
  (hn : great.greatF D = true ∨ (great.greatF D = false ∧ ((check.chkF D != 0) = true ∨ (check.chkF D = 0 ∧ (n < 0 ∨ (¬ n < 0 ∧ n > 7)))))) : Calls Tryd.prog 4 #[v, .int .i64 n] w (YesH w) := by
 have hG := fun (w1 : World) (hb : Below w.heap.size w w1) => great.great_ans (h.frz hb.block)
 have hC := fun (w1 : World) (hb : Below w.heap.size w w1) => refC.check_same (h.frz hb.block)
 have HA := Lib.hid (fun (w1 : World) (hb : Below w.heap.size w w1) => alive_c (tab_more kt hb))
 rw [h.eq] at hG hC ⊢
 clear h kt
 have T0 := Lib.hid (show One w D (w.alloc (.cells #[.int .i64 D.p, .bool D.u, D.lv, D.bv] tFn)) from ⟨(Below.refl _ _).alloc (Nat.le_refl _) _, Box.mk rfl⟩)
 obtain ⟨y0, y1, y2, y3⟩ := T0.out.x.cells
 generalize great.greatF D = g at *
 generalize check.chkF D = x at *
 have HG := Lib.hid hG
 have HC := Lib.hid hC
 clear hG hC
 rcases hn with rfl | ⟨rfl, hx | ⟨rfl, hx | ⟨hx0, hx⟩⟩⟩
 all_goals (
  go_enter Tryd.func4, Tryd.ntmps4
  go_wp2_with (first | (go_at_call 8; (first | (refine (HA.out _ T2.out.b).mono ?_) | (refine (HA.out _ T1.out.b).mono ?_)); rintro e w9 ⟨rfl, b9⟩) | (go_at_call 7; refine (HC.out _ T1.out.b).mono ?_; rintro e w2 ⟨rfl, b2⟩; have T2 := Lib.hid (T1.out.below b2); obtain ⟨s0, s1, s2, s3⟩ := T2.out.x.cells) | (go_at_call 6; refine (HG.out _ T0.out.b).mono ?_; rintro e w1 ⟨rfl, b1⟩; have T1 := Lib.hid (T0.out.below b1); obtain ⟨r0, r1, r2, r3⟩ := T1.out.x.cells))
  go_ret
  first | exact ⟨rfl, T2.out.b.trans (b9.mono T2.out.b.size)⟩ | exact ⟨rfl, T1.out.b.trans (b9.mono T1.out.b.size)⟩)
end Go.Proofs.YtglmonlofejcgaaDoor.txt
