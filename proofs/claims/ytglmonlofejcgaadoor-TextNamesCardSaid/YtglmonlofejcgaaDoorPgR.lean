/- pawnshopref08.calls and Check: what they answer at any program. -/
import Derived.Test.YtglmonlofejcgaaDoorPgB
namespace Go.Proofs.YtglmonlofejcgaaDoor.prg
open Go.RowKit Go.Proofs.YtglmonlofejcgaaDoor Go.Proofs.YtglmonlofejcgaaDoor.Am Go.Proofs.YtglmonlofejcgaaDoor.loan Go.Proofs.YtglmonlofejcgaaDoor.bld
set_option linter.unusedVariables false
set_option maxHeartbeats 4000000 in
set_option maxRecDepth 100000 in
theorem blks_c {w : World} {A : Option Addr} {c X Y : Nat} {Ds : List FnD} {D : FnD} (hD : FnOk' w (.agg #[.int .i64 D.p, .bool D.u, D.lv, D.bv]) D) (hb24 : D.bs.length ≤ 24) (hok : ∀ b ∈ D.bs, cellI b.pre 0 = 4 → 0 ≤ cellI b.pre 6) (hr : RowsAt w A 4 (Ds.map FnD.cells)) (hn : Ds.length ≤ 8) (hX : w.cell? ⟨X, 0, none⟩ = some (.func (.func 59) #[] #[.pointer (some ⟨Y, 0, none⟩)])) (hXl : X < w.heap.size) (hY : w.cell? ⟨Y, 0, none⟩ = some (.slice A Ds.length c)) (hYl : Y < w.heap.size) :
  Calls Tryd.prog 64 #[.agg D.cells.toArray, .pointer (some ⟨X, 0, none⟩)] w (bld.Ans w (.bool (D.bs.all (callB Ds)))) := by
 obtain ⟨B, d, eb, hmb, hrb⟩ := FnOk'.blks hD
 obtain ⟨w1, hw1⟩ : ∃ w1, w1 = w.alloc (.cells #[.int .i64 D.p, .bool D.u, D.lv, D.bv] tFn) := ⟨_, rfl⟩
 have b0 : Below w.heap.size w w1 := by rw [hw1]; exact (Below.refl _ _).alloc (Nat.le_refl _) _
 have B0 : Box w1 w.heap.size tFn (.int .i64 D.p) (.bool D.u) D.lv D.bv := by rw [hw1]; exact Box.mk rfl
 obtain ⟨y0, y1, y2, y3⟩ := B0.cells
 rw [eb] at y3 hw1
 have hX1 := (b0.cell (p := ⟨X, 0, none⟩) hXl).trans hX
 have HA := Lib.hid (allB (w := w1) (c := d) (Y := Y) (f := BlkD.cells) (t := callB Ds) (xs := D.bs) (hrb.below b0) (by omega) (fun b hb => ⟨cells_len (hD.blk b hb), blk_ones (hD.blk b hb)⟩)
  (fun b hb W hW => call_c (w := W) (((hD.frz b0.block).frz hW.block).blk b hb) ((hr.below b0).below hW) hn ((hW.cell (p := ⟨Y, 0, none⟩) (Nat.lt_of_lt_of_le hYl b0.size)).trans ((b0.cell (p := ⟨Y, 0, none⟩) hYl).trans hY)) (Nat.lt_of_lt_of_le hYl (Nat.le_trans b0.size hW.size)) (hok b hb)))
 have HB := Lib.hid b0
 unfold FnD.cells
 clear hD hr hX hY hok hrb b0 B0
 generalize D.bs.all (callB Ds) = q at *
 go_enter Tryd.func64, Tryd.ntmps64
 go_upto_region 1 with fail
 rw [← hw1]
 clear hw1
 go_wp2_with (go_at_call 65; refine HA.out.mono ?_; rintro e w2 ⟨rfl, b2⟩)
 go_ret
 exact ⟨rfl, HB.out.trans (b2.mono HB.out.size)⟩
end Go.Proofs.YtglmonlofejcgaaDoor.prg
