/- text.Line: the line of a point of a sound function. The chapter's example, and that it is as it should be: alive. -/
import Derived.Test.YtglmonlofejcgaaDoorTextV
namespace Go.Proofs.YtglmonlofejcgaaDoor.txt
open Go.RowKit Go.Proofs.YtglmonlofejcgaaDoor Go.Proofs.YtglmonlofejcgaaDoor.Am Go.Proofs.YtglmonlofejcgaaDoor.loan Go.Proofs.YtglmonlofejcgaaDoor.bld
set_option linter.unusedVariables false
abbrev tPt : TypeId := 42
def Ans2 (x y : Int) (W : World) (e : Ending) (W' : World) : Prop := e = .returned (.tuple #[.int .i64 x, .int .i64 y]) ∧ Below W.heap.size W W'
set_option maxHeartbeats 4000000 in
set_option maxRecDepth 100000 in
theorem line_bad {w : World} {v : Value} {D : FnD} (h : FnOk' w v D) {x pb pi : Int} (hx : x ≠ 0) (hC : ChkT 23 w v x) : Calls Tryd.prog 13 #[v, .agg #[.int .i64 pb, .int .i64 pi]] w (Ans2 0 x w) := by
 unfold ChkT at hC
 rw [h.eq] at hC ⊢
 have b0 : Below w.heap.size w ((w.alloc (.cells #[.int .i64 D.p, .bool D.u, D.lv, D.bv] tFn)).alloc (.cells #[.int .i64 pb, .int .i64 pi] tPt)) := ((Below.refl _ _).alloc (Nat.le_refl _) _).alloc (by simp) _
 have hx' : (x != 0) = true := by simpa using hx
 have HC := Lib.hid hC
 clear hC h
 go_enter Tryd.func13, Tryd.ntmps13
 go_wp2_with (go_at_call 23; refine (HC.out _ b0).mono ?_; rintro e w1 ⟨rfl, b1⟩)
 go_ret2
 exact ⟨rfl, b0.trans (b1.mono b0.size)⟩
set_option maxHeartbeats 4000000 in
set_option maxRecDepth 100000 in
theorem line_o1 {w : World} {v : Value} {D : FnD} (hF : FnOk' w v D) (hL : Lim D) (hC : ChkT 23 w v 0) {x y : Int} (h0 : x < 0) : Calls Tryd.prog 13 #[v, .agg #[.int .i64 x, .int .i64 y]] w (Ans2 0 2 w) := by
 obtain ⟨A, c, eb, hmb, hrb⟩ := FnOk'.blks hF
 obtain ⟨Al, cl, el, hml, hrl⟩ := ListAt.rows hF.locals (by decide)
 have hcap : D.bs.length ≤ c := (hF.blocks.cap (by intro h; have := hL.b0; rw [List.map_eq_nil_iff] at h; rw [h] at this; simp at this) _ _ _ (by rw [eb])).1
 obtain ⟨gb, ob, rfl, hgb, hrb⟩ := rows_some hrb (by rw [List.length_map]; exact hL.b0)
 have hnl := hL.l
 have hnb := hL.b
 unfold ChkT at hC
 rw [hF.eq, eb] at hC ⊢
 have HC := Lib.hid hC
 have HF := Lib.hid hF
 have HL := Lib.hid hL
 have HRB := Lib.hid hrb
 rw [el] at HC ⊢
 clear hC hF hL hrb eb el
 obtain ⟨w1, hw1⟩ : ∃ w1, w1 = (w.alloc (.cells #[.int .i64 D.p, .bool D.u, .slice Al D.ls.length cl, .slice (some ⟨gb, ob, none⟩) D.bs.length c] tFn)).alloc (.cells #[.int .i64 x, .int .i64 y] tPt) := ⟨_, rfl⟩
 have b1 : Below w.heap.size w w1 := by rw [hw1]; exact ((Below.refl _ _).alloc (Nat.le_refl _) _).alloc (by simp) _
 have B1 : Box w1 w.heap.size tFn (.int .i64 D.p) (.bool D.u) (.slice Al D.ls.length cl) (.slice (some ⟨gb, ob, none⟩) D.bs.length c) := by rw [hw1]; exact (Box.mk rfl).more
 have P1 : w1.heap[w.heap.size + 1]? = some (.cells #[.int .i64 x, .int .i64 y] tPt (0, 0)) := by rw [hw1]; exact at_alloc (by simp)
 go_enter Tryd.func13, Tryd.ntmps13
 go_upto_region 4 with (rw [← hw1]; go_at_call 23; refine (HC.out _ b1).mono ?_; rintro e wd ⟨rfl, b2⟩)
 obtain ⟨y0, y1, y2, y3⟩ := (B1.below b2).cells
 have P2 := (b2.block _ (Array.getElem?_eq_some_iff.1 P1).1).trans P1
 have p0 : wd.cell? ⟨w.heap.size + 1, 0, none⟩ = some (.int .i64 x) := by rw [cell_of_row wd _ 0 _ tPt (0, 0) P2]; rfl
 have p1 : wd.cell? ⟨w.heap.size + 1, 1, none⟩ = some (.int .i64 y) := by rw [cell_of_row wd _ 1 _ tPt (0, 0) P2]; rfl
 have HB2 := Lib.hid (b1.trans (b2.mono b1.size))
 have HP2 := Lib.hid P2
 have HX2 := Lib.hid (B1.below b2)
 clear hw1 b1 B1 P1 b2 P2
 have hd : decide (x < 0) = true := decide_eq_true h0
 refine region_cells [⟨w.heap.size + 1, 0, none⟩] [(0, true), (1, true), (2, true), (3, true), (4, true), (5, true), (6, true), (7, true), (8, true), (9, true), (10, true), (11, true), (12, true), (13, true), (14, true), (15, true), (16, true), (17, true), (18, true), (19, true), (20, true), (21, true), (22, true), (23, true), (24, true), (25, true), (26, true), (27, true), (28, true)] (by kernel_rfl) (by kernel_rfl) (by decide) (by kernel_rfl) (fun _ _ _ _ _ h => h) ?_
 have p0 : wd.drew.cell? ⟨w.heap.size + 1, 0, none⟩ = _ := p0
 repeat (first | (refine SeqC.take (v := ?_) rfl (by rfl) (fun W hW => ?_) ?_; rotate_left; (focus (have zp0 := hW.get (by simp) p0; go_simp; with_reducible rfl)); simp only [Act.put, List.setIfInBounds_toArray, List.set_cons_zero, List.set_cons_succ]) | (refine SeqC.skip rfl (by rfl) ?_; simp only [Act.put, List.setIfInBounds_toArray, List.set_cons_zero, List.set_cons_succ]))
 refine SeqC.done ?_
 go_wp2_with fail
 go_ret2
 exact ⟨rfl, HB2.out.drew⟩
set_option maxHeartbeats 4000000 in
set_option maxRecDepth 100000 in
theorem line_o2 {w : World} {v : Value} {D : FnD} (hF : FnOk' w v D) (hL : Lim D) (hC : ChkT 23 w v 0) {x y : Int} (h0 : 0 ≤ x) (h1 : (D.bs.length : Int) ≤ x) : Calls Tryd.prog 13 #[v, .agg #[.int .i64 x, .int .i64 y]] w (Ans2 0 2 w) := by
 obtain ⟨A, c, eb, hmb, hrb⟩ := FnOk'.blks hF
 obtain ⟨Al, cl, el, hml, hrl⟩ := ListAt.rows hF.locals (by decide)
 have hcap : D.bs.length ≤ c := (hF.blocks.cap (by intro h; have := hL.b0; rw [List.map_eq_nil_iff] at h; rw [h] at this; simp at this) _ _ _ (by rw [eb])).1
 obtain ⟨gb, ob, rfl, hgb, hrb⟩ := rows_some hrb (by rw [List.length_map]; exact hL.b0)
 have hnl := hL.l
 have hnb := hL.b
 unfold ChkT at hC
 rw [hF.eq, eb] at hC ⊢
 have HC := Lib.hid hC
 have HF := Lib.hid hF
 have HL := Lib.hid hL
 have HRB := Lib.hid hrb
 rw [el] at HC ⊢
 clear hC hF hL hrb eb el
 obtain ⟨w1, hw1⟩ : ∃ w1, w1 = (w.alloc (.cells #[.int .i64 D.p, .bool D.u, .slice Al D.ls.length cl, .slice (some ⟨gb, ob, none⟩) D.bs.length c] tFn)).alloc (.cells #[.int .i64 x, .int .i64 y] tPt) := ⟨_, rfl⟩
 have b1 : Below w.heap.size w w1 := by rw [hw1]; exact ((Below.refl _ _).alloc (Nat.le_refl _) _).alloc (by simp) _
 have B1 : Box w1 w.heap.size tFn (.int .i64 D.p) (.bool D.u) (.slice Al D.ls.length cl) (.slice (some ⟨gb, ob, none⟩) D.bs.length c) := by rw [hw1]; exact (Box.mk rfl).more
 have P1 : w1.heap[w.heap.size + 1]? = some (.cells #[.int .i64 x, .int .i64 y] tPt (0, 0)) := by rw [hw1]; exact at_alloc (by simp)
 go_enter Tryd.func13, Tryd.ntmps13
 go_upto_region 4 with (rw [← hw1]; go_at_call 23; refine (HC.out _ b1).mono ?_; rintro e wd ⟨rfl, b2⟩)
 obtain ⟨y0, y1, y2, y3⟩ := (B1.below b2).cells
 have P2 := (b2.block _ (Array.getElem?_eq_some_iff.1 P1).1).trans P1
 have p0 : wd.cell? ⟨w.heap.size + 1, 0, none⟩ = some (.int .i64 x) := by rw [cell_of_row wd _ 0 _ tPt (0, 0) P2]; rfl
 have p1 : wd.cell? ⟨w.heap.size + 1, 1, none⟩ = some (.int .i64 y) := by rw [cell_of_row wd _ 1 _ tPt (0, 0) P2]; rfl
 have HB2 := Lib.hid (b1.trans (b2.mono b1.size))
 have HP2 := Lib.hid P2
 have HX2 := Lib.hid (B1.below b2)
 clear hw1 b1 B1 P1 b2 P2
 have hd0 : ¬ x < 0 := by omega
 have hd : decide (x < 0) = false := decide_eq_false hd0
 have hd1 : decide (x ≥ (D.bs.length : Int)) = true := decide_eq_true h1
 refine region_cells [⟨w.heap.size + 1, 0, none⟩, ⟨w.heap.size + 1, 1, none⟩, ⟨w.heap.size, 3, none⟩] [(0, true), (1, true), (2, true), (3, true), (4, true), (5, true), (6, true), (7, true), (8, true), (9, true), (10, true), (11, true), (12, true), (13, true), (14, true), (15, true), (16, true), (17, true), (18, true), (19, true), (20, true), (21, true), (22, true), (23, true), (24, true), (25, true), (26, true), (27, true), (28, true)] (by kernel_rfl) (by kernel_rfl) (by decide) (by kernel_rfl) (fun _ _ _ _ _ h => h) ?_
 have p0 : wd.drew.cell? ⟨w.heap.size + 1, 0, none⟩ = _ := p0
 have p1 : wd.drew.cell? ⟨w.heap.size + 1, 1, none⟩ = _ := p1
 have y3 : wd.drew.cell? ⟨w.heap.size, 3, none⟩ = _ := y3
 repeat (first | (refine SeqC.take (v := ?_) rfl (by rfl) (fun W hW => ?_) ?_; rotate_left; (focus (have zp0 := hW.get (by simp) p0; have zp1 := hW.get (by simp) p1; have zy3 := hW.get (by simp) y3; go_simp; with_reducible rfl)); simp only [Act.put, List.setIfInBounds_toArray, List.set_cons_zero, List.set_cons_succ]) | (refine SeqC.skip rfl (by rfl) ?_; simp only [Act.put, List.setIfInBounds_toArray, List.set_cons_zero, List.set_cons_succ]))
 refine SeqC.done ?_
 go_wp2_with fail
 go_ret2
 exact ⟨rfl, HB2.out.drew⟩
set_option maxHeartbeats 4000000 in
set_option maxRecDepth 100000 in
theorem line_o3 {w : World} {v : Value} {D : FnD} (hF : FnOk' w v D) (hL : Lim D) (hC : ChkT 23 w v 0) {pb : Nat} {y : Int} (h1 : pb < D.bs.length) (hy : y < 0) : Calls Tryd.prog 13 #[v, .agg #[.int .i64 (pb : Nat), .int .i64 y]] w (Ans2 0 2 w) := by
 obtain ⟨A, c, eb, hmb, hrb⟩ := FnOk'.blks hF
 obtain ⟨Al, cl, el, hml, hrl⟩ := ListAt.rows hF.locals (by decide)
 have hcap : D.bs.length ≤ c := (hF.blocks.cap (by intro h; have := hL.b0; rw [List.map_eq_nil_iff] at h; rw [h] at this; simp at this) _ _ _ (by rw [eb])).1
 obtain ⟨gb, ob, rfl, hgb, hrb⟩ := rows_some hrb (by rw [List.length_map]; exact hL.b0)
 have hnl := hL.l
 have hnb := hL.b
 unfold ChkT at hC
 rw [hF.eq, eb] at hC ⊢
 have HC := Lib.hid hC
 have HF := Lib.hid hF
 have HL := Lib.hid hL
 have HRB := Lib.hid hrb
 rw [el] at HC ⊢
 clear hC hF hL hrb eb el
 obtain ⟨w1, hw1⟩ : ∃ w1, w1 = (w.alloc (.cells #[.int .i64 D.p, .bool D.u, .slice Al D.ls.length cl, .slice (some ⟨gb, ob, none⟩) D.bs.length c] tFn)).alloc (.cells #[.int .i64 (pb : Nat), .int .i64 y] tPt) := ⟨_, rfl⟩
 have b1 : Below w.heap.size w w1 := by rw [hw1]; exact ((Below.refl _ _).alloc (Nat.le_refl _) _).alloc (by simp) _
 have B1 : Box w1 w.heap.size tFn (.int .i64 D.p) (.bool D.u) (.slice Al D.ls.length cl) (.slice (some ⟨gb, ob, none⟩) D.bs.length c) := by rw [hw1]; exact (Box.mk rfl).more
 have P1 : w1.heap[w.heap.size + 1]? = some (.cells #[.int .i64 (pb : Nat), .int .i64 y] tPt (0, 0)) := by rw [hw1]; exact at_alloc (by simp)
 go_enter Tryd.func13, Tryd.ntmps13
 go_upto_region 4 with (rw [← hw1]; go_at_call 23; refine (HC.out _ b1).mono ?_; rintro e wd ⟨rfl, b2⟩)
 obtain ⟨y0, y1, y2, y3⟩ := (B1.below b2).cells
 have P2 := (b2.block _ (Array.getElem?_eq_some_iff.1 P1).1).trans P1
 have p0 : wd.cell? ⟨w.heap.size + 1, 0, none⟩ = some (.int .i64 (pb : Nat)) := by rw [cell_of_row wd _ 0 _ tPt (0, 0) P2]; rfl
 have p1 : wd.cell? ⟨w.heap.size + 1, 1, none⟩ = some (.int .i64 y) := by rw [cell_of_row wd _ 1 _ tPt (0, 0) P2]; rfl
 have HB2 := Lib.hid (b1.trans (b2.mono b1.size))
 have HP2 := Lib.hid P2
 have HX2 := Lib.hid (B1.below b2)
 clear hw1 b1 B1 P1 b2 P2
 have h0I : (0 : Int) ≤ (pb : Int) := Int.natCast_nonneg _
 have hltI : (pb : Int) < (D.bs.length : Int) := by omega
 have hd0 : ¬ (pb : Int) < 0 := by omega
 have hd : decide ((pb : Int) < 0) = false := decide_eq_false hd0
 have hd1 : decide ((pb : Int) ≥ (D.bs.length : Int)) = false := decide_eq_false (by omega)
 have hd3 : decide (D.bs.length ≤ pb) = false := decide_eq_false (by omega)
 have hd4 : ¬ D.bs.length ≤ pb := by omega
 have hd2 : decide (y < 0) = true := decide_eq_true hy
 refine region_cells [⟨w.heap.size + 1, 0, none⟩, ⟨w.heap.size + 1, 1, none⟩, ⟨w.heap.size, 3, none⟩] [(0, true), (1, true), (2, true), (3, true), (4, true), (5, true), (6, true), (7, true), (8, true), (9, true), (10, true), (11, true), (12, true), (13, true), (14, true), (15, true), (16, true), (17, true), (18, true), (19, true), (20, true), (21, true), (22, true), (23, true), (24, true), (25, true), (26, true), (27, true), (28, true)] (by kernel_rfl) (by kernel_rfl) (by decide) (by kernel_rfl) (fun _ _ _ _ _ h => h) ?_
 have p0 : wd.drew.cell? ⟨w.heap.size + 1, 0, none⟩ = _ := p0
 have p1 : wd.drew.cell? ⟨w.heap.size + 1, 1, none⟩ = _ := p1
 have y3 : wd.drew.cell? ⟨w.heap.size, 3, none⟩ = _ := y3
 repeat (first | (refine SeqC.take (v := ?_) rfl (by rfl) (fun W hW => ?_) ?_; rotate_left; (focus (have zp0 := hW.get (by simp) p0; have zp1 := hW.get (by simp) p1; have zy3 := hW.get (by simp) y3; go_simp; with_reducible rfl)); simp only [Act.put, List.setIfInBounds_toArray, List.set_cons_zero, List.set_cons_succ]) | (refine SeqC.skip rfl (by rfl) ?_; simp only [Act.put, List.setIfInBounds_toArray, List.set_cons_zero, List.set_cons_succ]))
 refine SeqC.done ?_
 go_wp2_with fail
 go_ret2
 exact ⟨rfl, HB2.out.drew⟩
set_option maxHeartbeats 4000000 in
set_option maxRecDepth 100000 in
theorem line_o4 {w : World} {v : Value} {D : FnD} (hF : FnOk' w v D) (hL : Lim D) (hC : ChkT 23 w v 0) {pb : Nat} {y : Int} (h1 : pb < D.bs.length) (hy : (lenB D.bs pb : Int) < y) : Calls Tryd.prog 13 #[v, .agg #[.int .i64 (pb : Nat), .int .i64 y]] w (Ans2 0 2 w) := by
 obtain ⟨A, c, eb, hmb, hrb⟩ := FnOk'.blks hF
 obtain ⟨Al, cl, el, hml, hrl⟩ := ListAt.rows hF.locals (by decide)
 have hcap : D.bs.length ≤ c := (hF.blocks.cap (by intro h; have := hL.b0; rw [List.map_eq_nil_iff] at h; rw [h] at this; simp at this) _ _ _ (by rw [eb])).1
 obtain ⟨gb, ob, rfl, hgb, hrb⟩ := rows_some hrb (by rw [List.length_map]; exact hL.b0)
 have hnl := hL.l
 have hnb := hL.b
 unfold ChkT at hC
 rw [hF.eq, eb] at hC ⊢
 have HC := Lib.hid hC
 have HF := Lib.hid hF
 have HL := Lib.hid hL
 have HRB := Lib.hid hrb
 rw [el] at HC ⊢
 clear hC hF hL hrb eb el
 obtain ⟨w1, hw1⟩ : ∃ w1, w1 = (w.alloc (.cells #[.int .i64 D.p, .bool D.u, .slice Al D.ls.length cl, .slice (some ⟨gb, ob, none⟩) D.bs.length c] tFn)).alloc (.cells #[.int .i64 (pb : Nat), .int .i64 y] tPt) := ⟨_, rfl⟩
 have b1 : Below w.heap.size w w1 := by rw [hw1]; exact ((Below.refl _ _).alloc (Nat.le_refl _) _).alloc (by simp) _
 have B1 : Box w1 w.heap.size tFn (.int .i64 D.p) (.bool D.u) (.slice Al D.ls.length cl) (.slice (some ⟨gb, ob, none⟩) D.bs.length c) := by rw [hw1]; exact (Box.mk rfl).more
 have P1 : w1.heap[w.heap.size + 1]? = some (.cells #[.int .i64 (pb : Nat), .int .i64 y] tPt (0, 0)) := by rw [hw1]; exact at_alloc (by simp)
 go_enter Tryd.func13, Tryd.ntmps13
 go_upto_region 4 with (rw [← hw1]; go_at_call 23; refine (HC.out _ b1).mono ?_; rintro e wd ⟨rfl, b2⟩)
 obtain ⟨y0, y1, y2, y3⟩ := (B1.below b2).cells
 have P2 := (b2.block _ (Array.getElem?_eq_some_iff.1 P1).1).trans P1
 have p0 : wd.cell? ⟨w.heap.size + 1, 0, none⟩ = some (.int .i64 (pb : Nat)) := by rw [cell_of_row wd _ 0 _ tPt (0, 0) P2]; rfl
 have p1 : wd.cell? ⟨w.heap.size + 1, 1, none⟩ = some (.int .i64 y) := by rw [cell_of_row wd _ 1 _ tPt (0, 0) P2]; rfl
 have HB2 := Lib.hid (b1.trans (b2.mono b1.size))
 have HP2 := Lib.hid P2
 have HX2 := Lib.hid (B1.below b2)
 clear hw1 b1 B1 P1 b2 P2
 obtain ⟨x, hx⟩ : ∃ x, D.bs[pb]? = some x := ⟨_, List.getElem?_eq_getElem h1⟩
 have hxm := List.mem_of_getElem? hx
 obtain ⟨As, cs, es, hms, _⟩ := BlkOk.stms (HF.out.blk x hxm)
 have h24 := HL.out.s x hxm
 have c0 : wd.cell? ⟨gb, ob + pb * 14, none⟩ = some (.slice As x.st.length cs) := by
  have := range_old (HRB.out pb x.cells (by rw [List.getElem?_map, hx]; rfl)) hgb HB2.out 0 x.s rfl
  rw [es] at this
  exact this
 have HX := Lib.hid hx
 clear hx hxm es
 have h0I : (0 : Int) ≤ (pb : Int) := Int.natCast_nonneg _
 have hltI : (pb : Int) < (D.bs.length : Int) := by omega
 have hd0 : ¬ (pb : Int) < 0 := by omega
 have hd : decide ((pb : Int) < 0) = false := decide_eq_false hd0
 have hd1 : decide ((pb : Int) ≥ (D.bs.length : Int)) = false := decide_eq_false (by omega)
 have hd3 : decide (D.bs.length ≤ pb) = false := decide_eq_false (by omega)
 have hd4 : ¬ D.bs.length ≤ pb := by omega
 rw [lenB_of HX.out] at hy
 have hy0 : ¬ y < 0 := by omega
 have hd2 : decide (y < 0) = false := decide_eq_false hy0
 have hd5 : decide (y > (x.st.length : Int)) = true := decide_eq_true hy
 refine region_cells [⟨w.heap.size + 1, 0, none⟩, ⟨w.heap.size + 1, 1, none⟩, ⟨w.heap.size, 3, none⟩, ⟨gb, ob + pb * 14, none⟩] [(0, true), (1, true), (2, true), (3, true), (4, true), (5, true), (6, true), (7, true), (8, true), (9, true), (10, true), (11, true), (12, true), (13, true), (14, true), (15, true), (16, true), (17, true), (18, true), (19, true), (20, true), (21, true), (22, true), (23, true), (24, true), (25, true), (26, true), (27, true), (28, true)] (by kernel_rfl) (by kernel_rfl) (by decide) (by kernel_rfl) (fun _ _ _ _ _ h => h) ?_
 have p0 : wd.drew.cell? ⟨w.heap.size + 1, 0, none⟩ = _ := p0
 have p1 : wd.drew.cell? ⟨w.heap.size + 1, 1, none⟩ = _ := p1
 have y3 : wd.drew.cell? ⟨w.heap.size, 3, none⟩ = _ := y3
 have c0 : wd.drew.cell? ⟨gb, ob + pb * 14, none⟩ = _ := c0
 repeat (first | (refine SeqC.take (v := ?_) rfl (by rfl) (fun W hW => ?_) ?_; rotate_left; (focus (have zp0 := hW.get (by simp) p0; have zp1 := hW.get (by simp) p1; have zy3 := hW.get (by simp) y3; have zc0 := hW.get (by simp) c0; go_simp; with_reducible rfl)); simp only [Act.put, List.setIfInBounds_toArray, List.set_cons_zero, List.set_cons_succ]) | (refine SeqC.skip rfl (by rfl) ?_; simp only [Act.put, List.setIfInBounds_toArray, List.set_cons_zero, List.set_cons_succ]))
 refine SeqC.done ?_
 go_wp2_with fail
 go_ret2
 exact ⟨rfl, HB2.out.drew⟩
set_option maxHeartbeats 8000000 in
set_option maxRecDepth 100000 in
theorem tline_c {w : World} {v : Value} {D : FnD} (hF : FnOk' w v D) (hL : Lim D) (hC : ChkT 23 w v 0) {pb pi : Nat} (h1 : pb < D.bs.length) (hy : pi ≤ lenB D.bs pb) : Calls Tryd.prog 13 #[v, .agg #[.int .i64 (pb : Nat), .int .i64 (pi : Nat)]] w (Ans2 ((D.ls.length + 2 + pi + startOf D.bs pb + pb : Nat) : Int) 0 w) := by
 obtain ⟨A, c, eb, hmb, hrb⟩ := FnOk'.blks hF
 obtain ⟨Al, cl, el, hml, hrl⟩ := ListAt.rows hF.locals (by decide)
 have hcap : D.bs.length ≤ c := (hF.blocks.cap (by intro h; have := hL.b0; rw [List.map_eq_nil_iff] at h; rw [h] at this; simp at this) _ _ _ (by rw [eb])).1
 obtain ⟨gb, ob, rfl, hgb, hrb⟩ := rows_some hrb (by rw [List.length_map]; exact hL.b0)
 have hnl := hL.l
 have hnb := hL.b
 unfold ChkT at hC
 rw [hF.eq, eb] at hC ⊢
 have HC := Lib.hid hC
 have HF := Lib.hid hF
 have HL := Lib.hid hL
 have HRB := Lib.hid hrb
 rw [el] at HC ⊢
 clear hC hF hL hrb eb el
 obtain ⟨w1, hw1⟩ : ∃ w1, w1 = (w.alloc (.cells #[.int .i64 D.p, .bool D.u, .slice Al D.ls.length cl, .slice (some ⟨gb, ob, none⟩) D.bs.length c] tFn)).alloc (.cells #[.int .i64 (pb : Nat), .int .i64 (pi : Nat)] tPt) := ⟨_, rfl⟩
 have b1 : Below w.heap.size w w1 := by rw [hw1]; exact ((Below.refl _ _).alloc (Nat.le_refl _) _).alloc (by simp) _
 have B1 : Box w1 w.heap.size tFn (.int .i64 D.p) (.bool D.u) (.slice Al D.ls.length cl) (.slice (some ⟨gb, ob, none⟩) D.bs.length c) := by rw [hw1]; exact (Box.mk rfl).more
 have P1 : w1.heap[w.heap.size + 1]? = some (.cells #[.int .i64 (pb : Nat), .int .i64 (pi : Nat)] tPt (0, 0)) := by rw [hw1]; exact at_alloc (by simp)
 go_enter Tryd.func13, Tryd.ntmps13
 go_upto_region 4 with (rw [← hw1]; go_at_call 23; refine (HC.out _ b1).mono ?_; rintro e wd ⟨rfl, b2⟩)
 obtain ⟨y0, y1, y2, y3⟩ := (B1.below b2).cells
 have P2 := (b2.block _ (Array.getElem?_eq_some_iff.1 P1).1).trans P1
 have p0 : wd.cell? ⟨w.heap.size + 1, 0, none⟩ = some (.int .i64 (pb : Nat)) := by rw [cell_of_row wd _ 0 _ tPt (0, 0) P2]; rfl
 have p1 : wd.cell? ⟨w.heap.size + 1, 1, none⟩ = some (.int .i64 (pi : Nat)) := by rw [cell_of_row wd _ 1 _ tPt (0, 0) P2]; rfl
 have HB2 := Lib.hid (b1.trans (b2.mono b1.size))
 have HP2 := Lib.hid P2
 have HX2 := Lib.hid (B1.below b2)
 clear hw1 b1 B1 P1 b2 P2
 obtain ⟨x, hx⟩ : ∃ x, D.bs[pb]? = some x := ⟨_, List.getElem?_eq_getElem h1⟩
 have hxm := List.mem_of_getElem? hx
 obtain ⟨As, cs, es, hms, _⟩ := BlkOk.stms (HF.out.blk x hxm)
 have h24 := HL.out.s x hxm
 have c0 : wd.cell? ⟨gb, ob + pb * 14, none⟩ = some (.slice As x.st.length cs) := by
  have := range_old (HRB.out pb x.cells (by rw [List.getElem?_map, hx]; rfl)) hgb HB2.out 0 x.s rfl
  rw [es] at this
  exact this
 have HX := Lib.hid hx
 clear hx hxm es
 have h0I : (0 : Int) ≤ (pb : Int) := Int.natCast_nonneg _
 have hltI : (pb : Int) < (D.bs.length : Int) := by omega
 have hd0 : ¬ (pb : Int) < 0 := by omega
 have hd : decide ((pb : Int) < 0) = false := decide_eq_false hd0
 have hd1 : decide ((pb : Int) ≥ (D.bs.length : Int)) = false := decide_eq_false (by omega)
 have hd3 : decide (D.bs.length ≤ pb) = false := decide_eq_false (by omega)
 have hd4 : ¬ D.bs.length ≤ pb := by omega
 rw [lenB_of HX.out] at hy
 have hp0 : (0 : Int) ≤ (pi : Int) := Int.natCast_nonneg _
 have hyI : (pi : Int) ≤ (x.st.length : Int) := by omega
 have hy0 : ¬ (pi : Int) < 0 := by omega
 have hd2 : decide ((pi : Int) < 0) = false := decide_eq_false hy0
 have hd5 : decide ((pi : Int) > (x.st.length : Int)) = false := decide_eq_false (by omega)
 have hd6 : decide (x.st.length < pi) = false := decide_eq_false (by omega)
 have hd7 : ¬ x.st.length < pi := by omega
 refine region_cells [⟨w.heap.size + 1, 0, none⟩, ⟨w.heap.size + 1, 1, none⟩, ⟨w.heap.size, 3, none⟩, ⟨gb, ob + pb * 14, none⟩] [(0, true), (1, true), (2, true), (3, true), (4, true), (5, true), (6, true), (7, true), (8, true), (9, true), (10, true), (11, true), (12, true), (13, true), (14, true), (15, true), (16, true), (17, true), (18, true), (19, true), (20, true), (21, true), (22, true), (23, true), (24, true), (25, true), (26, true), (27, true), (28, true)] (by kernel_rfl) (by kernel_rfl) (by decide) (by kernel_rfl) (fun _ _ _ _ _ h => h) ?_
 have p0 : wd.drew.cell? ⟨w.heap.size + 1, 0, none⟩ = _ := p0
 have p1 : wd.drew.cell? ⟨w.heap.size + 1, 1, none⟩ = _ := p1
 have y3 : wd.drew.cell? ⟨w.heap.size, 3, none⟩ = _ := y3
 have c0 : wd.drew.cell? ⟨gb, ob + pb * 14, none⟩ = _ := c0
 repeat (first | (refine SeqC.take (v := ?_) rfl (by rfl) (fun W hW => ?_) ?_; rotate_left; (focus (have zp0 := hW.get (by simp) p0; have zp1 := hW.get (by simp) p1; have zy3 := hW.get (by simp) y3; have zc0 := hW.get (by simp) c0; go_simp; with_reducible rfl)); simp only [Act.put, List.setIfInBounds_toArray, List.set_cons_zero, List.set_cons_succ]) | (refine SeqC.skip rfl (by rfl) ?_; simp only [Act.put, List.setIfInBounds_toArray, List.set_cons_zero, List.set_cons_succ]))
 refine SeqC.done ?_
 clear hd hd0 hd1 hd2 hd3 hd4 hd5 hd6 hd7 c0
 have HB3 := Lib.hid HB2.out.drew
 have HX3 := Lib.hid (show Box wd.drew w.heap.size tFn (.int .i64 D.p) (.bool D.u) (.slice Al D.ls.length cl) (.slice (some ⟨gb, ob, none⟩) D.bs.length c) from HX2.out)
 generalize wd.drew = wf at *
 obtain ⟨y0, y1, y2, y3⟩ := HX3.out.cells
 have hpc : (pb : Int) ≤ (c : Int) := by omega
 go_wp2_with fail
 clear y0 y1 y2 y3
 go_loopg [7, 57] pb (fun g s7 s57 w8 => ∃ (j : Nat) (t : Int), s57 = .int .i64 j ∧ s7 = .int .i64 t ∧ j ≤ pb ∧ g = pb - j ∧ t = (D.ls.length : Int) + 2 + (pi : Int) + ((startOf D.bs j + j : Nat) : Int) ∧ Below wf.heap.size wf w8)
 case atStart => exact ⟨0, _, rfl, rfl, Nat.zero_le _, rfl, by simp [startOf], Below.refl _ _⟩
 case round =>
  obtain ⟨j, t, rfl, rfl, hj, rfl, ht, hbel⟩ := hrel
  have h0J : (0 : Int) ≤ (j : Int) := Int.natCast_nonneg _
  have hst := start_le (lenB_le HL.out.s) j
  have ht0 : 0 ≤ t := by omega
  have ht1 : t ≤ 10000 := by omega
  have HT := Lib.hid ht
  have HBL := Lib.hid hbel
  clear ht hbel
  rcases Nat.lt_or_ge j pb with hlt | hge
  ·have hltJ : (j : Int) < (pb : Int) := by omega
   obtain ⟨z, hz⟩ : ∃ z, D.bs[j]? = some z := ⟨_, List.getElem?_eq_getElem (by omega)⟩
   have hzm := List.mem_of_getElem? hz
   have hbk := HF.out.blk z hzm
   obtain ⟨Az, cz, ez, hmz, _⟩ := BlkOk.stms hbk
   have hz24 := HL.out.s z hzm
   have HCB := Lib.hid (range_old (HRB.out j z.cells (by rw [List.getElem?_map, hz]; rfl)) hgb (HB3.out.trans (HBL.out.mono HB3.out.size)))
   have hbl14 := cells_len hbk
   have hb1 := blk_ones hbk
   have HLB := Lib.hid (lenB_of hz)
   have HEZ := Lib.hid ez
   have hsto : (storeCells ⟨wr.heap.size, 0, none⟩ z.cells).run Tryd.prog (wr.alloc (.cells #[.slice none 0 0, .int .u8 0, .int .u8 0, .int .i64 0, .int .i64 0, .bool false, .int .u8 0, .int .i64 0, .int .i64 0, .int .i64 0, .slice none 0 0, .int .i64 0, .bool false, .int .u8 0] 52)) = .ok () (wr.alloc (.cells z.cells.toArray 52)) := run_store_fresh rfl (by rw [hbl14]; rfl) hb1
   clear hz hzm hbk ez
   go_upto_region 10 with (refine wpList_load_mid rfl tBk _ rfl gb (ob + j * 14) rfl z.cells _ HCB.out Tryd.underlying52 rfl (by rw [hbl14]; exact bR) ?_)
   have q0 : (wr.alloc (.cells z.cells.toArray tBk)).cell? ⟨wr.heap.size, 0, none⟩ = some (.slice Az z.st.length cz) := by rw [cell_of_row _ wr.heap.size 0 _ tBk (0, 0) (at_alloc rfl), ← HEZ.out]; rfl
   have HBZ := Lib.hid (HBL.out.alloc HBL.out.size (.cells z.cells.toArray tBk))
   clear hsto
   generalize wr.heap.size = H at *
   generalize wr.alloc (.cells z.cells.toArray tBk) = wz at *
   go_wp2_with fail
   go_roundg (pb - (j + 1))
   case measure => omega
   case rel =>
    have h1 := HT.out
    have h2 : startOf D.bs (j + 1) = startOf D.bs j + (lenB D.bs j + 1) := rfl
    have h3 := HLB.out
    exact ⟨j + 1, _, by simp, rfl, by omega, rfl, by omega, HBZ.out⟩
  ·obtain rfl : j = pb := by omega
   go_wp2_with fail
   go_ret2
   have h1 := HT.out
   exact ⟨by rw [show ((D.ls.length + 2 + pi + startOf D.bs j + j : Nat) : Int) = t from by omega]; rfl, HB3.out.trans (HBL.out.mono HB3.out.size)⟩
end Go.Proofs.YtglmonlofejcgaaDoor.txt
namespace Go.Proofs.YtglmonlofejcgaaDoor.txt
open Go.RowKit Go.Proofs.YtglmonlofejcgaaDoor Go.Proofs.YtglmonlofejcgaaDoor.Am Go.Proofs.YtglmonlofejcgaaDoor.loan Go.Proofs.YtglmonlofejcgaaDoor.bld
set_option linter.unusedVariables false
def exS : List Value := [.int .u8 2, .int .i64 0, .bool false, .int .u8 0, .int .u8 0, .int .u8 0, .int .u8 0, .int .u8 0, .int .i64 0, .int .i64 0, .bool false, .int .u8 0, .int .u8 0, .int .i64 0, .int .i64 0, .bool false, .int .u8 0, .int .i64 0, .bool false, .int .u8 0, .int .u8 1, .int .i64 1, .int .i64 0, .bool false, .int .u8 0, .int .i64 0]
def exB (s : Value) : BlkD := ⟨s, [.int .u8 3, .int .u8 0, .int .i64 0, .int .i64 0, .bool false, .int .u8 0, .int .i64 0, .int .i64 0, .int .i64 0], .slice none 0 0, [.int .i64 0, .bool false, .int .u8 0], [exS], []⟩
def exD (lv bv s : Value) : FnD := ⟨0, false, lv, bv, [[.int .u8 1, .int .u8 0]], [exB s], ⟨.slice none 0 0, []⟩⟩
def exC : FnD := ⟨0, false, nilV, nilV, [[.int .u8 1, .int .u8 0]], [exB nilV], ⟨nilV, []⟩⟩
theorem ex_core (lv bv s : Value) : (exD lv bv s).core = exC := rfl
set_option maxRecDepth 100000 in
theorem exC_chk : check.chkF exC = 0 := by kernel_rfl
theorem ex_chk (lv bv s : Value) : check.chkF (exD lv bv s) = 0 := by rw [← chk_core, ex_core]; exact exC_chk
def exT : List UInt8 := [102, 110, 32, 48, 32, 40, 48, 41, 10, 120, 48, 58, 32, 105, 110, 116, 10, 98, 48, 58, 10, 32, 32, 112, 114, 105, 110, 116, 32, 49, 10, 32, 32, 114, 101, 116, 117, 114, 110, 10]
set_option maxRecDepth 100000 in
theorem exC_text : textF exC 0 = exT := by kernel_rfl
theorem ex_text (lv bv s : Value) : textF (exD lv bv s) 0 = exT := by
 rw [text_core (D := exC) (D' := exD lv bv s) (by rw [ex_core]; rfl) 0]; exact exC_text
theorem exS_kinds : All2 Kd.ok kS26 exS := by
 unfold exS
 refine ⟨⟨_, rfl, by decide, by decide⟩, ⟨_, rfl, by decide, by decide⟩, ⟨_, rfl⟩, ⟨_, rfl, by decide, by decide⟩, ⟨_, rfl, by decide, by decide⟩, ⟨_, rfl, by decide, by decide⟩, ⟨_, rfl, by decide, by decide⟩, ⟨_, rfl, by decide, by decide⟩, ⟨_, rfl, by decide, by decide⟩, ⟨_, rfl, by decide, by decide⟩, ⟨_, rfl⟩, ⟨_, rfl, by decide, by decide⟩, ⟨_, rfl, by decide, by decide⟩, ⟨_, rfl, by decide, by decide⟩, ⟨_, rfl, by decide, by decide⟩, ⟨_, rfl⟩, ⟨_, rfl, by decide, by decide⟩, ⟨_, rfl, by decide, by decide⟩, ⟨_, rfl⟩, ⟨_, rfl, by decide, by decide⟩, ⟨_, rfl, by decide, by decide⟩, ⟨_, rfl, by decide, by decide⟩, ⟨_, rfl, by decide, by decide⟩, ⟨_, rfl⟩, ⟨_, rfl, by decide, by decide⟩, ⟨_, rfl, by decide, by decide⟩, trivial⟩
def IsEx (w : World) (e : Ending) (w' : World) : Prop := ∃ A1 c1 A2 c2 s, e = .returned (.agg #[.int .i64 0, .bool false, .slice A1 1 c1, .slice A2 1 c2]) ∧ FnOk' w' (.agg #[.int .i64 0, .bool false, .slice A1 1 c1, .slice A2 1 c2]) (exD (.slice A1 1 c1) (.slice A2 1 c2) s) ∧ Below w.heap.size w w'
theorem nil_list (w : World) (sz : Nat) : ListAt w (.slice none 0 0) sz [] := ⟨⟨none, 0, rfl⟩, by simp, fun i el h => by simp at h, fun i el h => by simp at h, fun h => absurd rfl h⟩
theorem ex_ok {w : World} {H1 H2 H3 : Nat} {t1 t2 t3 : TypeId} (h1 : w.heap[H1]? = some (.cells #[.int .u8 1, .int .u8 0] t1 (0, 0))) (h2 : w.heap[H2]? = some (.cells exS.toArray t2 (0, 0))) (h3 : w.heap[H3]? = some (.cells (exB (.slice (some ⟨H2, 0, none⟩) 1 1)).cells.toArray t3 (0, 0))) :
  FnOk' w (.agg #[.int .i64 0, .bool false, .slice (some ⟨H1, 0, none⟩) 1 1, .slice (some ⟨H3, 0, none⟩) 1 1]) (exD (.slice (some ⟨H1, 0, none⟩) 1 1) (.slice (some ⟨H3, 0, none⟩) 1 1) (.slice (some ⟨H2, 0, none⟩) 1 1)) := by
 refine ⟨rfl, ⟨0, rfl, by decide, by decide⟩, ListAt.of_block h1 rfl (by decide), fun t ht => ?_, ListAt.of_block h3 rfl (by decide), fun b hb => ?_⟩
 ·rw [List.mem_singleton.1 ht]
  exact ⟨⟨_, rfl, by decide, by decide⟩, ⟨_, rfl, by decide, by decide⟩, trivial⟩
 ·rw [List.mem_singleton.1 hb]
  refine ⟨ListAt.of_block h2 rfl (by decide), fun s hs => ?_, ?_, nil_list w 5, fun o ho => (by cases ho), ?_⟩
  ·rw [List.mem_singleton.1 hs]; exact exS_kinds
  ·exact ⟨⟨_, rfl, by decide, by decide⟩, ⟨_, rfl, by decide, by decide⟩, ⟨_, rfl, by decide, by decide⟩, ⟨_, rfl, by decide, by decide⟩, ⟨_, rfl⟩, ⟨_, rfl, by decide, by decide⟩, ⟨_, rfl, by decide, by decide⟩, ⟨_, rfl, by decide, by decide⟩, ⟨_, rfl, by decide, by decide⟩, trivial⟩
  ·exact ⟨⟨_, rfl, by decide, by decide⟩, ⟨_, rfl⟩, ⟨_, rfl, by decide, by decide⟩, trivial⟩
set_option maxHeartbeats 4000000 in
set_option maxRecDepth 100000 in
theorem ex_c (w : World) : Calls Tryd.prog 16 #[] w (IsEx w) := by
 go_enter Tryd.func16, Tryd.ntmps16
 go_wp2_with fail
 refine bodyPost_ret (results_cell_row rfl _ _ w.heap.size tFn #[.int .i64 0, .bool false, .slice (some ⟨w.heap.size + 1, 0, none⟩) 1 1, .slice (some ⟨w.heap.size + 1 + 1 + 1, 0, none⟩) 1 1] (0, 0) _ rfl (at_more (at_more (at_more (at_alloc rfl)))) Tryd.underlying25 rfl (by kernel_rfl)) rfl ?_
 refine ⟨_, _, _, _, _, rfl, ex_ok (at_more (at_more (at_alloc (by simp)))) (at_more (at_alloc (by simp))) (at_alloc (by simp)), ?_⟩
 exact ((((Below.refl _ _).alloc (Nat.le_refl _) _).alloc (by simp) _).alloc (by simp; omega) _).alloc (by simp; omega) _
theorem line_ex {w : World} {v lv bv s : Value} (h : FnOk' w v (exD lv bv s)) : Calls Tryd.prog 13 #[v, .agg #[.int .i64 0, .int .i64 1]] w (Ans2 4 0 w) :=
 tline_c h (lim_of h (ex_chk _ _ _)) (by have := chk_a h; rwa [ex_chk] at this) (pb := 0) (pi := 1) (show 0 < (exD lv bv s).bs.length from Nat.zero_lt_one) (show 1 ≤ lenB (exD lv bv s).bs 0 from Nat.le_refl 1)
theorem func_ex {w : World} {v lv bv s : Value} (h : FnOk' w v (exD lv bv s)) (kt : TabOk w) : Calls Tryd.prog 9 #[v, .int .i64 0] w (AnsT exT 0 w) := by
 have := func_c h (lim_of h (ex_chk _ _ _)) (cons_of h kt (ex_chk _ _ _)) (n := 0) (by decide) (by decide) (by have := chk_a h; rwa [ex_chk] at this)
 rwa [ex_text] at this
set_option maxHeartbeats 4000000 in
set_option maxRecDepth 100000 in
theorem alive_c {w : World} (kt : TabOk w) : Calls Tryd.prog 8 #[] w (bld.Ans w (.bool true)) := by
 have HX := Lib.hid (fun W => ex_c W)
 have HK := Lib.hid kt
 clear kt
 go_enter Tryd.func8, Tryd.ntmps8
 go_upto_region 2 with (first | (go_at_call 16; refine (HX.out _).mono ?_; rintro e1 w1 ⟨A1, c1, A2, c2, s1, rfl, hf1, b1⟩) | (go_at_call 9; refine (func_ex hf1 (tab_more HK.out b1)).mono ?_; rintro e2 w2 ⟨rfl, b2⟩))
 have b02 := b1.trans (b2.mono b1.size)
 clear hf1 b1 b2
 go_upto_region 3 with (first | (go_at_call 16; refine (HX.out _).mono ?_; rintro e3 w3 ⟨A3, c3, A4, c4, s3, rfl, hf3, b3⟩) | (go_at_call 13; refine (line_ex hf3).mono ?_; rintro e4 w4 ⟨rfl, b4⟩))
 unfold exT
 go_wp2_with fail
 go_ret
 exact ⟨rfl, b02.trans ((b3.trans (b4.mono b3.size)).mono b02.size)⟩
end Go.Proofs.YtglmonlofejcgaaDoor.txt
