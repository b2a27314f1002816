/- text.function: the lines of a function, behind what the builder holds; by the contracts of what it calls. -/
import Derived.Test.YtglmonlofejcgaaDoorTextX
import Derived.Test.YtglmonlofejcgaaDoorTextR
namespace Go.Proofs.YtglmonlofejcgaaDoor.txt
open Go.RowKit Go.Proofs.YtglmonlofejcgaaDoor Go.Proofs.YtglmonlofejcgaaDoor.Am Go.Proofs.YtglmonlofejcgaaDoor.loan Go.Proofs.YtglmonlofejcgaaDoor.bld
set_option linter.unusedVariables false
abbrev tFn : TypeId := 25
abbrev tBk : TypeId := 52
abbrev tSt : TypeId := 59
abbrev tJm : TypeId := 50
theorem bR : (Tryd.prog.info? 52).map (·.size) = some 14 := by kernel_rfl
theorem sR : (Tryd.prog.info? 59).map (·.size) = some 26 := by kernel_rfl
theorem jR : (Tryd.prog.info? 50).map (·.size) = some 13 := by kernel_rfl
theorem rows_some {w : World} {A : Option Addr} {sz : Nat} {els : List (List Value)} (h : RowsAt w A sz els) (h0 : 0 < els.length) : ∃ g o, A = some ⟨g, o, none⟩ ∧ g < w.heap.size ∧ ∀ i el, els[i]? = some el → w.rangeAt g (o + i * sz) el := by
 obtain ⟨x, hx⟩ : ∃ x, els[0]? = some x := ⟨_, List.getElem?_eq_getElem h0⟩
 obtain ⟨g, o, rfl, hg, _⟩ := h 0 x hx
 refine ⟨g, o, rfl, hg, fun i el hi => ?_⟩
 obtain ⟨g', o', e, _, hr⟩ := h i el hi
 cases e
 exact hr
theorem range_old {w w' : World} {g o : Nat} {cs : List Value} (h : w.rangeAt g o cs) (hg : g < w.heap.size) (hb : Below w.heap.size w w') : w'.rangeAt g o cs := fun j u hj => (hb.cell (p := ⟨g, o + j, none⟩) hg).trans (h j u hj)
structure Cons (w0 : World) (D : FnD) : Prop where
 it : ∀ n : Int, -9223372036854775808 ≤ n → n ≤ 9223372036854775807 → ∀ W, Below w0.heap.size w0 W → Calls Tryd.prog 29 #[.int .i64 n] W (bld.Ans W (.string ⟨(decT n).toArray⟩))
 ty : ∀ t ∈ D.ls, ∀ W, Below w0.heap.size w0 W → Calls Tryd.prog 48 #[.agg t.toArray] W (bld.Ans W (.tuple #[.string ⟨(typT t).toArray⟩, .int .i64 0]))
 st : ∀ b ∈ D.bs, ∀ s ∈ b.st, ∀ W, Below w0.heap.size w0 W → Calls Tryd.prog 15 #[.agg s.toArray] W (bld.Ans W (.tuple #[.string ⟨(stT (stOf s)).toArray⟩, .int .i64 0]))
 jm : ∀ b ∈ D.bs, ∀ W, Below w0.heap.size w0 W → Calls Tryd.prog 14 #[.agg (b.pre ++ b.a :: b.post).toArray] W (bld.Ans W (.tuple #[.string ⟨(jumpT b.pre b.ops b.post).toArray⟩, .int .i64 0]))
structure Vars (D : FnD) (b X : Nat) (lv bv : Value) (W : World) : Prop where
 x : W.heap[X]? = some (.cells #[.pointer (some ⟨b, 0, none⟩)] tPB (0, 0))
 y : W.heap[X + 1]? = some (.cells #[.int .i64 D.p, .bool D.u, lv, bv] tFn (0, 0))
theorem Vars.wrote {D : FnD} {b X : Nat} {lv bv : Value} {W W' : World} (h : Vars D b X lv bv W) (hX : b < X) (hw : Wrote tU b W W') : Vars D b X lv bv W' :=
 ⟨hw.block h.x (by omega) (by decide), hw.block h.y (by omega) (by decide)⟩
theorem Vars.cells {D : FnD} {b X : Nat} {lv bv : Value} {W : World} (h : Vars D b X lv bv W) :
  W.cell? ⟨X, 0, none⟩ = some (.pointer (some ⟨b, 0, none⟩)) ∧ W.cell? ⟨X + 1, 0, none⟩ = some (.int .i64 D.p) ∧ W.cell? ⟨X + 1, 1, none⟩ = some (.bool D.u) ∧ W.cell? ⟨X + 1, 2, none⟩ = some lv ∧ W.cell? ⟨X + 1, 3, none⟩ = some bv :=
 ⟨by rw [cell_of_row W X 0 _ tPB (0, 0) h.x]; rfl, by rw [cell_of_row W (X + 1) 0 _ tFn (0, 0) h.y]; rfl, by rw [cell_of_row W (X + 1) 1 _ tFn (0, 0) h.y]; rfl, by rw [cell_of_row W (X + 1) 2 _ tFn (0, 0) h.y]; rfl, by rw [cell_of_row W (X + 1) 3 _ tFn (0, 0) h.y]; rfl⟩
structure Now (D : FnD) (b X : Nat) (lv bv : Value) (w : World) (zs : List (Nat × Array Value × TypeId)) (l : List UInt8) (W : World) : Prop where
 vv : Vars D b X lv bv W
 zz : ∀ p ∈ zs, p.1 ≠ b ∧ p.2.2 ≠ tU ∧ W.heap[p.1]? = some (.cells p.2.1 p.2.2 (0, 0))
 bb : Bld tB tU b l W
 ww : Wrote tU b w W
section
variable {D : FnD} {b X : Nat} {lv bv : Value} {w w0 W W' : World} {zs : List (Nat × Array Value × TypeId)} {l l' : List UInt8}
theorem Now.wr (h : Now D b X lv bv w zs l W) (hX : b < X) (hb : Bld tB tU b l' W') (hw : Wrote tU b W W') : Now D b X lv bv w zs l' W' :=
 ⟨h.vv.wrote hX hw, fun p hp => ⟨(h.zz p hp).1, (h.zz p hp).2.1, hw.block (h.zz p hp).2.2 (h.zz p hp).1 (h.zz p hp).2.1⟩, hb, h.ww.trans hw⟩
theorem Now.below (h : Now D b X lv bv w zs l W) (hX : b < X) (hb : Below W.heap.size W W') : Now D b X lv bv w zs l W' := h.wr hX (h.bb.below hb) (.of_below hb (Nat.le_of_lt h.bb.lt))
theorem Now.drew (h : Now D b X lv bv w zs l W) : Now D b X lv bv w zs l W.drew := ⟨⟨h.vv.x, h.vv.y⟩, h.zz, h.bb, ⟨h.ww.bel.drew, h.ww.oth⟩⟩
theorem Now.old (h : Now D b X lv bv w zs l W) (hw : Below w0.heap.size w0 w) (hb : w0.heap.size ≤ b) : Below w0.heap.size w0 W := hw.trans (h.ww.bel.mono hb)
theorem Now.more (h : Now D b X lv bv w zs l W) {Z : Nat} {cs : Array Value} {t : TypeId} (hZ : Z ≠ b) (ht : t ≠ tU) (hz : W.heap[Z]? = some (.cells cs t (0, 0))) : Now D b X lv bv w ((Z, cs, t) :: zs) l W :=
 ⟨h.vv, fun p hp => (List.mem_cons.1 hp).elim (fun e => by subst e; exact ⟨hZ, ht, hz⟩) (h.zz p), h.bb, h.ww⟩
theorem Now.less {z : Nat × Array Value × TypeId} (h : Now D b X lv bv w (z :: zs) l W) : Now D b X lv bv w zs l W := ⟨h.vv, fun p hp => h.zz p (List.mem_cons_of_mem _ hp), h.bb, h.ww⟩
theorem Now.last {z : Nat × Array Value × TypeId} (h : Now D b X lv bv w (z :: zs) l W) : W.heap[z.1]? = some (.cells z.2.1 z.2.2 (0, 0)) := (h.zz z List.mem_cons_self).2.2
end
set_option maxHeartbeats 8000000 in
set_option maxRecDepth 100000 in
theorem function_c {w0 w : World} {v : Value} {D : FnD} {b : Nat} {acc : List UInt8} {n : Int} (hF : FnOk' w0 v D) (hL : Lim D) (hC : Cons w0 D) (hb0 : w0.heap.size ≤ b) (hw : Below w0.heap.size w0 w) (h : Bld tB tU b acc w) (hacc : acc.length ≤ 100000000)
  (hn : -9223372036854775808 ≤ n ∧ n ≤ 9223372036854775807) : Calls Tryd.prog 24 #[.pointer (some ⟨b, 0, none⟩), v, .int .i64 n] w (Wr b (acc ++ textF D n) w) := by
 obtain ⟨A, c, eb, hmb, hrb⟩ := FnOk'.blks hF
 obtain ⟨Al, cl, el, hml, hrl⟩ := ListAt.rows hF.locals (by decide)
 obtain ⟨gb, ob, rfl, hgb, hrb⟩ := rows_some hrb (by rw [List.length_map]; exact hL.b0)
 obtain ⟨gl, ol, rfl, hgl, hrl⟩ := rows_some hrl hL.l0
 obtain ⟨hp0, hp1⟩ : -9223372036854775808 ≤ D.p ∧ D.p ≤ 9223372036854775807 := by
  obtain ⟨p, e, hp⟩ := hF.pk
  cases e
  exact hp
 rw [hF.eq, eb, el]
 have hbl := h.lt
 have hnl := hL.l
 have hnb := hL.b
 have hl0 : nl (linL D n 0) = headT n D.p D.u ++ [10] := by rw [linL_zero, nl_one]
 have HLM0 := Lib.hid (linL_lim hL n (Nat.zero_le _))
 obtain ⟨X, hX⟩ : ∃ X, X = w.heap.size := ⟨_, rfl⟩
 obtain ⟨w1, hw1⟩ : ∃ w1, w1 = (w.alloc (.cells #[.pointer (some ⟨b, 0, none⟩)] tPB)).alloc (.cells #[.int .i64 D.p, .bool D.u, .slice (some ⟨gl, ol, none⟩) D.ls.length cl, .slice (some ⟨gb, ob, none⟩) D.bs.length c] tFn) := ⟨_, rfl⟩
 have b1 : Below w.heap.size w w1 := by rw [hw1]; exact ((Below.refl _ _).alloc (Nat.le_refl _) _).alloc (by simp) _
 have hXb : b < X := by rw [hX]; exact hbl
 have HNB := Lib.hid (show Now D b X (.slice (some ⟨gl, ol, none⟩) D.ls.length cl) (.slice (some ⟨gb, ob, none⟩) D.bs.length c) w [] acc w1 from ⟨by rw [hw1, hX]; exact ⟨at_more (at_alloc rfl), at_alloc (by simp)⟩, (fun p hp => by cases hp), h.below b1, Wrote.of_below b1 (Nat.le_of_lt hbl)⟩)
 have HF := Lib.hid hF
 have HL := Lib.hid hL
 have HC := Lib.hid hC
 have HWW := Lib.hid hw
 have HRB := Lib.hid hrb
 have HRL := Lib.hid hrl
 obtain ⟨y0, y1, y2, y3, y4⟩ := HNB.out.vv.cells
 rw [hX] at y0 y1 y2 y3 y4
 clear hF hL hC hw hrb hrl eb el h b1
 generalize hu : D.u = u at hw1 y2 ⊢
 have HU := Lib.hid hu
 clear hu
 go_enter Tryd.func24, Tryd.ntmps24
 go_upto_if 16 with fail
 rw [← hw1]
 go_cut [6] (fun s6 wx => s6 = .string ⟨(unsT u).toArray⟩ ∧ wx = w1)
 case first =>
  cases u
  ·go_wp2_with fail
   go_meet
   exact ⟨rfl, rfl⟩
  ·go_wp2_with fail
   go_meet
   exact ⟨rfl, rfl⟩
 obtain ⟨rfl, rfl⟩ := hcut
 rw [← hX] at *
 go_upto_region 4 with fail
 clear hw1 y0 y1 y2 y3 y4
 refine region_cells [⟨X, 0, none⟩, ⟨X + 1, 0, none⟩] [(0, true), (1, true), (3, true), (4, true), (6, true), (2, false), (5, false), (7, false), (8, false)] (by kernel_rfl) (by kernel_rfl) (by decide) (by kernel_rfl) (fun _ _ _ _ _ h => h) ?_
 have HN0 := Lib.hid (HNB.out.drew)
 generalize wc.drew = wd at HN0 ⊢
 obtain ⟨q0, q1, q2, q3, q4⟩ := HN0.out.vv.cells
 iterate 5 (refine SeqC.take (v := ?_) rfl (by rfl) (fun W hW => ?_) ?_; rotate_left; (focus (have zq0 := hW.get (by simp) q0; have zq1 := hW.get (by simp) q1; go_simp; with_reducible rfl)); simp only [Act.put, List.setIfInBounds_toArray, List.set_cons_zero, List.set_cons_succ])
 clear q0 q1 q2 q3 q4
 refine SeqC.call (f := ?_) (args := ?_) rfl (by rfl) ?_ ?_
 rotate_left 2
 ·(go_simp; first | with_reducible rfl | (refine ⟨?_, ?_⟩ <;> with_reducible rfl))
 refine (HC.out.it n hn.1 hn.2 _ (HN0.out.old HWW.out hb0)).mono ?_
 rintro e wi0 ⟨rfl, bi0⟩
 have HN1 := Lib.hid (HN0.out.below hXb bi0)
 refine ⟨_, rfl, (by intro p hp; simp only [List.mem_cons, List.not_mem_nil, or_false] at hp; rcases hp with rfl | rfl <;> first | exact HN1.out.vv.cells.1.trans HN0.out.vv.cells.1.symm | exact HN1.out.vv.cells.2.1.trans HN0.out.vv.cells.2.1.symm), ?_⟩
 simp only [Act.put, List.setIfInBounds_toArray, List.set_cons_zero, List.set_cons_succ]
 clear bi0
 refine SeqC.call (f := ?_) (args := ?_) rfl (by rfl) ?_ ?_
 rotate_left 2
 ·(go_simp; first | with_reducible rfl | (refine ⟨?_, ?_⟩ <;> with_reducible rfl))
 refine (HC.out.it D.p hp0 hp1 _ (HN1.out.old HWW.out hb0)).mono ?_
 rintro e wi1 ⟨rfl, bi1⟩
 have HN2 := Lib.hid (HN1.out.below hXb bi1)
 refine ⟨_, rfl, (by intro p hp; simp only [List.mem_cons, List.not_mem_nil, or_false] at hp; rcases hp with rfl | rfl <;> first | exact HN2.out.vv.cells.1.trans HN1.out.vv.cells.1.symm | exact HN2.out.vv.cells.2.1.trans HN1.out.vv.cells.2.1.symm), ?_⟩
 simp only [Act.put, List.setIfInBounds_toArray, List.set_cons_zero, List.set_cons_succ]
 clear bi1
 refine SeqC.val (v := .slice (some ⟨wi1.heap.size, 0, none⟩) 6 6) (w' := wi1.alloc (.cells #[.string ⟨([102, 110, 32]).toArray⟩, .string ⟨(decT n).toArray⟩, .string ⟨([32, 40]).toArray⟩, .string ⟨(decT D.p).toArray⟩, .string ⟨([41]).toArray⟩, .string ⟨(unsT u).toArray⟩] tS1)) rfl (by rfl) (by go_simp; try with_reducible rfl) (Cells.of_ext ((Below.refl _ _).alloc (Nat.le_refl _) _) (by intro p hp; simp only [List.mem_cons, List.not_mem_nil, or_false] at hp; have hl1 := (Array.getElem?_eq_some_iff.1 HN2.out.vv.x).1; have hl2 := (Array.getElem?_eq_some_iff.1 HN2.out.vv.y).1; rcases hp with rfl | rfl <;> first | exact hl1 | exact hl2)) ?_
 simp only [Act.put, List.setIfInBounds_toArray, List.set_cons_zero, List.set_cons_succ]
 have HR := Lib.hid (StrsAt.new (b := b) (e := tU) (t := tS1) (l := [[102, 110, 32], decT n, [32, 40], decT D.p, [41], unsT u]) (Nat.ne_of_gt HN2.out.bb.lt) (by decide) (at_alloc (w := wi1) (o := .cells #[.string ⟨([102, 110, 32]).toArray⟩, .string ⟨(decT n).toArray⟩, .string ⟨([32, 40]).toArray⟩, .string ⟨(decT D.p).toArray⟩, .string ⟨([41]).toArray⟩, .string ⟨(unsT u).toArray⟩] tS1) rfl))
 have HN3 := Lib.hid (HN2.out.below hXb ((Below.refl _ _).alloc (Nat.le_refl _) (.cells #[.string ⟨([102, 110, 32]).toArray⟩, .string ⟨(decT n).toArray⟩, .string ⟨([32, 40]).toArray⟩, .string ⟨(decT D.p).toArray⟩, .string ⟨([41]).toArray⟩, .string ⟨(unsT u).toArray⟩] tS1)))
 generalize wi1.alloc (.cells #[.string ⟨([102, 110, 32]).toArray⟩, .string ⟨(decT n).toArray⟩, .string ⟨([32, 40]).toArray⟩, .string ⟨(decT D.p).toArray⟩, .string ⟨([41]).toArray⟩, .string ⟨(unsT u).toArray⟩] tS1) = wj at HR HN3 ⊢
 refine SeqC.call (f := ?_) (args := ?_) rfl (by rfl) ?_ ?_
 rotate_left 2
 ·(go_simp; first | with_reducible rfl | (refine ⟨?_, ?_⟩ <;> with_reducible rfl))
 refine (line_c (parts := [[102, 110, 32], decT n, [32, 40], decT D.p, [41], unsT u]) HN3.out.bb HR.out (by have h1 := HLM0.out; rw [hl0] at h1; unfold headT at h1; rw [HU.out] at h1; simp only [List.length_append, List.flatten_cons, List.flatten_nil, List.append_nil, List.length_cons, List.length_nil] at h1 ⊢; omega) (by simp)).mono ?_
 rintro e w9 ⟨rfl, bl9, wr9⟩
 have HN9 := Lib.hid (HN3.out.wr hXb bl9 wr9)
 refine ⟨_, rfl, (by intro p hp; simp only [List.mem_cons, List.not_mem_nil, or_false] at hp; rcases hp with rfl | rfl <;> first | exact HN9.out.vv.cells.1.trans HN3.out.vv.cells.1.symm | exact HN9.out.vv.cells.2.1.trans HN3.out.vv.cells.2.1.symm), ?_⟩
 simp only [Act.put, List.setIfInBounds_toArray, List.set_cons_zero, List.set_cons_succ]
 refine SeqC.done ?_
 have HL0 := Lib.hid (show Now D b X (.slice (some ⟨gl, ol, none⟩) D.ls.length cl) (.slice (some ⟨gb, ob, none⟩) D.bs.length c) w [] (acc ++ nl (linL D n 0)) w9 from by rw [linL_zero, nl_one]; unfold headT; rw [HU.out]; simpa using HN9.out)
 clear bl9 wr9 HR HN9 HN0 HN1 HN2 HN3
 obtain ⟨q0, q1, q2, q3, q4⟩ := HL0.out.vv.cells
 clear HNB HLM0
 go_wp2_with fail
 clear q0 q1 q2 q3 q4
 go_loopg [29] D.ls.length (fun g s29 w8 => ∃ i : Nat, s29 = .int .i64 i ∧ i ≤ D.ls.length ∧ g = D.ls.length - i ∧ Now D b X (.slice (some ⟨gl, ol, none⟩) D.ls.length cl) (.slice (some ⟨gb, ob, none⟩) D.bs.length c) w [] (acc ++ nl (linL D n i)) w8)
 case atStart => exact ⟨0, rfl, Nat.zero_le _, rfl, HL0.out⟩
 case round =>
  clear HL0
  obtain ⟨i, rfl, hi, rfl, hnow⟩ := hrel
  have HNT := Lib.hid hnow
  have HO := Lib.hid (hnow.old HWW.out hb0)
  clear hnow
  have h0I : (0 : Int) ≤ (i : Int) := Int.natCast_nonneg _
  obtain ⟨q0, q1, q2, q3, q4⟩ := HNT.out.vv.cells
  rcases Nat.lt_or_ge i D.ls.length with hlt | hge
  ·have hltI : (i : Int) < (D.ls.length : Int) := by omega
   obtain ⟨t, ht⟩ : ∃ t, D.ls[i]? = some t := ⟨_, List.getElem?_eq_getElem hlt⟩
   have htm := List.mem_of_getElem? ht
   have hrng := range_old (HRL.out i t ht) hgl HO.out
   obtain ⟨k, m, rfl⟩ : ∃ k m : Int, t = [.int .u8 k, .int .u8 m] := by
    have hkt := HF.out.lkd t htm
    match t, hkt with
    | [_, _], ⟨⟨a, rfl, _⟩, ⟨b, rfl, _⟩, _⟩ => exact ⟨a, b, rfl⟩
   have HTI := Lib.hid (show D.ls.getD i [] = [.int .u8 k, .int .u8 m] from by rw [List.getD_eq_getElem?_getD, ht]; rfl)
   have p0 := hrng 0 _ rfl
   have p1 := hrng 1 _ rfl
   simp only [Nat.add_zero] at p0
   have HTY := Lib.hid (HC.out.ty _ htm)
   have HLM := Lib.hid (linL_lim HL.out n (i := i + 1) hlt)
   clear ht hrng htm
   go_upto_region 9 with (go_at_call 48; refine (HTY.out _ HO.out).mono ?_; rintro e w8 ⟨rfl, b8⟩)
   have HNT8 := Lib.hid (HNT.out.below hXb b8)
   clear q0 q1 q2 q3 q4 p0 p1 b8 HNT HTY
   refine region_cells [⟨X, 0, none⟩, ⟨X + 1, 0, none⟩] [(0, true), (1, true), (3, true), (2, false), (4, false), (5, false)] (by kernel_rfl) (by kernel_rfl) (by decide) (by kernel_rfl) (fun _ _ _ _ _ h => h) ?_
   have HN0 := Lib.hid (HNT8.out.drew)
   generalize w8.drew = wd at HN0 ⊢
   obtain ⟨q0, q1, q2, q3, q4⟩ := HN0.out.vv.cells
   iterate 3 (refine SeqC.take (v := ?_) rfl (by rfl) (fun W hW => ?_) ?_; rotate_left; (focus (have zq0 := hW.get (by simp) q0; have zq1 := hW.get (by simp) q1; go_simp; with_reducible rfl)); simp only [Act.put, List.setIfInBounds_toArray, List.set_cons_zero, List.set_cons_succ])
   clear q0 q1 q2 q3 q4
   refine SeqC.call (f := ?_) (args := ?_) rfl (by rfl) ?_ ?_
   rotate_left 2
   ·(go_simp; first | with_reducible rfl | (refine ⟨?_, ?_⟩ <;> with_reducible rfl))
   refine (HC.out.it (i : Nat) (by omega) (by omega) _ (HN0.out.old HWW.out hb0)).mono ?_
   rintro e wi0 ⟨rfl, bi0⟩
   have HN1 := Lib.hid (HN0.out.below hXb bi0)
   refine ⟨_, rfl, (by intro p hp; simp only [List.mem_cons, List.not_mem_nil, or_false] at hp; rcases hp with rfl | rfl <;> first | exact HN1.out.vv.cells.1.trans HN0.out.vv.cells.1.symm | exact HN1.out.vv.cells.2.1.trans HN0.out.vv.cells.2.1.symm), ?_⟩
   simp only [Act.put, List.setIfInBounds_toArray, List.set_cons_zero, List.set_cons_succ]
   clear bi0
   refine SeqC.val (v := .slice (some ⟨wi0.heap.size, 0, none⟩) 4 4) (w' := wi0.alloc (.cells #[.string ⟨([120]).toArray⟩, .string ⟨(decT (i : Nat)).toArray⟩, .string ⟨([58, 32]).toArray⟩, .string ⟨(typT [.int .u8 k, .int .u8 m]).toArray⟩] tS1)) rfl (by rfl) (by go_simp; try with_reducible rfl) (Cells.of_ext ((Below.refl _ _).alloc (Nat.le_refl _) _) (by intro p hp; simp only [List.mem_cons, List.not_mem_nil, or_false] at hp; have hl1 := (Array.getElem?_eq_some_iff.1 HN1.out.vv.x).1; have hl2 := (Array.getElem?_eq_some_iff.1 HN1.out.vv.y).1; rcases hp with rfl | rfl <;> first | exact hl1 | exact hl2)) ?_
   simp only [Act.put, List.setIfInBounds_toArray, List.set_cons_zero, List.set_cons_succ]
   have HR := Lib.hid (StrsAt.new (b := b) (e := tU) (t := tS1) (l := [[120], decT (i : Nat), [58, 32], typT [.int .u8 k, .int .u8 m]]) (Nat.ne_of_gt HN1.out.bb.lt) (by decide) (at_alloc (w := wi0) (o := .cells #[.string ⟨([120]).toArray⟩, .string ⟨(decT (i : Nat)).toArray⟩, .string ⟨([58, 32]).toArray⟩, .string ⟨(typT [.int .u8 k, .int .u8 m]).toArray⟩] tS1) rfl))
   have HN2 := Lib.hid (HN1.out.below hXb ((Below.refl _ _).alloc (Nat.le_refl _) (.cells #[.string ⟨([120]).toArray⟩, .string ⟨(decT (i : Nat)).toArray⟩, .string ⟨([58, 32]).toArray⟩, .string ⟨(typT [.int .u8 k, .int .u8 m]).toArray⟩] tS1)))
   generalize wi0.alloc (.cells #[.string ⟨([120]).toArray⟩, .string ⟨(decT (i : Nat)).toArray⟩, .string ⟨([58, 32]).toArray⟩, .string ⟨(typT [.int .u8 k, .int .u8 m]).toArray⟩] tS1) = wj at HR HN2 ⊢
   refine SeqC.call (f := ?_) (args := ?_) rfl (by rfl) ?_ ?_
   rotate_left 2
   ·(go_simp; first | with_reducible rfl | (refine ⟨?_, ?_⟩ <;> with_reducible rfl))
   refine (line_c (parts := [[120], decT (i : Nat), [58, 32], typT [.int .u8 k, .int .u8 m]]) HN2.out.bb HR.out (by have h1 := HLM.out; rw [linL_next, nl_push, HTI.out] at h1; unfold locT at h1; simp only [List.length_append, List.flatten_cons, List.flatten_nil, List.append_nil, List.length_cons, List.length_nil] at h1 ⊢; omega) (by simp)).mono ?_
   rintro e w9 ⟨rfl, bl9, wr9⟩
   have HN9 := Lib.hid (HN2.out.wr hXb bl9 wr9)
   refine ⟨_, rfl, (by intro p hp; simp only [List.mem_cons, List.not_mem_nil, or_false] at hp; rcases hp with rfl | rfl <;> first | exact HN9.out.vv.cells.1.trans HN2.out.vv.cells.1.symm | exact HN9.out.vv.cells.2.1.trans HN2.out.vv.cells.2.1.symm), ?_⟩
   simp only [Act.put, List.setIfInBounds_toArray, List.set_cons_zero, List.set_cons_succ]
   refine SeqC.done ?_
   have HLn := Lib.hid (show Now D b X (.slice (some ⟨gl, ol, none⟩) D.ls.length cl) (.slice (some ⟨gb, ob, none⟩) D.bs.length c) w [] (acc ++ nl (linL D n (i + 1))) w9 from by rw [linL_next, nl_push, HTI.out]; unfold locT; simpa using HN9.out)
   clear bl9 wr9 HR HN9 HN0 HN1 HN2
   go_wp2
   go_roundg (D.ls.length - (i + 1))
   case measure => omega
   case rel => exact ⟨i + 1, by simp, by omega, rfl, HLn.out⟩
  ·obtain rfl : i = D.ls.length := by omega
   have hN0 := HNT.out
   rw [linL_all] at hN0
   have HB0 := Lib.hid hN0
   clear hN0 HNT HO
   go_wp2_with fail
   clear q0 q1 q2 q3 q4
   go_loopg [52] D.bs.length (fun g s52 w8 => ∃ i : Nat, s52 = .int .i64 i ∧ i ≤ D.bs.length ∧ g = D.bs.length - i ∧ Now D b X (.slice (some ⟨gl, ol, none⟩) D.ls.length cl) (.slice (some ⟨gb, ob, none⟩) D.bs.length c) w [] (acc ++ nl (linB D n i)) w8)
   case atStart => exact ⟨0, rfl, Nat.zero_le _, rfl, HB0.out⟩
   case round =>
    clear HB0
    obtain ⟨i, rfl, hi2, rfl, hnow⟩ := hrel
    have HNT := Lib.hid hnow
    have HO := Lib.hid (hnow.old HWW.out hb0)
    clear hnow
    have h0I2 : (0 : Int) ≤ (i : Int) := Int.natCast_nonneg _
    rcases Nat.lt_or_ge i D.bs.length with hlt | hge2
    ·have hltI : (i : Int) < (D.bs.length : Int) := by omega
     obtain ⟨x, hx⟩ : ∃ x, D.bs[i]? = some x := ⟨_, List.getElem?_eq_getElem hlt⟩
     have hxm := List.mem_of_getElem? hx
     have hbk := HF.out.blk x hxm
     obtain ⟨As, cs, es, hms, hrs⟩ := BlkOk.stms hbk
     have hcb := range_old (HRB.out i x.cells (by rw [List.getElem?_map, hx]; rfl)) hgb HO.out
     have hbl14 := cells_len hbk
     have hb1 := blk_ones hbk
     have HGD := Lib.hid (show D.bs.getD i noB = x from by rw [List.getD_eq_getElem?_getD, hx]; rfl)
     have h24 := HL.out.s x hxm
     have hsto : (storeCells ⟨wr.heap.size, 0, none⟩ x.cells).run Tryd.prog (wr.alloc (.cells #[.slice none 0 0, .int .u8 0, .int .u8 0, .int .i64 0, .int .i64 0, .bool false, .int .u8 0, .int .i64 0, .int .i64 0, .int .i64 0, .slice none 0 0, .int .i64 0, .bool false, .int .u8 0] 52)) = .ok () (wr.alloc (.cells x.cells.toArray 52)) := run_store_fresh rfl (by rw [hbl14]; rfl) hb1
     have HCB := Lib.hid hcb
     have HES := Lib.hid es
     have HRS := Lib.hid hrs
     have HBK := Lib.hid hbk
     have HXM := Lib.hid hxm
     clear hcb es hrs hbk hxm hx
     go_upto_region 15 with (first | (refine wpList_load_mid rfl tBk _ rfl gb (ob + i * 14) rfl x.cells _ HCB.out Tryd.underlying52 rfl (by rw [hbl14]; exact bR) ?_) | (refine wpList_store_fresh rfl tBk _ _ rfl rfl _ _ (by simp) x.cells.toArray rfl rfl tBk _ (by rw [List.size_toArray, hbl14]; exact bR) (by rw [List.size_toArray, hbl14]; rfl) (by simpa using hb1) ?_))
     obtain ⟨Z, hZ⟩ : ∃ Z, Z = wr.heap.size := ⟨_, rfl⟩
     have HNZ := Lib.hid (show Now D b X (.slice (some ⟨gl, ol, none⟩) D.ls.length cl) (.slice (some ⟨gb, ob, none⟩) D.bs.length c) w [(Z, x.cells.toArray, tBk)] (acc ++ nl (linB D n i)) (wr.alloc (.cells x.cells.toArray tBk)) from (HNT.out.below hXb ((Below.refl _ _).alloc (Nat.le_refl _) _)).more (by have := HNT.out.bb.lt; omega) (by decide) (by rw [hZ]; exact at_alloc rfl))
     rw [← hZ]
     generalize wr.alloc (.cells x.cells.toArray tBk) = wz at HNZ ⊢
     have HLM := Lib.hid (linS_lim HL.out n (k := 0) hlt)
     clear hsto HNT HO HCB hZ
     refine region_cells [⟨X, 0, none⟩, ⟨X + 1, 0, none⟩] [(0, true), (1, true), (2, false), (3, false), (4, false)] (by kernel_rfl) (by kernel_rfl) (by decide) (by kernel_rfl) (fun _ _ _ _ _ h => h) ?_
     have HN0 := Lib.hid (HNZ.out.drew)
     generalize wz.drew = wd at HN0 ⊢
     obtain ⟨q0, q1, q2, q3, q4⟩ := HN0.out.vv.cells
     iterate 2 (refine SeqC.take (v := ?_) rfl (by rfl) (fun W hW => ?_) ?_; rotate_left; (focus (have zq0 := hW.get (by simp) q0; have zq1 := hW.get (by simp) q1; go_simp; with_reducible rfl)); simp only [Act.put, List.setIfInBounds_toArray, List.set_cons_zero, List.set_cons_succ])
     clear q0 q1 q2 q3 q4
     refine SeqC.call (f := ?_) (args := ?_) rfl (by rfl) ?_ ?_
     rotate_left 2
     ·(go_simp; first | with_reducible rfl | (refine ⟨?_, ?_⟩ <;> with_reducible rfl))
     refine (HC.out.it (i : Nat) (by omega) (by omega) _ (HN0.out.old HWW.out hb0)).mono ?_
     rintro e wi0 ⟨rfl, bi0⟩
     have HN1 := Lib.hid (HN0.out.below hXb bi0)
     refine ⟨_, rfl, (by intro p hp; simp only [List.mem_cons, List.not_mem_nil, or_false] at hp; rcases hp with rfl | rfl <;> first | exact HN1.out.vv.cells.1.trans HN0.out.vv.cells.1.symm | exact HN1.out.vv.cells.2.1.trans HN0.out.vv.cells.2.1.symm), ?_⟩
     simp only [Act.put, List.setIfInBounds_toArray, List.set_cons_zero, List.set_cons_succ]
     clear bi0
     refine SeqC.val (v := .slice (some ⟨wi0.heap.size, 0, none⟩) 3 3) (w' := wi0.alloc (.cells #[.string ⟨([98]).toArray⟩, .string ⟨(decT (i : Nat)).toArray⟩, .string ⟨([58]).toArray⟩] tS1)) rfl (by rfl) (by go_simp; try with_reducible rfl) (Cells.of_ext ((Below.refl _ _).alloc (Nat.le_refl _) _) (by intro p hp; simp only [List.mem_cons, List.not_mem_nil, or_false] at hp; have hl1 := (Array.getElem?_eq_some_iff.1 HN1.out.vv.x).1; have hl2 := (Array.getElem?_eq_some_iff.1 HN1.out.vv.y).1; rcases hp with rfl | rfl <;> first | exact hl1 | exact hl2)) ?_
     simp only [Act.put, List.setIfInBounds_toArray, List.set_cons_zero, List.set_cons_succ]
     have HR := Lib.hid (StrsAt.new (b := b) (e := tU) (t := tS1) (l := [[98], decT (i : Nat), [58]]) (Nat.ne_of_gt HN1.out.bb.lt) (by decide) (at_alloc (w := wi0) (o := .cells #[.string ⟨([98]).toArray⟩, .string ⟨(decT (i : Nat)).toArray⟩, .string ⟨([58]).toArray⟩] tS1) rfl))
     have HN2 := Lib.hid (HN1.out.below hXb ((Below.refl _ _).alloc (Nat.le_refl _) (.cells #[.string ⟨([98]).toArray⟩, .string ⟨(decT (i : Nat)).toArray⟩, .string ⟨([58]).toArray⟩] tS1)))
     generalize wi0.alloc (.cells #[.string ⟨([98]).toArray⟩, .string ⟨(decT (i : Nat)).toArray⟩, .string ⟨([58]).toArray⟩] tS1) = wj at HR HN2 ⊢
     refine SeqC.call (f := ?_) (args := ?_) rfl (by rfl) ?_ ?_
     rotate_left 2
     ·(go_simp; first | with_reducible rfl | (refine ⟨?_, ?_⟩ <;> with_reducible rfl))
     refine (line_c (parts := [[98], decT (i : Nat), [58]]) HN2.out.bb HR.out (by have h1 := HLM.out; rw [linS_zero, nl_push] at h1; unfold bhT at h1; simp only [List.length_append, List.flatten_cons, List.flatten_nil, List.append_nil, List.length_cons, List.length_nil] at h1 ⊢; omega) (by simp)).mono ?_
     rintro e w9 ⟨rfl, bl9, wr9⟩
     have HN9 := Lib.hid (HN2.out.wr hXb bl9 wr9)
     refine ⟨_, rfl, (by intro p hp; simp only [List.mem_cons, List.not_mem_nil, or_false] at hp; rcases hp with rfl | rfl <;> first | exact HN9.out.vv.cells.1.trans HN2.out.vv.cells.1.symm | exact HN9.out.vv.cells.2.1.trans HN2.out.vv.cells.2.1.symm), ?_⟩
     simp only [Act.put, List.setIfInBounds_toArray, List.set_cons_zero, List.set_cons_succ]
     refine SeqC.done ?_
     have HS0 := Lib.hid (show Now D b X (.slice (some ⟨gl, ol, none⟩) D.ls.length cl) (.slice (some ⟨gb, ob, none⟩) D.bs.length c) w [(Z, x.cells.toArray, tBk)] (acc ++ nl (linS D n i 0)) w9 from by rw [linS_zero, nl_push]; unfold bhT; simpa using HN9.out)
     clear bl9 wr9 HR HN9 HN0 HN1 HN2
     have hz9 := HS0.out.last
     have q5 : w9.cell? ⟨Z, 0, none⟩ = some (.slice As x.st.length cs) := by rw [cell_of_row w9 Z 0 _ tBk (0, 0) hz9, ← HES.out]; rfl
     clear hz9 HLM HNZ
     go_wp2_with fail
     clear q5
     go_loopg [65] x.st.length (fun g s65 w8 => ∃ k : Nat, s65 = .int .i64 k ∧ k ≤ x.st.length ∧ g = x.st.length - k ∧ Now D b X (.slice (some ⟨gl, ol, none⟩) D.ls.length cl) (.slice (some ⟨gb, ob, none⟩) D.bs.length c) w [(Z, x.cells.toArray, tBk)] (acc ++ nl (linS D n i k)) w8)
     case atStart => exact ⟨0, rfl, Nat.zero_le _, rfl, HS0.out⟩
     case round =>
      clear HS0
      obtain ⟨k, rfl, hk, rfl, hnow⟩ := hrel
      have HNT := Lib.hid hnow
      have HO := Lib.hid (hnow.old HWW.out hb0)
      clear hnow
      have h0K : (0 : Int) ≤ (k : Int) := Int.natCast_nonneg _
      rcases Nat.lt_or_ge k x.st.length with hkl | hkg
      ·have hklI : (k : Int) < (x.st.length : Int) := by omega
       obtain ⟨el, hel⟩ : ∃ el, x.st[k]? = some el := ⟨_, List.getElem?_eq_getElem hkl⟩
       have helm := List.mem_of_getElem? hel
       have hkk := HBK.out.skd el helm
       obtain ⟨gs, os, eS, hgs, hrng⟩ := (HRS.out.below HO.out) k el hel
       subst eS
       have h26 : el.length = 26 := hkk.len.symm
       have h1s := stm_ones hkk
       have HRN := Lib.hid hrng
       have HST := Lib.hid (HC.out.st x HXM.out el helm)
       have HNX := Lib.hid (linS_next (n := n) (i := i) (by rw [HGD.out]; exact hel))
       have HLM := Lib.hid (linS_lim HL.out n (k := k + 1) hlt)
       have hsto2 : (storeCells ⟨wr.heap.size, 0, none⟩ el).run Tryd.prog (wr.alloc (.cells #[.int .u8 0, .int .i64 0, .bool false, .int .u8 0, .int .u8 0, .int .u8 0, .int .u8 0, .int .u8 0, .int .i64 0, .int .i64 0, .bool false, .int .u8 0, .int .u8 0, .int .i64 0, .int .i64 0, .bool false, .int .u8 0, .int .i64 0, .bool false, .int .u8 0, .int .u8 0, .int .i64 0, .int .i64 0, .bool false, .int .u8 0, .int .i64 0] 59)) = .ok () (wr.alloc (.cells el.toArray 59)) := run_store_fresh rfl (by rw [h26]; rfl) h1s
       clear hrng hel hkk helm
       go_upto_region 19 with (refine wpList_load_mid rfl tSt _ rfl gs (os + k * 26) rfl el _ HRN.out Tryd.underlying59 rfl (by rw [h26]; exact sR) ?_)
       have hre : (wr.alloc (.cells el.toArray tSt)).rangeAt wr.heap.size 0 el := fun j u hj => by
        rw [Nat.zero_add, cell_of_row _ wr.heap.size j _ tSt (0, 0) (at_alloc rfl)]
        simpa using hj
       have HRE := Lib.hid hre
       have HNY := Lib.hid (HNT.out.below hXb ((Below.refl _ _).alloc (Nat.le_refl _) (.cells el.toArray tSt)))
       clear hre hsto2 HNT HRN HO
       generalize wr.heap.size = Y at *
       generalize wr.alloc (.cells el.toArray tSt) = wy at *
       have HOY := Lib.hid (HNY.out.old HWW.out hb0)
       go_wp2_with (first | (refine wpList_load_mid rfl tSt _ rfl Y 0 rfl el _ HRE.out Tryd.underlying59 rfl (by rw [h26]; exact sR) ?_) | (go_at_call 15; refine (HST.out _ HOY.out).mono ?_; rintro e w8 ⟨rfl, b8⟩; have HN8 := Lib.hid (HNY.out.below hXb b8)) | (go_at_call 49; refine (in_c HN8.out.bb HN8.out.vv.x (by have h1 := HLM.out; rw [HNX.out, nl_push] at h1; unfold stL at h1; simp only [List.length_append, List.length_cons, List.length_nil] at h1 ⊢; omega)).mono ?_; rintro e w9 ⟨rfl, bl9, wr9⟩))
       have HN9 := Lib.hid (HN8.out.wr hXb bl9 wr9)
       go_roundg (x.st.length - (k + 1))
       case measure => omega
       case rel => exact ⟨k + 1, by simp, by omega, rfl, by rw [HNX.out, nl_push, ← List.append_assoc]; exact HN9.out⟩
      ·obtain rfl : k = x.st.length := by omega
       have hz := HNT.out.last
       have hrj : wr.rangeAt Z 1 (x.pre ++ x.a :: x.post) := fun j u hj => by
        rw [cell_of_row _ Z (1 + j) _ tBk (0, 0) hz, Nat.add_comm 1 j]
        simpa [BlkD.cells] using hj
       have hj13 : (x.pre ++ x.a :: x.post).length = 13 := by
        have : x.cells.length = (x.pre ++ x.a :: x.post).length + 1 := rfl
        omega
       have HRJ := Lib.hid hrj
       have HJM := Lib.hid (HC.out.jm x HXM.out)
       have hla := linS_all D n i
       rw [HGD.out] at hla
       have HLA := Lib.hid hla
       have HLM := Lib.hid (linB_lim HL.out n (i := i + 1) hlt)
       clear hz hrj hla
       go_wp2_with (first | (refine wpList_load_mid rfl tJm _ rfl Z 1 rfl (x.pre ++ x.a :: x.post) _ HRJ.out Tryd.underlying50 rfl (by rw [hj13]; exact jR) ?_) | (go_at_call 14; refine (HJM.out _ HO.out).mono ?_; rintro e w8 ⟨rfl, b8⟩; have HN8 := Lib.hid (HNT.out.below hXb b8)) | (go_at_call 49; refine (in_c HN8.out.bb HN8.out.vv.x (by have h1 := HLM.out; rw [← HLA.out, nl_push] at h1; unfold jmL at h1; simp only [List.length_append, List.length_cons, List.length_nil] at h1 ⊢; omega)).mono ?_; rintro e w9 ⟨rfl, bl9, wr9⟩))
       have HN9 := Lib.hid (HN8.out.wr hXb bl9 wr9)
       go_roundg (D.bs.length - (i + 1))
       case measure => omega
       case rel => exact ⟨i + 1, by simp, by omega, rfl, by rw [← HLA.out, nl_push, ← List.append_assoc]; exact HN9.out.less⟩
    ·obtain rfl : i = D.bs.length := by omega
     go_wp2_with fail
     go_end0
     exact ⟨rfl, HNT.out.bb, HNT.out.ww⟩
end Go.Proofs.YtglmonlofejcgaaDoor.txt
