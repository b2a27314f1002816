/- text.Line: the line of a point of a sound function. -/
import Derived.Test.YtglmonlofejcgaaGreatDoorPgQ
set_option maxHeartbeats 8000000
set_option maxRecDepth 100000
open Int renaming natCast_nonneg → apu
open List renaming setIfInBounds_toArray → apv, getElem?_eq_getElem → apw, mem_of_getElem? → apx, set_cons_zero → apy, set_cons_succ → apz, getElem?_map → apA
set_option linter.unusedVariables false
namespace Go.Proofs.YtglmonlofejcgaaGreatDoor
namespace txt
open Go.RowKit Am loan bld
abbrev tPt : TypeId := 27
def anh (x y : Int) (W : World) (e : Ending) (W' : World) : Prop := e = .returned (.tuple #[.int .i64 x, .int .i64 y]) /\ Below W.heap.size W W'
theorem ajc {w : World} {v : Value} {D : FnD} (hF : aV w v D) (hL : Lim D) (hC : a5B 21 w v 0) {pb pi : Nat} (h1 : pb < D.bs.length) (hy : pi <= Qm D.bs pb) : Calls Tryz.prog 11 #[v, .agg #[.int .i64 (pb : Nat), .int .i64 (pi : Nat)]] w (anh ((D.ls.length + 2 + pi + oD D.bs pb + pb : Nat) : Int) 0 w) := by
 obtain ⟨A, c, eb, hmb, hrb⟩ := aV.blks hF
 obtain ⟨Al, cl, el, hml, hrl⟩ := cZ.rows hF.locals (by decide)
 have hcap : D.bs.length <= c := (hF.blocks.cap (by intro h; have := hL.b0; rw [List.map_eq_nil_iff] at h; rw [h] at this; simp at this) _ _ _ (by rw [eb])).1
 obtain ⟨gb, ob, rfl, hgb, hrb⟩ := nY hrb (by rw [List.length_map]; exact hL.b0)
 have hnl := hL.l
 have hnb := hL.b
 unfold a5B at hC
 rw [hF.eq, eb] at hC |-
 have HC := Lib.hid hC
 have HF := Lib.hid hF
 have HL := Lib.hid hL
 have HRB := Lib.hid hrb
 rw [el] at HC |-
 clear hC hF hL hrb eb el
 obtain ⟨w1, hw1⟩ : ∃ w1, w1 = (w.alloc (.cells #[.int .i64 D.p, .bool D.u, .slice Al D.ls.length cl, .slice (some ⟨gb, ob, none⟩) D.bs.length c] tFn)).alloc (.cells #[.int .i64 (pb : Nat), .int .i64 (pi : Nat)] tPt) := ⟨_, rfl⟩
 have b1 : Below w.heap.size w w1 := by rw [hw1]; exact ((Below.refl _ _).alloc (Nat.le_refl _) _).alloc (by simp) _
 have B1 : Box w1 w.heap.size tFn (.int .i64 D.p) (.bool D.u) (.slice Al D.ls.length cl) (.slice (some ⟨gb, ob, none⟩) D.bs.length c) := by rw [hw1]; exact (Box.mk rfl).more
 have P1 : w1.heap[w.heap.size + 1]? = some (.cells #[.int .i64 (pb : Nat), .int .i64 (pi : Nat)] tPt (0, 0)) := by rw [hw1]; exact aX (by simp)
 go_enter Tryz.func11, Tryz.ntmps11
 go_upto_region 4 with (rw [<- hw1]; go_at_call 21; refine (HC.out _ b1).mono ?_; rintro e wd ⟨rfl, b2⟩)
 obtain ⟨y0, y1, y2, y3⟩ := (B1.below b2).cells
 have P2 := (b2.block _ (Array.getElem?_eq_some_iff.1 P1).1).trans P1
 have p0 : wd.cell? ⟨w.heap.size + 1, 0, none⟩ = some (.int .i64 (pb : Nat)) := by rw [cell_of_row wd _ 0 _ tPt (0, 0) P2]; rfl
 have p1 : wd.cell? ⟨w.heap.size + 1, 1, none⟩ = some (.int .i64 (pi : Nat)) := by rw [cell_of_row wd _ 1 _ tPt (0, 0) P2]; rfl
 have HB2 := Lib.hid (b1.trans (b2.mono b1.size))
 have HP2 := Lib.hid P2
 have HX2 := Lib.hid (B1.below b2)
 clear hw1 b1 B1 P1 b2 P2
 obtain ⟨x, hx⟩ : ∃ x, D.bs[pb]? = some x := ⟨_, apw h1⟩
 have hxm := apx hx
 obtain ⟨As, cs, es, hms, _⟩ := jY.X6 (HF.out.blk x hxm)
 have h24 := HL.out.s x hxm
 have c0 : wd.cell? ⟨gb, ob + pb * 14, none⟩ = some (.slice As x.st.length cs) := by
  have := dX (HRB.out pb x.cells (by rw [apA, hx]; rfl)) hgb HB2.out 0 x.s rfl
  rw [es] at this
  exact this
 have HX := Lib.hid hx
 clear hx hxm es
 have h0I : (0 : Int) <= (pb : Int) := apu _
 have hltI : (pb : Int) < (D.bs.length : Int) := by omega
 have hd0 : ¬ (pb : Int) < 0 := by omega
 have hd : decide ((pb : Int) < 0) = false := decide_eq_false hd0
 have hd1 : decide ((pb : Int) >= (D.bs.length : Int)) = false := decide_eq_false (by omega)
 have hd3 : decide (D.bs.length <= pb) = false := decide_eq_false (by omega)
 have hd4 : ¬ D.bs.length <= pb := by omega
 rw [a3m HX.out] at hy
 have hp0 : (0 : Int) <= (pi : Int) := apu _
 have hyI : (pi : Int) <= (x.st.length : Int) := by omega
 have hy0 : ¬ (pi : Int) < 0 := by omega
 have hd2 : decide ((pi : Int) < 0) = false := decide_eq_false hy0
 have hd5 : decide ((pi : Int) > (x.st.length : Int)) = false := decide_eq_false (by omega)
 have hd6 : decide (x.st.length < pi) = false := decide_eq_false (by omega)
 have hd7 : ¬ x.st.length < pi := by omega
 refine bZ [⟨w.heap.size + 1, 0, none⟩, ⟨w.heap.size + 1, 1, none⟩, ⟨w.heap.size, 3, none⟩, ⟨gb, ob + pb * 14, none⟩] [(0, true), (1, true), (2, true), (3, true), (4, true), (5, true), (6, true), (7, true), (8, true), (9, true), (10, true), (11, true), (12, true), (13, true), (14, true), (15, true), (16, true), (17, true), (18, true), (19, true), (20, true), (21, true), (22, true), (23, true), (24, true), (25, true), (26, true), (27, true), (28, true)] (by kernel_rfl) (by kernel_rfl) (by decide) (by kernel_rfl) (fun _ _ _ _ _ h => h) ?_
 have p0 : wd.drew.cell? ⟨w.heap.size + 1, 0, none⟩ = _ := p0
 have p1 : wd.drew.cell? ⟨w.heap.size + 1, 1, none⟩ = _ := p1
 have y3 : wd.drew.cell? ⟨w.heap.size, 3, none⟩ = _ := y3
 have c0 : wd.drew.cell? ⟨gb, ob + pb * 14, none⟩ = _ := c0
 repeat (first | (refine SeqC.take (v := ?_) rfl (by rfl) (fun W hW => ?_) ?_; rotate_left; (focus (have zp0 := hW.get (by simp) p0; have zp1 := hW.get (by simp) p1; have zy3 := hW.get (by simp) y3; have zc0 := hW.get (by simp) c0; go_simp; with_reducible rfl)); simp only [Act.put, apv, apy, apz]) | (refine SeqC.skip rfl (by rfl) ?_; simp only [Act.put, apv, apy, apz]))
 refine SeqC.done ?_
 clear hd hd0 hd1 hd2 hd3 hd4 hd5 hd6 hd7 c0
 have HB3 := Lib.hid HB2.out.drew
 have HX3 := Lib.hid (show Box wd.drew w.heap.size tFn (.int .i64 D.p) (.bool D.u) (.slice Al D.ls.length cl) (.slice (some ⟨gb, ob, none⟩) D.bs.length c) from HX2.out)
 generalize wd.drew = wf at *
 obtain ⟨y0, y1, y2, y3⟩ := HX3.out.cells
 have hpc : (pb : Int) <= (c : Int) := by omega
 go_wp2_with fail
 clear y0 y1 y2 y3
 go_loopg [7, 57] pb (fun g s7 s57 w8 => ∃ (j : Nat) (t : Int), s57 = .int .i64 j /\ s7 = .int .i64 t /\ j <= pb /\ g = pb - j /\ t = (D.ls.length : Int) + 2 + (pi : Int) + ((oD D.bs j + j : Nat) : Int) /\ Below wf.heap.size wf w8)
 case atStart => exact ⟨0, _, rfl, rfl, Nat.zero_le _, rfl, by simp [oD], Below.refl _ _⟩
 case round =>
  obtain ⟨j, t, rfl, rfl, hj, rfl, ht, hbel⟩ := hrel
  have h0J : (0 : Int) <= (j : Int) := apu _
  have hst := Xt (aiv HL.out.s) j
  have ht0 : 0 <= t := by omega
  have ht1 : t <= 10000 := by omega
  have HT := Lib.hid ht
  have HBL := Lib.hid hbel
  clear ht hbel
  rcases Nat.lt_or_ge j pb with hlt | hge
  ·have hltJ : (j : Int) < (pb : Int) := by omega
   obtain ⟨z, hz⟩ : ∃ z, D.bs[j]? = some z := ⟨_, apw (by omega)⟩
   have hzm := apx hz
   have hbk := HF.out.blk z hzm
   obtain ⟨Az, cz, ez, hmz, _⟩ := jY.X6 hbk
   have hz24 := HL.out.s z hzm
   have HCB := Lib.hid (dX (HRB.out j z.cells (by rw [apA, hz]; rfl)) hgb (HB3.out.trans (HBL.out.mono HB3.out.size)))
   have hbl14 := mG hbk
   have hb1 := xw hbk
   have HLB := Lib.hid (a3m hz)
   have HEZ := Lib.hid ez
   have hsto : (storeCells ⟨wr.heap.size, 0, none⟩ z.cells).run Tryz.prog (wr.alloc (.cells #[.slice none 0 0, .int .u8 0, .int .u8 0, .int .i64 0, .int .i64 0, .bool false, .int .u8 0, .int .i64 0, .int .i64 0, .int .i64 0, .slice none 0 0, .int .i64 0, .bool false, .int .u8 0] 60)) = .ok () (wr.alloc (.cells z.cells.toArray 60)) := pJ rfl (by rw [hbl14]; rfl) hb1
   clear hz hzm hbk ez
   go_upto_region 10 with (refine wpList_load_mid rfl tBk _ rfl gb (ob + j * 14) rfl z.cells _ HCB.out Tryz.underlying60 rfl (by rw [hbl14]; exact bR) ?_)
   have q0 : (wr.alloc (.cells z.cells.toArray tBk)).cell? ⟨wr.heap.size, 0, none⟩ = some (.slice Az z.st.length cz) := by rw [cell_of_row _ wr.heap.size 0 _ tBk (0, 0) (aX rfl), <- HEZ.out]; rfl
   have HBZ := Lib.hid (HBL.out.alloc HBL.out.size (.cells z.cells.toArray tBk))
   clear hsto
   generalize wr.heap.size = H at *
   generalize wr.alloc (.cells z.cells.toArray tBk) = wz at *
   go_wp2_with fail
   go_roundg (pb - (j + 1))
   case measure => omega
   case rel =>
    have h1 := HT.out
    have h2 : oD D.bs (j + 1) = oD D.bs j + (Qm D.bs j + 1) := rfl
    have h3 := HLB.out
    exact ⟨j + 1, _, by simp, rfl, by omega, rfl, by omega, HBZ.out⟩
  ·obtain rfl : j = pb := by omega
   go_wp2_with fail
   go_ret2
   have h1 := HT.out
   exact ⟨by rw [show ((D.ls.length + 2 + pi + oD D.bs j + j : Nat) : Int) = t from by omega]; rfl, HB3.out.trans (HBL.out.mono HB3.out.size)⟩
end txt
end Go.Proofs.YtglmonlofejcgaaGreatDoor
