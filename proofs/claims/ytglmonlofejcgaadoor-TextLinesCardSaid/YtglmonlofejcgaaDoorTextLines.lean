/- TextLines: the law answers true for every function and number. -/
import Derived.Test.YtglmonlofejcgaaDoorTextLinesN
namespace Go.Proofs.YtglmonlofejcgaaDoor.txt
open Go.RowKit Go.Proofs.YtglmonlofejcgaaDoor Go.Proofs.YtglmonlofejcgaaDoor.Am Go.Proofs.YtglmonlofejcgaaDoor.loan Go.Proofs.YtglmonlofejcgaaDoor.bld
set_option linter.unusedVariables false
theorem start_acc (D : FnD) : ∀ i, i ≤ D.bs.length → ((startOf D.bs i : Nat) : Int) = (i : Int) + acc (fun b : BlkD => (b.st.length : Int)) (D.bs.take i)
 | 0, _ => rfl
 | i + 1, h => by
  rw [acc_take _ _ b0 (by omega)]
  have h1 := start_acc D i (by omega)
  have h2 : startOf D.bs (i + 1) = startOf D.bs i + (lenB D.bs i + 1) := rfl
  rw [h2]
  unfold lenB
  omega
theorem size_start (D : FnD) : size.sizeF D = ((startOf D.bs D.bs.length : Nat) : Int) := by
 rw [start_acc D _ (Nat.le_refl _), List.take_length]
 rfl
theorem two_str (l : List UInt8) : (32 :: 32 :: l == ((⟨#[32, 32]⟩ : ByteArray) ++ ⟨l.toArray⟩).toList) = true := by
 rw [show (⟨#[32, 32]⟩ : ByteArray) = ⟨[32, 32].toArray⟩ from rfl, ByteArray.mk_append_mk, ByteArray.toList_eq]
 simp
theorem jm_range {w : World} {g o : Nat} {b : BlkD} (h : w.rangeAt g o b.cells) : w.rangeAt g (o + 1) (b.pre ++ b.a :: b.post) := fun j u hj => by
 have := h (j + 1) u (by unfold BlkD.cells; rw [List.getElem?_cons_succ]; exact hj)
 rwa [show o + 1 + j = o + (j + 1) by omega]
theorem jm_len {w : World} {b : BlkD} (h : BlkOk w b) : (b.pre ++ b.a :: b.post).length = 13 := by
 have := cells_len h
 unfold BlkD.cells at this
 rw [List.length_cons] at this
 omega
set_option maxHeartbeats 16000000 in
set_option maxRecDepth 100000 in
theorem tlines_main {w : World} {v : Value} {D : FnD} {n : Int} (h : FnOk' w v D) (kt : TabOk w) (hg : great.greatF D = false) (hc : check.chkF D = 0) (n0 : ¬ n < 0) (n7 : ¬ n > 7) : Calls Tryd.prog 4 #[v, .int .i64 n] w (YesH w) := by
 have k := txt_ok hc
 have hSM : Small D := ⟨k.b1, k.s⟩
 have hG := fun (w1 : World) (hb : Below w.heap.size w w1) => great.great_ans (h.frz hb.block)
 have hC := fun (w1 : World) (hb : Below w.heap.size w w1) => refC.check_same (h.frz hb.block)
 have HA := Lib.hid (fun (w1 : World) (hb : Below w.heap.size w w1) => alive_c (tab_more kt hb))
 have hK : ∀ w1, Below w.heap.size w w1 → ChkT 23 w1 v 0 := fun w1 hb => by have := chk_a (h.frz hb.block); rwa [hc] at this
 have hF := fun (w1 : World) (hb : Below w.heap.size w w1) => func_c (h.frz hb.block) (lim_of h hc) (cons_of (h.frz hb.block) (tab_more kt hb) hc) (n := n) (by omega) (by omega) (hK w1 hb)
 have hZ : ∀ w1, Below w.heap.size w w1 → Calls Tryd.prog 11 #[v] w1 (bld.Ans w1 (.tuple #[.int .i64 (size.sizeF D), .int .i64 0])) := fun w1 hb => size.size_ans (h.frz hb.block) hc
 have hP := fun (w1 : World) (hb : Below w.heap.size w w1) => points_c (h.frz hb.block) hSM (hK w1 hb)
 have hT : ∀ (w1 : World) (hb : Below w.heap.size w w1) (i j : Nat) (hi : i < D.bs.length) (hj : j ≤ lenB D.bs i), Calls Tryd.prog 13 #[v, .agg #[.int .i64 (i : Nat), .int .i64 (j : Nat)]] w1 (Ans2 ((lineAt D i j : Nat) : Int) 0 w1) := fun w1 hb i j hi hj => tline_c (h.frz hb.block) (lim_of h hc) (hK w1 hb) hi hj
 have HCN := Lib.hid (cons_of h kt hc)
 rw [hg] at hG
 rw [hc] at hC
 obtain ⟨A1, dl, q1⟩ := h.locals.sl
 obtain ⟨A2, db, q2, hmb, hrb⟩ := FnOk'.blks h
 have hcap : D.bs.length ≤ db := (h.blocks.cap (by intro e; have := k.b0; rw [List.map_eq_nil_iff] at e; rw [e] at this; simp at this) _ _ _ (by rw [q2])).1
 obtain ⟨gb, ob, rfl, hgb, hrb⟩ := rows_some hrb (by rw [List.length_map]; exact k.b0)
 rw [h.eq, q1, q2] at hG hC hF hZ hP hT ⊢
 have T0 := Lib.hid (show One w { D with lv := .slice A1 D.ls.length dl, bv := .slice (some ⟨gb, ob, none⟩) D.bs.length db } (w.alloc (.cells #[.int .i64 D.p, .bool D.u, .slice A1 D.ls.length dl, .slice (some ⟨gb, ob, none⟩) D.bs.length db] tFn)) from ⟨(Below.refl _ _).alloc (Nat.le_refl _) _, Box.mk rfl⟩)
 obtain ⟨y0, y1, y2, y3⟩ := T0.out.x.cells
 have HG := Lib.hid hG
 have HC := Lib.hid hC
 have HF := Lib.hid hF
 have HZ := Lib.hid hZ
 have HP := Lib.hid hP
 have HT := Lib.hid hT
 have HRB := Lib.hid hrb
 have HFN := Lib.hid h
 have HL1 := Lib.hid (lines_of (lim_of h hc) n)
 have HCAP := Lib.hid (show (linesF D n).length ≤ 1000 from by have h1 := linB_cnt (lim_of h hc) n D.bs.length; have h2 := k.b1; have h3 : (linesF D n).length ≤ 17 + 26 * D.bs.length := h1; omega)
 have HB0 := Lib.hid k.b0
 have HS := Lib.hid (hSM.start (Nat.le_refl D.bs.length))
 clear hG hC hF hZ hP hT hrb h q1 q2 hK
 go_enter Tryd.func4, Tryd.ntmps4
 go_upto_region 3 with (first | (go_at_call 7; refine (HC.out _ T1.out.b).mono ?_; rintro e w2 ⟨rfl, b2⟩; have T2 := Lib.hid (T1.out.below b2)) | (go_at_call 6; refine (HG.out _ T0.out.b).mono ?_; rintro e w1 ⟨rfl, b1⟩; have T1 := Lib.hid (T0.out.below b1); obtain ⟨r0, r1, r2, r3⟩ := T1.out.x.cells))
 clear y0 y1 y2 y3 r0 r1 r2 r3 T0 T1 b1 b2
 obtain ⟨y0, y1, y2, y3⟩ := T2.out.x.cells
 go_upto_region 4 with (go_at_call 9; refine (HF.out _ T2.out.b).mono ?_; rintro e w3 ⟨rfl, b3⟩)
 have T3 := Lib.hid (T2.out.below b3)
 clear y0 y1 y2 y3 b3 T2
 obtain ⟨y0, y1, y2, y3⟩ := T3.out.x.cells
 go_upto_region 5 with (go_at_call 11; refine (HZ.out _ T3.out.b).mono ?_; rintro e w4 ⟨rfl, b4⟩)
 have T4 := Lib.hid (T3.out.below b4)
 clear y0 y1 y2 y3 b4 T3
 obtain ⟨y0, y1, y2, y3⟩ := T4.out.x.cells
 go_upto_region 6 with (go_at_call 12; refine (HP.out _ T4.out.b).mono ?_; rintro e w5 ⟨sp, rfl, np⟩)
 have T5 := Lib.hid (T4.out.below np.2)
 obtain ⟨Ap, cp, rfl, hrp⟩ := np.read (by decide) (ptsL_2 D)
 clear y0 y1 y2 y3 T4 np
 have HPR := Lib.hid hrp
 clear hrp
 obtain ⟨y0, y1, y2, y3⟩ := T5.out.x.cells
 go_upto_region 7 with (go_at_call 10; refine (HL1.out _).mono ?_; rintro e w6 ⟨s1, rfl, own1, b6⟩)
 obtain ⟨Ax, cx, rfl, hrx⟩ := RowsAt.own (els := (linesF D n).map fun l => [Value.string ⟨l.toArray⟩]) (by rw [strs_flat]; exact own1) (List.length_map _) (by decide) (fun x hx => by obtain ⟨q, _, rfl⟩ := List.mem_map.1 hx; rfl)
 obtain ⟨gx, ox, rfl, hgx, hrx⟩ := rows_some hrx (by rw [List.length_map, lines_size]; omega)
 have T6 := Lib.hid (T5.out.below b6)
 have HPR6 := Lib.hid (HPR.out.below b6)
 rw [List.length_map] at *
 have HX := Lib.hid (fun (i : Nat) (l : List UInt8) (hl : (linesF D n)[i]? = some l) (W : World) (hW : Below w6.heap.size w6 W) => range_old (hrx i [.string ⟨l.toArray⟩] (by rw [List.getElem?_map, hl]; rfl)) hgx hW)
 clear y0 y1 y2 y3 T5 b6 own1 hrx hgx HPR
 obtain ⟨y0, y1, y2, y3⟩ := T6.out.x.cells
 have HNN := Lib.hid (lines_size D n)
 have hsz := size_start D
 have hst0 := HS.out
 have hpl := ptsL_len D
 unfold sizeN at hpl
 have hcap2 := HCAP.out
 have hnn := HNN.out
 have HSTOP := Lib.hid (fun (t : Int) => LastIs.stop (D := D) (n := n) (t := t) HB0.out)
 rw [hsz, hpl]
 generalize hSS : startOf D.bs D.bs.length = S at *
 have HSS := Lib.hid hSS
 clear hSS hsz hpl
 generalize hNL : (linesF D n).length = N at *
 have HNL := Lib.hid hNL
 clear hNL
 have hq : ((N : Int) != (S : Int) + (D.bs.length : Int) + (D.ls.length : Int) + 1) = false := by
  have : (N : Int) = (S : Int) + (D.bs.length : Int) + (D.ls.length : Int) + 1 := by omega
  rw [this]
  simp
 have hS0 : (0 : Int) ≤ (S : Int) := Int.natCast_nonneg _
 have hb24 := k.b1
 have hl16 := k.l1
 clear hnn
 go_upto_region 9 with fail
 go_wp2_with fail
 clear y0 y1 y2 y3 hq
 go_loopg [13, 14] S (fun g s13 s14 w8 => ∃ (m : Nat) (t : Int), s14 = .int .i64 m ∧ s13 = .int .i64 t ∧ m ≤ S ∧ g = S - m ∧ LastIs D m t ∧ Below w6.heap.size w6 w8)
 case atStart => exact ⟨0, _, rfl, rfl, Nat.zero_le _, rfl, LastIs.start D, Below.refl _ _⟩
 case round =>
  obtain ⟨m, t, rfl, rfl, hm, rfl, hlast, hbel⟩ := hrel
  have h0M : (0 : Int) ≤ (m : Int) := Int.natCast_nonneg _
  have T8 := Lib.hid (T6.out.below hbel)
  have HBL := Lib.hid hbel
  have HLA := Lib.hid hlast
  have HPR8 := Lib.hid (HPR6.out.below hbel)
  clear hbel hlast
  rcases Nat.lt_or_ge m S with hlt | hge
  ·have hltI : (m : Int) < (S : Int) := by omega
   obtain ⟨i, j, hi, hj, hme⟩ := pt_ex (bs := D.bs) (N := D.bs.length) (n := m) (by rw [HSS.out]; exact hlt)
   obtain ⟨gp, op, eA, hgp, hrng⟩ := HPR8.out m (ptV (i, j)) (by unfold ptsL; rw [List.getElem?_map, hme, pt_get hi hj]; rfl)
   subst eA
   have c0 := hrng 0 _ rfl
   have c1 := hrng 1 _ rfl
   simp only [Nat.add_zero] at c0
   have HME := Lib.hid hme
   clear hrng hme
   go_upto_region 14 with fail
   have TX := Lib.hid (T8.out.below ((Below.refl _ _).alloc (Nat.le_refl _) (.cells #[.int .i64 (i : Nat), .int .i64 (j : Nat)] tPt)))
   have PX : (wr.alloc (.cells #[.int .i64 (i : Nat), .int .i64 (j : Nat)] tPt)).heap[wr.heap.size]? = some (.cells #[.int .i64 (i : Nat), .int .i64 (j : Nat)] tPt (0, 0)) := at_alloc rfl
   have BX := Lib.hid (HBL.out.alloc HBL.out.size (.cells #[.int .i64 (i : Nat), .int .i64 (j : Nat)] tPt))
   clear c0 c1 T8
   generalize wr.heap.size = X at *
   generalize wr.alloc (.cells #[.int .i64 (i : Nat), .int .i64 (j : Nat)] tPt) = wz at *
   have HPX := Lib.hid PX
   obtain ⟨x, hx⟩ : ∃ x, D.bs[i]? = some x := ⟨_, List.getElem?_eq_getElem hi⟩
   have hxm := List.mem_of_getElem? hx
   have hbk := HFN.out.blk x hxm
   obtain ⟨As, cs, es, hms, hrs⟩ := BlkOk.stms hbk
   have h24 := k.s x hxm
   have HBK := Lib.hid hbk
   have HXM := Lib.hid hxm
   have HRS := Lib.hid hrs
   have HRX := Lib.hid (fun (W : World) (hW : Below w.heap.size w W) => range_old (HRB.out i x.cells (by rw [List.getElem?_map, hx]; rfl)) hgb hW)
   have HES := Lib.hid es
   have hjl : j ≤ x.st.length := by rw [lenB_of hx] at hj; exact hj
   have HT9 := Lib.hid (fun (W : World) (hW : Below w.heap.size w W) => HT.out W hW i j hi hj)
   have HLT := Lib.hid (HLA.out)
   have hll : ((lineAt D i j : Nat) : Int) > t := by have := HLA.out; rw [HME.out] at this; exact LastIs.lt hj this
   have hln := line_lt (n := n) hi hj
   rw [HNL.out] at hln
   have HLL := Lib.hid (line_at (n := n) hi hj)
   have HPL := Lib.hid (show pointL (D.bs.getD i noB) j = pointL x j from by rw [List.getD_eq_getElem?_getD, hx]; rfl)
   have HNEXT := Lib.hid (LastIs.next hi hj)
   clear hbk hxm hrs es PX hms
   generalize hLA : lineAt D i j = L at *
   have HLAT := Lib.hid hLA
   clear hLA
   have h0I : (0 : Int) ≤ (i : Int) := Int.natCast_nonneg _
   have h0J : (0 : Int) ≤ (j : Int) := Int.natCast_nonneg _
   have hiI : (i : Int) < (D.bs.length : Int) := by omega
   have hjI : (j : Int) ≤ (x.st.length : Int) := by omega
   have hxlt : X < wz.heap.size := (Array.getElem?_eq_some_iff.1 HPX.out).1
   have c0 : wz.cell? ⟨X, 0, none⟩ = some (.int .i64 (i : Nat)) := by rw [cell_of_row wz _ 0 _ tPt (0, 0) HPX.out]; rfl
   have c1 : wz.cell? ⟨X, 1, none⟩ = some (.int .i64 (j : Nat)) := by rw [cell_of_row wz _ 1 _ tPt (0, 0) HPX.out]; rfl
   obtain ⟨y0, y1, y2, y3⟩ := TX.out.x.cells
   have q0 : wz.cell? ⟨gb, ob + i * 14, none⟩ = some (.slice As x.st.length cs) := by have := HRX.out wz TX.out.b 0 x.s rfl; rw [HES.out] at this; exact this
   have hd0 : decide ((i : Int) < 0) = false := decide_eq_false (by omega)
   have hd0' : ¬ (i : Int) < 0 := by omega
   have hd1 : decide ((i : Int) ≥ (D.bs.length : Int)) = false := decide_eq_false (by omega)
   have hd3 : decide (D.bs.length ≤ i) = false := decide_eq_false (by omega)
   have hd4 : ¬ D.bs.length ≤ i := by omega
   have hy0 : ¬ (j : Int) < 0 := by omega
   have hd2 : decide ((j : Int) < 0) = false := decide_eq_false hy0
   have hd5 : decide ((j : Int) > (x.st.length : Int)) = false := decide_eq_false (by omega)
   have hd6 : decide (x.st.length < j) = false := decide_eq_false (by omega)
   have hd7 : ¬ x.st.length < j := by omega
   refine region_cells [⟨X, 0, none⟩, ⟨X, 1, none⟩, ⟨w.heap.size, 3, none⟩, ⟨gb, ob + i * 14, none⟩] [(0, true), (1, true), (2, true), (3, true), (4, true), (5, true), (6, true), (7, true), (8, true), (9, true), (10, true), (11, true), (12, true), (13, true), (14, true), (15, true), (16, true), (17, true), (18, true), (19, true), (20, true), (21, true), (22, true), (23, true), (24, true), (25, true), (26, true), (27, true), (28, true)] (by kernel_rfl) (by kernel_rfl) (by decide) (by kernel_rfl) (fun _ _ _ _ _ h => h) ?_
   have c0 : wz.drew.cell? ⟨X, 0, none⟩ = _ := c0
   have c1 : wz.drew.cell? ⟨X, 1, none⟩ = _ := c1
   have y3 : wz.drew.cell? ⟨w.heap.size, 3, none⟩ = _ := y3
   have q0 : wz.drew.cell? ⟨gb, ob + i * 14, none⟩ = _ := q0
   repeat (first | (refine SeqC.take (v := ?_) rfl (by rfl) (fun W hW => ?_) ?_; rotate_left; (focus (have zc0 := hW.get (by simp) c0; have zc1 := hW.get (by simp) c1; have zy3 := hW.get (by simp) y3; have zq0 := hW.get (by simp) q0; go_simp; with_reducible rfl)); simp only [Act.put, List.setIfInBounds_toArray, List.set_cons_zero, List.set_cons_succ]) | (refine SeqC.skip rfl (by rfl) ?_; simp only [Act.put, List.setIfInBounds_toArray, List.set_cons_zero, List.set_cons_succ]))
   refine SeqC.done ?_
   clear hd0 hd0' hd1 hd2 hd3 hd4 hd5 hd6 hd7 hy0 c0 c1 q0 y0 y1 y2 y3
   have TY := Lib.hid (show One w { D with lv := .slice A1 D.ls.length dl, bv := .slice (some ⟨gb, ob, none⟩) D.bs.length db } wz.drew from ⟨TX.out.b.drew, TX.out.x⟩)
   have HPY := Lib.hid (show wz.drew.heap[X]? = some (.cells #[.int .i64 (i : Nat), .int .i64 (j : Nat)] tPt (0, 0)) from HPX.out)
   have BY := Lib.hid BX.out.drew
   have hylt : X < wz.drew.heap.size := hxlt
   clear TX HPX BX hxlt
   generalize wz.drew = wy at *
   have c0 : wy.cell? ⟨X, 0, none⟩ = some (.int .i64 (i : Nat)) := by rw [cell_of_row wy _ 0 _ tPt (0, 0) HPY.out]; rfl
   have c1 : wy.cell? ⟨X, 1, none⟩ = some (.int .i64 (j : Nat)) := by rw [cell_of_row wy _ 1 _ tPt (0, 0) HPY.out]; rfl
   obtain ⟨y0, y1, y2, y3⟩ := TY.out.x.cells
   have q0 : wy.cell? ⟨gb, ob + i * 14, none⟩ = some (.slice As x.st.length cs) := by have := HRX.out wy TY.out.b 0 x.s rfl; rw [HES.out] at this; exact this
   go_upto_region 17 with (go_at_call 13; refine (HT9.out _ TY.out.b).mono ?_; rintro e w9 ⟨rfl, b9⟩)
   have T9 := Lib.hid (TY.out.below b9)
   have HP9 := Lib.hid ((b9.block _ hylt).trans HPY.out)
   have B9 := Lib.hid (BY.out.trans (b9.mono BY.out.size))
   clear c0 c1 q0 y0 y1 y2 y3 TY HPY BY b9 hylt HT9
   have hj13 := jm_len HBK.out
   have HJR := Lib.hid (jm_range (HRX.out w9 T9.out.b))
   have c0 : w9.cell? ⟨X, 0, none⟩ = some (.int .i64 (i : Nat)) := by rw [cell_of_row w9 _ 0 _ tPt (0, 0) HP9.out]; rfl
   have c1 : w9.cell? ⟨X, 1, none⟩ = some (.int .i64 (j : Nat)) := by rw [cell_of_row w9 _ 1 _ tPt (0, 0) HP9.out]; rfl
   obtain ⟨y0, y1, y2, y3⟩ := T9.out.x.cells
   have q0 : w9.cell? ⟨gb, ob + i * 14, none⟩ = some (.slice As x.st.length cs) := by have := HRX.out w9 T9.out.b 0 x.s rfl; rw [HES.out] at this; exact this
   go_upto_region 18 with (first | (refine wpList_load_mid rfl tJm _ rfl gb (ob + i * 14 + 1) rfl (x.pre ++ x.a :: x.post) _ HJR.out Tryd.underlying50 rfl (by rw [hj13]; exact jR) ?_) | (go_at_call 14; refine (HCN.out.jm x HXM.out _ T9.out.b).mono ?_; rintro e w10 ⟨rfl, b10⟩))
   have T10 := Lib.hid (T9.out.below b10)
   have hxlt : X < w9.heap.size := (Array.getElem?_eq_some_iff.1 HP9.out).1
   have HP10 := Lib.hid ((b10.block _ hxlt).trans HP9.out)
   have B10 := Lib.hid (B9.out.trans (b10.mono B9.out.size))
   clear c0 c1 q0 y0 y1 y2 y3 T9 HP9 B9 b10 hxlt HJR
   have c0 : w10.cell? ⟨X, 0, none⟩ = some (.int .i64 (i : Nat)) := by rw [cell_of_row w10 _ 0 _ tPt (0, 0) HP10.out]; rfl
   have c1 : w10.cell? ⟨X, 1, none⟩ = some (.int .i64 (j : Nat)) := by rw [cell_of_row w10 _ 1 _ tPt (0, 0) HP10.out]; rfl
   obtain ⟨y0, y1, y2, y3⟩ := T10.out.x.cells
   have q0 : w10.cell? ⟨gb, ob + i * 14, none⟩ = some (.slice As x.st.length cs) := by have := HRX.out w10 T10.out.b 0 x.s rfl; rw [HES.out] at this; exact this
   rcases Nat.lt_or_ge j x.st.length with hjs | hjs
   ·have hjsI : (j : Int) < (x.st.length : Int) := by omega
    have hjd : decide ((j : Int) < (x.st.length : Int)) = true := decide_eq_true hjsI
    refine region_cells [⟨X, 0, none⟩, ⟨X, 1, none⟩, ⟨w.heap.size, 3, none⟩, ⟨gb, ob + i * 14, none⟩] [(0, true), (1, true), (2, true), (3, true), (4, true), (5, true), (6, true), (7, true), (8, true), (9, true), (10, true)] (by kernel_rfl) (by kernel_rfl) (by decide) (by kernel_rfl) (fun _ _ _ _ _ h => h) ?_
    have c0 : w10.drew.cell? ⟨X, 0, none⟩ = _ := c0
    have c1 : w10.drew.cell? ⟨X, 1, none⟩ = _ := c1
    have y3 : w10.drew.cell? ⟨w.heap.size, 3, none⟩ = _ := y3
    have q0 : w10.drew.cell? ⟨gb, ob + i * 14, none⟩ = _ := q0
    iterate 11 (refine SeqC.take (v := ?_) rfl (by rfl) (fun W hW => ?_) ?_; rotate_left; (focus (have zc0 := hW.get (by simp) c0; have zc1 := hW.get (by simp) c1; have zy3 := hW.get (by simp) y3; have zq0 := hW.get (by simp) q0; go_simp; with_reducible rfl)); simp only [Act.put, List.setIfInBounds_toArray, List.set_cons_zero, List.set_cons_succ])
    refine SeqC.done ?_
    obtain ⟨el, hel⟩ : ∃ el, x.st[j]? = some el := ⟨_, List.getElem?_eq_getElem hjs⟩
    have helm := List.mem_of_getElem? hel
    have hkk := HBK.out.skd el helm
    have h26 : el.length = 26 := hkk.len.symm
    have HST := Lib.hid (HCN.out.st x HXM.out el helm)
    have HPL2 := Lib.hid (show pointL x j = [32, 32] ++ stT (stOf el) from by unfold pointL; rw [hel]; rfl)
    have hlen := stT_any (stOf el)
    obtain ⟨gs, os, eS, hgs, hrs⟩ := HRS.out j el hel
    subst eS
    have HRW := Lib.hid (range_old hrs hgs T10.out.b)
    clear hel helm hkk hrs hjd
    go_upto_region 19 with fail
    have TD := Lib.hid (show One w { D with lv := .slice A1 D.ls.length dl, bv := .slice (some ⟨gb, ob, none⟩) D.bs.length db } w10.drew from ⟨T10.out.b.drew, T10.out.x⟩)
    have HPD := Lib.hid (show w10.drew.heap[X]? = some (.cells #[.int .i64 (i : Nat), .int .i64 (j : Nat)] tPt (0, 0)) from HP10.out)
    have BD := Lib.hid B10.out.drew
    have HRD := Lib.hid (show w10.drew.rangeAt gs (os + j * 26) el from HRW.out)
    clear c0 c1 q0 y0 y1 y2 y3 T10 HP10 B10 HRW
    generalize w10.drew = wd at *
    have c0 : wd.cell? ⟨X, 0, none⟩ = some (.int .i64 (i : Nat)) := by rw [cell_of_row wd _ 0 _ tPt (0, 0) HPD.out]; rfl
    have c1 : wd.cell? ⟨X, 1, none⟩ = some (.int .i64 (j : Nat)) := by rw [cell_of_row wd _ 1 _ tPt (0, 0) HPD.out]; rfl
    obtain ⟨y0, y1, y2, y3⟩ := TD.out.x.cells
    have q0 : wd.cell? ⟨gb, ob + i * 14, none⟩ = some (.slice (some ⟨gs, os, none⟩) x.st.length cs) := by have := HRX.out wd TD.out.b 0 x.s rfl; rw [HES.out] at this; exact this
    refine region_cells [⟨X, 0, none⟩, ⟨X, 1, none⟩, ⟨w.heap.size, 3, none⟩, ⟨gb, ob + i * 14, none⟩] [(0, true), (1, true), (2, true), (3, true), (4, true), (5, true), (6, true), (7, true), (8, true), (9, true), (10, false), (11, false), (12, true), (13, true), (14, true), (15, true), (16, true)] (by kernel_rfl) (by kernel_rfl) (by decide) (by kernel_rfl) (fun _ _ _ _ _ h => h) ?_
    have c0 : wd.drew.cell? ⟨X, 0, none⟩ = _ := c0
    have c1 : wd.drew.cell? ⟨X, 1, none⟩ = _ := c1
    have y3 : wd.drew.cell? ⟨w.heap.size, 3, none⟩ = _ := y3
    have q0 : wd.drew.cell? ⟨gb, ob + i * 14, none⟩ = _ := q0
    have hrd : wd.drew.rangeAt gs (os + j * 26) el := HRD.out
    iterate 10 (refine SeqC.take (v := ?_) rfl (by rfl) (fun W hW => ?_) ?_; rotate_left; (focus (have zc0 := hW.get (by simp) c0; have zc1 := hW.get (by simp) c1; have zy3 := hW.get (by simp) y3; have zq0 := hW.get (by simp) q0; go_simp; with_reducible rfl)); simp only [Act.put, List.setIfInBounds_toArray, List.set_cons_zero, List.set_cons_succ])
    refine SeqC.step rfl (by rfl) (fun K' hK => wp_load_mid tSt _ rfl gs (os + j * 26) rfl el _ hrd Tryd.underlying59 rfl (by rw [h26]; exact sR) (hK _ _ (Cells.refl _ _) ?_))
    simp only [Act.put, List.setIfInBounds_toArray, List.set_cons_zero, List.set_cons_succ]
    refine SeqC.call (f := ?_) (args := ?_) rfl (by rfl) ?_ ?_
    rotate_left 2
    ·(go_simp; first | with_reducible rfl | (refine ⟨?_, ?_⟩ <;> with_reducible rfl))
    refine (HST.out _ TD.out.b.drew).mono ?_
    rintro e w11 ⟨rfl, b11⟩
    have T11 := Lib.hid ((show One w { D with lv := .slice A1 D.ls.length dl, bv := .slice (some ⟨gb, ob, none⟩) D.bs.length db } wd.drew from ⟨TD.out.b.drew, TD.out.x⟩).below b11)
    have B11 := Lib.hid (BD.out.drew.trans (b11.mono BD.out.drew.size))
    have hgb2 : gb < wd.drew.heap.size := Nat.lt_of_lt_of_le hgb TD.out.b.size
    have hx2 : X < wd.drew.heap.size := (Array.getElem?_eq_some_iff.1 HPD.out).1
    have hw2 : w.heap.size < wd.drew.heap.size := TD.out.x.lt
    refine ⟨_, rfl, Cells.of_ext b11 (by intro p hp; simp only [List.mem_cons, List.not_mem_nil, or_false] at hp; rcases hp with rfl | rfl | rfl | rfl <;> assumption), ?_⟩
    simp only [Act.put, List.setIfInBounds_toArray, List.set_cons_zero, List.set_cons_succ]
    iterate 5 (refine SeqC.take (v := ?_) rfl (by rfl) (fun W hW => ?_) ?_; rotate_left; (focus (go_simp; with_reducible rfl)); simp only [Act.put, List.setIfInBounds_toArray, List.set_cons_zero, List.set_cons_succ])
    refine SeqC.done ?_
    clear c0 c1 q0 y0 y1 y2 y3 b11 hgb2 hx2 hw2 hrd TD HPD BD HRD
    have cx := HX.out L (pointL x j) (by rw [HLL.out, HPL.out]) w11 B11.out 0 _ rfl
    simp only [Nat.mul_one, Nat.add_zero] at cx
    rw [HPL2.out] at cx
    have hl0 : decide ((L : Int) ≤ t) = false := decide_eq_false (by omega)
    have hl1 : ¬ (L : Int) ≤ t := by omega
    have hl2 : decide ((L : Int) ≥ (N : Int)) = false := decide_eq_false (by omega)
    have hl3 : ¬ (N : Int) ≤ (L : Int) := by omega
    have hl4 : (L : Int) < (N : Int) := by omega
    have hl5 : (0 : Int) ≤ (L : Int) := Int.natCast_nonneg _
    have hl6 := two_str (stT (stOf el))
    have hl7 : ¬ 9223372036854775807 < 2 + (stT (stOf el)).length := by omega
    clear HPL2
    go_wp2_with fail
    go_roundg (S - (m + 1))
    case measure => omega
    case rel => exact ⟨m + 1, _, by simp, rfl, by omega, rfl, by rw [HME.out]; exact HNEXT.out, B11.out⟩
   ·have hje : j = x.st.length := by omega
    have hjsI : ¬ (j : Int) < (x.st.length : Int) := by omega
    have hjd : decide ((j : Int) < (x.st.length : Int)) = false := decide_eq_false hjsI
    refine region_cells [⟨X, 0, none⟩, ⟨X, 1, none⟩, ⟨w.heap.size, 3, none⟩, ⟨gb, ob + i * 14, none⟩] [(0, true), (1, true), (2, true), (3, true), (4, true), (5, true), (6, true), (7, true), (8, true), (9, true), (10, true)] (by kernel_rfl) (by kernel_rfl) (by decide) (by kernel_rfl) (fun _ _ _ _ _ h => h) ?_
    have c0 : w10.drew.cell? ⟨X, 0, none⟩ = _ := c0
    have c1 : w10.drew.cell? ⟨X, 1, none⟩ = _ := c1
    have y3 : w10.drew.cell? ⟨w.heap.size, 3, none⟩ = _ := y3
    have q0 : w10.drew.cell? ⟨gb, ob + i * 14, none⟩ = _ := q0
    iterate 11 (refine SeqC.take (v := ?_) rfl (by rfl) (fun W hW => ?_) ?_; rotate_left; (focus (have zc0 := hW.get (by simp) c0; have zc1 := hW.get (by simp) c1; have zy3 := hW.get (by simp) y3; have zq0 := hW.get (by simp) q0; go_simp; with_reducible rfl)); simp only [Act.put, List.setIfInBounds_toArray, List.set_cons_zero, List.set_cons_succ])
    refine SeqC.done ?_
    have HPL2 := Lib.hid (show pointL x j = [32, 32] ++ jumpT x.pre x.ops x.post from by unfold pointL; rw [List.getElem?_eq_none (by omega)]; rfl)
    have hlen := jumpT_len (pre := x.pre) (post := x.post) (show x.ops.length < 9 by have := ops_9 (blk_jump HBK.out) (k.jm x HXM.out); omega)
    have B11 := Lib.hid B10.out.drew
    clear c0 c1 q0 y0 y1 y2 y3
    have cx := HX.out L (pointL x j) (by rw [HLL.out, HPL.out]) w10.drew B11.out 0 _ rfl
    simp only [Nat.mul_one, Nat.add_zero] at cx
    rw [HPL2.out] at cx
    have hl0 : decide ((L : Int) ≤ t) = false := decide_eq_false (by omega)
    have hl1 : ¬ (L : Int) ≤ t := by omega
    have hl2 : decide ((L : Int) ≥ (N : Int)) = false := decide_eq_false (by omega)
    have hl3 : ¬ (N : Int) ≤ (L : Int) := by omega
    have hl4 : (L : Int) < (N : Int) := by omega
    have hl5 : (0 : Int) ≤ (L : Int) := Int.natCast_nonneg _
    have hl6 := two_str (jumpT x.pre x.ops x.post)
    have hl7 : ¬ 9223372036854775807 < 2 + (jumpT x.pre x.ops x.post).length := by omega
    clear HPL2 hje
    go_wp2_with fail
    go_roundg (S - (m + 1))
    case measure => omega
    case rel => exact ⟨m + 1, _, by simp, rfl, by omega, rfl, by rw [HME.out]; exact HNEXT.out, B11.out⟩
  ·obtain rfl : m = S := by omega
   have ht := HSTOP.out t HLA.out
   subst ht
   have hnn := HNN.out
   go_wp2_with (go_at_call 8; refine (HA.out _ T8.out.b).mono ?_; rintro e w9 ⟨rfl, b9⟩)
   go_ret
   exact ⟨rfl, T8.out.b.trans (b9.mono T8.out.b.size)⟩
theorem lines_walk {w : World} {v v1 : Value} {D : FnD} (h : FnOk' w v D) (hn : Kd.ok (.i .i64) v1) (kt : TabOk w) : Calls Tryd.prog 4 #[v, v1] w (YesH w) := by
 obtain ⟨n, rfl, hn1, hn2⟩ := hn
 by_cases hg : great.greatF D = true
 ·exact tlines_not h kt (.inl hg)
 have hg : great.greatF D = false := by simpa using hg
 by_cases hc : check.chkF D = 0 → False
 ·exact tlines_not h kt (.inr ⟨hg, .inl (by simpa using hc)⟩)
 have hc : check.chkF D = 0 := Classical.not_not.1 hc
 by_cases n0 : n < 0
 ·exact tlines_not h kt (.inr ⟨hg, .inr ⟨hc, .inl n0⟩⟩)
 by_cases n7 : n > 7
 ·exact tlines_not h kt (.inr ⟨hg, .inr ⟨hc, .inr ⟨n0, n7⟩⟩⟩)
 exact tlines_main h kt hg hc n0 n7
end Go.Proofs.YtglmonlofejcgaaDoor.txt
