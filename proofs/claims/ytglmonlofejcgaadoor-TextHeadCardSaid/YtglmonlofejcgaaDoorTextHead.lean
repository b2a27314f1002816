/- TextHead: the law answers true for every function and two numbers. -/
import Derived.Test.YtglmonlofejcgaaDoorLines
import Derived.Test.YtglmonlofejcgaaDoorTextAl
namespace Go.Proofs.YtglmonlofejcgaaDoor.txt
open Go.RowKit Go.Proofs.YtglmonlofejcgaaDoor Go.Proofs.YtglmonlofejcgaaDoor.Am Go.Proofs.YtglmonlofejcgaaDoor.loan Go.Proofs.YtglmonlofejcgaaDoor.bld
set_option linter.unusedVariables false
/-- true, and nothing that was there has changed -/
def YesH (w : World) (e : Ending) (w' : World) : Prop := e = .returned (.bool true) ∧ Below w.heap.size w w'
/-- the function with the other mark -/
def flipU (D : FnD) : FnD := { D with u := !D.u }
theorem flip_chk (D : FnD) : check.chkF (flipU D) = check.chkF D := rfl
theorem flip_ok {w : World} {D : FnD} (h : FnOk' w (.agg #[.int .i64 D.p, .bool D.u, D.lv, D.bv]) D) : FnOk' w (.agg #[.int .i64 D.p, .bool (!D.u), D.lv, D.bv]) (flipU D) :=
  ⟨rfl, h.pk, h.locals, h.lkd, h.blocks, h.blk⟩
theorem flip_lines (D : FnD) (n m : Int) : (linesF (flipU D) m).length = (linesF D n).length ∧ ∀ j l, (linesF (flipU D) m)[j + 1]? = some l ↔ (linesF D n)[j + 1]? = some l := ⟨rfl, fun j l => Iff.rfl⟩
theorem head_ne {D : FnD} {n m : Int} (hn : I64 n) (hm : I64 m) (hp : I64 D.p) : headT n D.p D.u ≠ headT m D.p (!D.u) := fun e => by
  unfold headT at e
  have e := (List.append_right_inj [102, 110, 32]).1 e
  obtain ⟨h1, e⟩ := dec_split hn hm (stop_cons _ (by decide)) (stop_cons _ (by decide)) e
  have e := (List.append_right_inj [32, 40]).1 e
  obtain ⟨h2, e⟩ := dec_split hp hp (stop_cons _ (by decide)) (stop_cons _ (by decide)) e
  have e := (List.append_right_inj [41]).1 e
  cases hu : D.u <;> rw [hu] at e <;> cases e
theorem lines_4 {D : FnD} (hl : 0 < D.ls.length) (hb : 0 < D.bs.length) (n : Int) : 4 ≤ (linesF D n).length := by
  obtain ⟨b, bs, e⟩ : ∃ b bs, D.bs = b :: bs := by cases h : D.bs with | nil => rw [h] at hb; simp at hb | cons b bs => exact ⟨b, bs, rfl⟩
  have h2 : 2 ≤ (blksTo D D.bs.length).length := by
    rw [e]
    unfold blksTo
    rw [List.length_cons, List.range_succ_eq_map, List.flatMap_cons, List.length_append]
    have : (blkL 0 (D.bs.getD 0 noB)).length = (D.bs.getD 0 noB).st.length + 2 := by unfold blkL; simp
    omega
  unfold linesF
  rw [List.length_cons, List.length_append, locs_len]
  omega
/-- where the call stands: its function -/
structure One (w : World) (D : FnD) (W : World) : Prop where
  b : Below w.heap.size w W
  x : Box W w.heap.size tFn (.int .i64 D.p) (.bool D.u) D.lv D.bv
theorem One.below {w W W' : World} {D : FnD} (h : One w D W) (hb : Below W.heap.size W W') : One w D W' := ⟨h.b.trans (hb.mono h.b.size), h.x.below hb⟩
set_option maxHeartbeats 8000000 in
set_option maxRecDepth 100000 in
theorem head_not {w : World} {v : Value} {D : FnD} {n m : Int} (h : FnOk' w v D) (kt : TabOk w)
    (hn : great.greatF D = true ∨ (great.greatF D = false ∧ ((check.chkF D != 0) = true ∨ (check.chkF D = 0 ∧ (n < 0 ∨ (¬ n < 0 ∧ (n > 7 ∨ (¬ n > 7 ∧ (m < 0 ∨ (¬ m < 0 ∧ m > 7)))))))))) : Calls Tryd.prog 3 #[v, .int .i64 n, .int .i64 m] w (YesH w) := by
  have hG := fun (w1 : World) (hb : Below w.heap.size w w1) => great.great_ans (h.frz hb.block)
  have hC := fun (w1 : World) (hb : Below w.heap.size w w1) => refC.check_same (h.frz hb.block)
  have HA := Lib.hid (fun (w1 : World) (hb : Below w.heap.size w w1) => alive_c (tab_more kt hb))
  rw [h.eq] at hG hC ⊢
  clear h kt
  have T0 := Lib.hid (show One w D (w.alloc (.cells #[.int .i64 D.p, .bool D.u, D.lv, D.bv] tFn)) from ⟨(Below.refl _ _).alloc (Nat.le_refl _) _, Box.mk rfl⟩)
  obtain ⟨y0, y1, y2, y3⟩ := T0.out.x.cells
  generalize great.greatF D = g at *
  generalize check.chkF D = x at *
  have HG := Lib.hid hG
  have HC := Lib.hid hC
  clear hG hC
  rcases hn with rfl | ⟨rfl, hx | ⟨rfl, hx | ⟨hx0, hx | ⟨hx1, hx | ⟨hx2, hx⟩⟩⟩⟩⟩
  all_goals (
    go_enter Tryd.func3, Tryd.ntmps3
    go_wp2_with (first | (go_at_call 8; (first | (refine (HA.out _ T2.out.b).mono ?_) | (refine (HA.out _ T1.out.b).mono ?_)); rintro e w9 ⟨rfl, b9⟩) | (go_at_call 7; refine (HC.out _ T1.out.b).mono ?_; rintro e w2 ⟨rfl, b2⟩; have T2 := Lib.hid (T1.out.below b2); obtain ⟨s0, s1, s2, s3⟩ := T2.out.x.cells) | (go_at_call 6; refine (HG.out _ T0.out.b).mono ?_; rintro e w1 ⟨rfl, b1⟩; have T1 := Lib.hid (T0.out.below b1); obtain ⟨r0, r1, r2, r3⟩ := T1.out.x.cells))
    go_ret
    first | exact ⟨rfl, T2.out.b.trans (b9.mono T2.out.b.size)⟩ | exact ⟨rfl, T1.out.b.trans (b9.mono T1.out.b.size)⟩)
/-- .. and the other one -/
structure Two (w : World) (D : FnD) (H : Nat) (W : World) : Prop where
  b : Below w.heap.size w W
  x : Box W w.heap.size tFn (.int .i64 D.p) (.bool D.u) D.lv D.bv
  y : Box W H tFn (.int .i64 D.p) (.bool (!D.u)) D.lv D.bv
theorem Two.below {w W W' : World} {D : FnD} {H : Nat} (h : Two w D H W) (hb : Below W.heap.size W W') : Two w D H W' := ⟨h.b.trans (hb.mono h.b.size), h.x.below hb, h.y.below hb⟩
theorem strs_flat : ∀ ls : List (List UInt8), (ls.map fun l => [Value.string ⟨l.toArray⟩]).flatten = strsV ls
  | [] => rfl
  | a :: l => by rw [List.map_cons, List.flatten_cons, strs_flat l]; rfl
/-- what lines answers at a function's text -/
theorem lines_of {D : FnD} (hL : Lim D) (n : Int) (W : World) : Calls Tryd.prog 10 #[.string ⟨(textF D n).toArray⟩] W fun e w' => ∃ s, e = .returned (.tuple #[s, .bool true]) ∧ w'.ownsRow W.heap.size tS1 1 s (linesF D n).length (strsV (linesF D n)) ∧ Below W.heap.size W w' :=
  lawlines_c (no_lines D n) (by have h1 := linB_cnt hL n D.bs.length; have h2 := hL.b; have h3 : (linesF D n).length ≤ 17 + 26 * D.bs.length := h1; omega) (by have := textF_lim hL n; have h4 : (nl (linesF D n)).length ≤ 1000000 := this; omega)
set_option maxHeartbeats 16000000 in
set_option maxRecDepth 100000 in
theorem head_main {w : World} {v : Value} {D : FnD} {n m : Int} (h : FnOk' w v D) (kt : TabOk w) (hg : great.greatF D = false) (hc : check.chkF D = 0) (n0 : ¬ n < 0) (n7 : ¬ n > 7) (m0 : ¬ m < 0) (m7 : ¬ m > 7) : Calls Tryd.prog 3 #[v, .int .i64 n, .int .i64 m] w (YesH w) := by
  have k := txt_ok hc
  have hG := fun (w1 : World) (hb : Below w.heap.size w w1) => great.great_ans (h.frz hb.block)
  have hC := fun (w1 : World) (hb : Below w.heap.size w w1) => refC.check_same (h.frz hb.block)
  have HA := Lib.hid (fun (w1 : World) (hb : Below w.heap.size w w1) => alive_c (tab_more kt hb))
  have hF := fun (w1 : World) (hb : Below w.heap.size w w1) => func_c (h.frz hb.block) (lim_of h hc) (cons_of (h.frz hb.block) (tab_more kt hb) hc) (n := n) (by omega) (by omega) (by have := chk_a (h.frz hb.block); rwa [hc] at this)
  rw [hg] at hG
  rw [hc] at hC
  obtain ⟨A1, c1, q1⟩ := h.locals.sl
  obtain ⟨A2, c2, q2⟩ := h.blocks.sl
  rw [List.length_map] at q2
  have hv := h.eq
  have hf := h
  rw [hv] at hf
  have fo := flip_ok hf
  have hF2 := fun (w1 : World) (hb : Below w.heap.size w w1) => func_c (fo.frz hb.block) (lim_of fo ((flip_chk D).trans hc)) (cons_of (fo.frz hb.block) (tab_more kt hb) ((flip_chk D).trans hc)) (n := m) (by omega) (by omega) (by have := chk_a (fo.frz hb.block); rwa [flip_chk, hc] at this)
  rw [hv] at hG hC hF ⊢
  have T0 := Lib.hid (show One w D (w.alloc (.cells #[.int .i64 D.p, .bool D.u, D.lv, D.bv] tFn)) from ⟨(Below.refl _ _).alloc (Nat.le_refl _) _, Box.mk rfl⟩)
  obtain ⟨y0, y1, y2, y3⟩ := T0.out.x.cells
  have HG := Lib.hid hG
  have HC := Lib.hid hC
  have HF := Lib.hid hF
  have HF2 := Lib.hid hF2
  have HL1 := Lib.hid (lines_of (lim_of h hc) n)
  have HL2 := Lib.hid (lines_of (lim_of fo ((flip_chk D).trans hc)) m)
  have HCAP := Lib.hid (show (linesF D n).length ≤ 1000 from by have h1 := linB_cnt (lim_of h hc) n D.bs.length; have h2 := k.b1; have h3 : (linesF D n).length ≤ 17 + 26 * D.bs.length := h1; omega)
  have HN := Lib.hid (And.intro (lines_4 k.l0 k.b0 n) ((flip_lines D n m).1))
  obtain ⟨hpk0, hpk1⟩ : I64 D.p := by obtain ⟨p, e, hp⟩ := h.pk; cases e; exact hp
  have HNE := Lib.hid (head_ne (D := D) (n := n) (m := m) ⟨by omega, by omega⟩ ⟨by omega, by omega⟩ ⟨hpk0, hpk1⟩)
  have HQ1 := Lib.hid q1
  have HQ2 := Lib.hid q2
  clear hG hC hF hF2 h hf fo hv q1 q2
  go_enter Tryd.func3, Tryd.ntmps3
  go_upto_region 3 with (first | (go_at_call 7; refine (HC.out _ T1.out.b).mono ?_; rintro e w2 ⟨rfl, b2⟩; have T2 := Lib.hid (T1.out.below b2)) | (go_at_call 6; refine (HG.out _ T0.out.b).mono ?_; rintro e w1 ⟨rfl, b1⟩; have T1 := Lib.hid (T0.out.below b1); obtain ⟨r0, r1, r2, r3⟩ := T1.out.x.cells))
  clear y0 y1 y2 y3 r0 r1 r2 r3 T0 T1 b1 b2
  obtain ⟨y0, y1, y2, y3⟩ := T2.out.x.cells
  rw [HQ1.out] at y2
  rw [HQ2.out] at y3
  have q1 : (w2.alloc (.cells #[.int .i64 D.p, .bool D.u, .slice A1 D.ls.length c1, .slice A2 D.bs.length c2] tFn)).cell? ⟨w.heap.size, 1, none⟩ = some (.bool D.u) := cell_more y1
  have hlt2 : w.heap.size < w2.heap.size := T2.out.x.lt
  go_upto_region 5 with fail
  have T3 := Lib.hid (show Two w D w2.heap.size (w2.alloc (.cells #[.int .i64 D.p, .bool (!D.u), .slice A1 D.ls.length c1, .slice A2 D.bs.length c2] tFn)) from ⟨T2.out.b.alloc T2.out.b.size _, T2.out.x.more, by rw [HQ1.out, HQ2.out]; exact Box.mk rfl⟩)
  clear y0 y1 y2 y3 q1 T2 HG HC HQ1 HQ2
  generalize w2.heap.size = H at *
  generalize w2.alloc (.cells #[.int .i64 D.p, .bool (!D.u), .slice A1 D.ls.length c1, .slice A2 D.bs.length c2] tFn) = w3 at *
  obtain ⟨y0, y1, y2, y3⟩ := T3.out.x.cells
  go_upto_region 6 with (go_at_call 9; refine (HF.out _ T3.out.b).mono ?_; rintro e w4 ⟨rfl, b4⟩)
  have T4 := Lib.hid (T3.out.below b4)
  clear y0 y1 y2 y3 b4 T3
  obtain ⟨y0, y1, y2, y3⟩ := T4.out.y.cells
  go_upto_region 7 with (go_at_call 9; refine (HF2.out _ T4.out.b).mono ?_; rintro e w5 ⟨rfl, b5⟩)
  have B5 := Lib.hid (T4.out.b.trans (b5.mono T4.out.b.size))
  clear y0 y1 y2 y3 b5 T4
  go_upto_region 8 with (go_at_call 10; refine (HL1.out _).mono ?_; rintro e w6 ⟨s1, rfl, own1, b6⟩)
  have B6 := Lib.hid (B5.out.trans (b6.mono B5.out.size))
  obtain ⟨Ax, cx, rfl, hrx⟩ := RowsAt.own (els := (linesF D n).map fun l => [Value.string ⟨l.toArray⟩]) (by rw [strs_flat]; exact own1) (List.length_map _) (by decide) (fun x hx => by obtain ⟨q, _, rfl⟩ := List.mem_map.1 hx; rfl)
  obtain ⟨gx, ox, rfl, hgx, hrx⟩ := rows_some hrx (by rw [List.length_map]; have := HN.out.1; omega)
  rw [List.length_map] at *
  have HX := Lib.hid hrx
  clear own1 b6 hrx
  go_upto_region 9 with (go_at_call 10; refine (HL2.out _).mono ?_; rintro e w7 ⟨s2, rfl, own2, b7⟩)
  have B7 := Lib.hid (B6.out.trans (b7.mono B6.out.size))
  obtain ⟨Ay, cy, rfl, hry⟩ := RowsAt.own (els := (linesF (flipU D) m).map fun l => [Value.string ⟨l.toArray⟩]) (by rw [strs_flat]; exact own2) (List.length_map _) (by decide) (fun x hx => by obtain ⟨q, _, rfl⟩ := List.mem_map.1 hx; rfl)
  obtain ⟨gy, oy, rfl, hgy, hry⟩ := rows_some hry (by rw [List.length_map]; have := HN.out.1; have := HN.out.2; omega)
  rw [List.length_map] at *
  have hlen := HN.out.2
  rw [hlen]
  have HY := Lib.hid hry
  have HX7 := Lib.hid (fun (i : Nat) (l : List UInt8) (hl : (linesF D n)[i]? = some l) (W : World) (hW : Below w7.heap.size w7 W) => range_old (HX.out i [.string ⟨l.toArray⟩] (by rw [List.getElem?_map, hl]; rfl)) hgx (b7.trans (hW.mono b7.size)))
  have HY7 := Lib.hid (fun (i : Nat) (l : List UInt8) (hl : (linesF (flipU D) m)[i]? = some l) (W : World) (hW : Below w7.heap.size w7 W) => range_old (HY.out i [.string ⟨l.toArray⟩] (by rw [List.getElem?_map, hl]; rfl)) hgy hW)
  clear own2 b7 hry hgx hgy HX HY
  have hn4 := HN.out.1
  have hcap := HCAP.out
  have hnI : ¬ ((linesF D n).length : Int) < 4 := by omega
  have hnz : 0 < (linesF D n).length := by omega
  have hne := HNE.out
  have hneb : (headT n D.p D.u == headT m D.p (!D.u)) = false := by simpa using hne
  generalize hNN : (linesF D n).length = N at *
  have HNN := Lib.hid hNN
  clear hNN
  have cx0 : w7.cell? ⟨gx, ox, none⟩ = some (.string ⟨(headT n D.p D.u).toArray⟩) := by have := HX7.out 0 (headT n D.p D.u) rfl _ (Below.refl _ _) 0 _ rfl; simpa using this
  have cy0 : w7.cell? ⟨gy, oy, none⟩ = some (.string ⟨(headT m D.p (!D.u)).toArray⟩) := by have := HY7.out 0 (headT m D.p (!D.u)) rfl _ (Below.refl _ _) 0 _ rfl; simpa using this
  refine region_cells [⟨gx, ox, none⟩, ⟨gy, oy, none⟩] [(0, true), (1, true), (2, true), (3, true), (4, true), (5, true), (6, true), (7, true), (8, true), (9, true), (10, true), (11, true), (12, true), (13, true), (14, true), (15, true), (16, true), (17, true), (18, true), (19, true), (20, true), (21, true), (22, true), (23, true), (24, true), (25, true), (26, true), (27, true), (28, true), (29, true), (30, true), (31, true), (32, true), (33, true), (34, true)] (by kernel_rfl) (by kernel_rfl) (by decide) (by kernel_rfl) (fun _ _ _ _ _ h => h) ?_
  have cx0 : w7.drew.cell? ⟨gx, ox, none⟩ = _ := cx0
  have cy0 : w7.drew.cell? ⟨gy, oy, none⟩ = _ := cy0
  repeat (first | (refine SeqC.take (v := ?_) rfl (by rfl) (fun W hW => ?_) ?_; rotate_left; (focus (have zx := hW.get (by simp) cx0; have zy := hW.get (by simp) cy0; go_simp; with_reducible rfl)); simp only [Act.put, List.setIfInBounds_toArray, List.set_cons_zero, List.set_cons_succ]) | (refine SeqC.skip rfl (by rfl) ?_; simp only [Act.put, List.setIfInBounds_toArray, List.set_cons_zero, List.set_cons_succ]))
  refine SeqC.done ?_
  clear cx0 cy0
  go_wp2_with fail
  go_loopg [16] N (fun g s16 w8 => ∃ i : Nat, s16 = .int .i64 i ∧ 1 ≤ i ∧ i ≤ N ∧ g = N + 1 - i ∧ Below w7.heap.size w7 w8)
  case atStart => exact ⟨1, rfl, Nat.le_refl _, by omega, by omega, (Below.refl _ _).drew⟩
  case round =>
    obtain ⟨i, rfl, hi1, hi, rfl, hbel⟩ := hrel
    have h0I : (0 : Int) ≤ (i : Int) := Int.natCast_nonneg _
    have HBL := Lib.hid hbel
    clear hbel
    rcases Nat.lt_or_ge i N with hlt | hge
    · have hltI : (i : Int) < (N : Int) := by omega
      obtain ⟨l, hl⟩ : ∃ l, (linesF D n)[i]? = some l := ⟨_, List.getElem?_eq_getElem (by have := HNN.out; omega)⟩
      obtain ⟨j, rfl⟩ : ∃ j, i = j + 1 := ⟨i - 1, by omega⟩
      have hl2 : (linesF (flipU D) m)[j + 1]? = some l := ((flip_lines D n m).2 j l).2 hl
      have cx0 := HX7.out _ l hl _ HBL.out 0 _ rfl
      have cy0 := HY7.out _ l hl2 _ HBL.out 0 _ rfl
      simp only [Nat.mul_one, Nat.add_zero] at cx0 cy0
      have hltJ : (j : Int) + 1 < (N : Int) := by omega
      have hj0 : (0 : Int) ≤ (j : Int) + 1 := by omega
      have hjm : (j : Int) + 1 + 1 ≤ 1000 := by omega
      clear hl hl2
      go_upto_region 14 with fail
      refine region_cells [⟨gx, ox + (j + 1), none⟩, ⟨gy, oy + (j + 1), none⟩] [(0, true), (1, true), (2, true), (3, true), (4, true), (5, true), (6, true), (7, true), (8, true)] (by kernel_rfl) (by kernel_rfl) (by decide) (by kernel_rfl) (fun _ _ _ _ _ h => h) ?_
      have cx0 : wr.drew.cell? ⟨gx, ox + (j + 1), none⟩ = _ := cx0
      have cy0 : wr.drew.cell? ⟨gy, oy + (j + 1), none⟩ = _ := cy0
      repeat (first | (refine SeqC.take (v := ?_) rfl (by rfl) (fun W hW => ?_) ?_; rotate_left; (focus (have zx := hW.get (by simp) cx0; have zy := hW.get (by simp) cy0; go_simp; with_reducible rfl)); simp only [Act.put, List.setIfInBounds_toArray, List.set_cons_zero, List.set_cons_succ]) | (refine SeqC.skip rfl (by rfl) ?_; simp only [Act.put, List.setIfInBounds_toArray, List.set_cons_zero, List.set_cons_succ]))
      refine SeqC.done ?_
      clear cx0 cy0
      go_wp2_with fail
      go_roundg (N + 1 - (j + 1 + 1))
      case measure => omega
      case rel => exact ⟨j + 1 + 1, by simp, by omega, by omega, rfl, HBL.out.drew⟩
    · obtain rfl : i = N := by omega
      have HO := Lib.hid (B7.out.trans (HBL.out.mono B7.out.size))
      go_wp2_with (go_at_call 8; refine (HA.out _ HO.out).mono ?_; rintro e w9 ⟨rfl, b9⟩)
      go_ret
      exact ⟨rfl, HO.out.trans (b9.mono HO.out.size)⟩
theorem head_walk {w : World} {v v1 v2 : Value} {D : FnD} (h : FnOk' w v D) (hn : Kd.ok (.i .i64) v1) (hm : Kd.ok (.i .i64) v2) (kt : TabOk w) : Calls Tryd.prog 3 #[v, v1, v2] w (YesH w) := by
  obtain ⟨n, rfl, hn1, hn2⟩ := hn
  obtain ⟨m, rfl, hm1, hm2⟩ := hm
  by_cases hg : great.greatF D = true
  · exact head_not h kt (.inl hg)
  have hg : great.greatF D = false := by simpa using hg
  by_cases hc : check.chkF D = 0 → False
  · exact head_not h kt (.inr ⟨hg, .inl (by simpa using hc)⟩)
  have hc : check.chkF D = 0 := Classical.not_not.1 hc
  by_cases n0 : n < 0
  · exact head_not h kt (.inr ⟨hg, .inr ⟨hc, .inl n0⟩⟩)
  by_cases n7 : n > 7
  · exact head_not h kt (.inr ⟨hg, .inr ⟨hc, .inr ⟨n0, .inl n7⟩⟩⟩)
  by_cases m0 : m < 0
  · exact head_not h kt (.inr ⟨hg, .inr ⟨hc, .inr ⟨n0, .inr ⟨n7, .inl m0⟩⟩⟩⟩)
  by_cases m7 : m > 7
  · exact head_not h kt (.inr ⟨hg, .inr ⟨hc, .inr ⟨n0, .inr ⟨n7, .inr ⟨m0, m7⟩⟩⟩⟩⟩)
  exact head_main h kt hg hc n0 n7 m0 m7
end Go.Proofs.YtglmonlofejcgaaDoor.txt
