/- program.Check: what it answers at any program. -/
import Derived.Test.YtglmonlofejcgaaDoorPgC
import Derived.Test.YtglmonlofejcgaaDoorPgE
import Derived.Test.YtglmonlofejcgaaDoorPgR
namespace Go.Proofs.YtglmonlofejcgaaDoor.prg
open Go.RowKit Go.Proofs.YtglmonlofejcgaaDoor Go.Proofs.YtglmonlofejcgaaDoor.Am Go.Proofs.YtglmonlofejcgaaDoor.loan Go.Proofs.YtglmonlofejcgaaDoor.bld
set_option linter.unusedVariables false
def AnsN (x : Int) (W : World) : Ending → World → Prop := bld.Ans W (.int .i64 x)
set_option maxHeartbeats 4000000 in
set_option maxRecDepth 100000 in
theorem chka_many {w : World} {v fv : Value} {Ds : List FnD} (h : ProgOk w v fv Ds) (hn : 8 < Ds.length) : Calls Tryd.prog 35 #[v] w (AnsN 4 w) := by
 obtain ⟨A, c, e, _, hm, hr⟩ := h.rows
 rw [e]
 have hd : decide ((Ds.length : Int) > 8) = true := decide_eq_true (by omega)
 have b0 : Below w.heap.size w (w.alloc (.cells #[.slice A Ds.length c] tPr)) := (Below.refl _ _).alloc (Nat.le_refl _) _
 have HB := Lib.hid b0
 clear h hr e b0
 go_enter Tryd.func35, Tryd.ntmps35
 go_wp2_with fail
 go_ret
 exact ⟨rfl, HB.out⟩
set_option maxHeartbeats 4000000 in
set_option maxRecDepth 100000 in
theorem chka_none {w : World} {v fv : Value} {Ds : List FnD} (h : ProgOk w v fv Ds) (hn : Ds.length = 0) : Calls Tryd.prog 35 #[v] w (AnsN 8 w) := by
 obtain ⟨A, c, e, _, hm, hr⟩ := h.rows
 rw [e, hn]
 have b0 : Below w.heap.size w (w.alloc (.cells #[.slice A 0 c] tPr)) := (Below.refl _ _).alloc (Nat.le_refl _) _
 have HB := Lib.hid b0
 clear h hr e b0
 go_enter Tryd.func35, Tryd.ntmps35
 go_wp2_with fail
 go_ret
 exact ⟨rfl, HB.out⟩
theorem inputs_rows {w : World} {g o n : Nat} {ls : List (List Value)} (h : RowsAt w (some ⟨g, o, none⟩) 2 ls) : RowsAt w (some ⟨g, o + 1 * 2, none⟩) 2 ((ls.drop 1).take n) := fun i el hi => by
 have hi2 : ls[1 + i]? = some el := by
  rw [List.getElem?_take] at hi
  split at hi
  ·rw [← List.getElem?_drop]; exact hi
  ·cases hi
 obtain ⟨g', o', e, hg, hr⟩ := h _ _ hi2
 cases e
 refine ⟨_, _, rfl, hg, ?_⟩
 rw [show o + 1 * 2 + i * 2 = o + (1 + i) * 2 by omega]
 exact hr
set_option maxHeartbeats 8000000 in
set_option maxRecDepth 100000 in
theorem chka_c {w : World} {v fv : Value} {Ds : List FnD} (h : ProgOk w v fv Ds) (h0 : 0 < Ds.length) (h8 : Ds.length ≤ 8) : Calls Tryd.prog 35 #[v] w (AnsN (chkP Ds) w) := by
 obtain ⟨A, c, e, _, hm, hr⟩ := h.rows
 have hP : chkP Ds = if badF Ds = 0 then (if inputsB Ds && callsP Ds then 0 else 8) else badF Ds := by unfold chkP; rw [if_neg (by omega), if_neg (by omega)]
 have HPP := Lib.hid hP
 have hd8 : decide ((Ds.length : Int) > 8) = false := decide_eq_false (by omega)
 have h8n : ¬ (8 : Int) < (Ds.length : Int) := by omega
 have hne0 : ((Ds.length : Int) == 0) = false := by rw [beq_eq_false_iff_ne]; omega
 have HF := Lib.hid (fun (D : FnD) (hD : D ∈ Ds) (W : World) (hW : Below w.heap.size w W) => txt.chk_a ((h.fn D hD).frz hW.block) W (Below.refl _ _))
 have HOK := Lib.hid h.fn
 rw [e]
 obtain ⟨w1, hw1⟩ : ∃ w1, w1 = w.alloc (.cells #[.slice A Ds.length c] tPr) := ⟨_, rfl⟩
 have b0 : Below w.heap.size w w1 := by rw [hw1]; exact (Below.refl _ _).alloc (Nat.le_refl _) _
 have P0 : w1.heap[w.heap.size]? = some (.cells #[.slice A Ds.length c] tPr (0, 0)) := by rw [hw1]; exact at_alloc rfl
 have p0 : w1.cell? ⟨w.heap.size, 0, none⟩ = some (.slice A Ds.length c) := by rw [cell_of_row _ w.heap.size 0 _ _ (0, 0) P0]; rfl
 have l1 : w.heap.size < w1.heap.size := by rw [hw1]; simp
 have HB := Lib.hid b0
 have HR := Lib.hid hr
 have HP0 := Lib.hid P0
 clear h hr e b0 hP P0
 go_enter Tryd.func35, Tryd.ntmps35
 go_upto_region 1 with fail
 rw [← hw1]
 clear hw1
 go_wp2_with fail
 clear p0
 go_loopg [20] Ds.length (fun g s20 w8 => ∃ i : Nat, s20 = .int .i64 i ∧ i ≤ Ds.length ∧ g = Ds.length - i ∧ (∀ D ∈ Ds.take i, check.chkF D = 0) ∧ Below w1.heap.size w1 w8)
 case atStart => exact ⟨0, rfl, Nat.zero_le _, rfl, (by simp), Below.refl _ _⟩
 case round =>
  obtain ⟨i, rfl, hi, rfl, hno, hbel⟩ := hrel
  have h0I : (0 : Int) ≤ (i : Int) := Int.natCast_nonneg _
  have p0 := (hbel.block _ l1).trans HP0.out
  have HBL := Lib.hid hbel
  have HO := Lib.hid (HB.out.trans (hbel.mono HB.out.size))
  have HNO := Lib.hid hno
  have HP := Lib.hid p0
  clear hbel hno p0
  rcases Nat.lt_or_ge i Ds.length with hlt | hge
  ·have hltI : (i : Int) < (Ds.length : Int) := by omega
   obtain ⟨D, hD⟩ : ∃ D, Ds[i]? = some D := ⟨_, List.getElem?_eq_getElem hlt⟩
   obtain ⟨g, o, eA, hg, hc⟩ := fn_range4 (HR.out.below HO.out) hD
   subst eA
   obtain ⟨A1, c1, q1, A2, c2, q2⟩ := fn_slices (HOK.out D (List.mem_of_getElem? hD))
   have hbx : Below wr.heap.size wr (wr.alloc (.cells #[.int .i64 D.p, .bool D.u, D.lv, D.bv] tFn)) := (Below.refl _ _).alloc (Nat.le_refl _) _
   have hX := HO.out.trans (hbx.mono HO.out.size)
   have hBX := HBL.out.trans (hbx.mono HBL.out.size)
   have hck := HF.out D (List.mem_of_getElem? hD) _ hX
   rw [q1, q2] at hc hX hBX hck
   have HC := Lib.hid hc
   have HD := Lib.hid hD
   have HX := Lib.hid hX
   have HBX := Lib.hid hBX
   have HCK := Lib.hid hck
   clear hc hD hbx q1 q2 hX hBX hck
   by_cases hz : check.chkF D = 0
   ·have HZ := Lib.hid hz
    rw [hz] at HCK
    clear hz
    go_wp2_with (first | (refine wpList_load_mid rfl tFn _ rfl g (o + i * 4) rfl [.int .i64 D.p, .bool D.u, .slice A1 D.ls.length c1, .slice A2 D.bs.length c2] _ HC.out Tryd.underlying25 rfl fnR ?_) | (go_at_call 23; refine HCK.out.mono ?_; rintro e w2 ⟨rfl, b2⟩))
    go_roundg (Ds.length - (i + 1))
    case measure => omega
    case rel => exact ⟨i + 1, by simp, by omega, rfl, take_one HD.out HNO.out HZ.out, HBX.out.trans (b2.mono HBX.out.size)⟩
   ·have hb := badF_at HD.out HNO.out hz
    have hz' : (check.chkF D != 0) = true := by simpa using hz
    have HV := Lib.hid (show chkP Ds = check.chkF D from by rw [HPP.out, hb, if_neg hz])
    clear hb
    go_wp2_with (first | (refine wpList_load_mid rfl tFn _ rfl g (o + i * 4) rfl [.int .i64 D.p, .bool D.u, .slice A1 D.ls.length c1, .slice A2 D.bs.length c2] _ HC.out Tryd.underlying25 rfl fnR ?_) | (go_at_call 23; refine HCK.out.mono ?_; rintro e w2 ⟨rfl, b2⟩))
    go_ret
    exact ⟨by rw [HV.out]; rfl, HX.out.trans (b2.mono HX.out.size)⟩
  ·obtain rfl : i = Ds.length := by omega
   have hall := HNO.out
   rw [List.take_length] at hall
   have HV := Lib.hid (show chkP Ds = if inputsB Ds && callsP Ds then 0 else 8 from by rw [HPP.out, badF_all hall, if_pos rfl])
   obtain ⟨D, hD⟩ : ∃ D, Ds[0]? = some D := ⟨_, List.getElem?_eq_getElem h0⟩
   have hDm := List.mem_of_getElem? hD
   have hgd : Ds.getD 0 noF = D := by rw [List.getD_eq_getElem?_getD, hD]; rfl
   have hDk := HOK.out D hDm
   have k := txt.txt_ok (hall D hDm)
   have hp0 := k.p.1
   have hp8 := k.p.2
   obtain ⟨hlt0, hlt1⟩ : D.p < D.ls.length ∧ 0 < D.ls.length := by
    have := (size.of_chk (hall D hDm)).2.1
    unfold made.madeF head.headF head.guard at this
    simp only [Bool.and_eq_true, decide_eq_true_eq] at this
    exact ⟨this.1.1.2.2.2, this.1.1.1⟩
   obtain ⟨Al, cl, el, hml, hrl⟩ := ListAt.rows hDk.locals (by decide)
   obtain ⟨gl, ol, rfl, hgl, _⟩ := txt.rows_some hrl hlt1
   obtain ⟨hcl, hcm⟩ := hDk.locals.cap (fun e => by rw [e] at hlt1; exact absurd hlt1 (by decide)) _ _ _ el
   obtain ⟨A2, c2, eb, hmb, hrb⟩ := FnOk'.blks hDk
   obtain ⟨pn, hpn⟩ : ∃ pn : Nat, D.p = (pn : Int) := ⟨D.p.toNat, by omega⟩
   obtain ⟨g, o, eA, hg, hc⟩ := fn_range4 (HR.out.below HO.out) hD
   subst eA
   rw [el, eb, hpn] at hc
   simp only [Nat.zero_mul, Nat.add_zero] at hc
   have hib : inputsB Ds = ((D.ls.drop 1).take pn).all intT := by unfold inputsB; rw [hgd, hpn]; rfl
   have hv2 := HV.out
   rw [hib] at hv2
   have HV2 := Lib.hid hv2
   clear hv2
   have hlx : ((D.ls.drop 1).take pn).length = pn := by rw [List.length_take, List.length_drop]; omega
   -- the variable of the closure, then that of the function
   obtain ⟨wv, hwv⟩ : ∃ wv, wv = (wr.alloc (.cells #[.func (.func 59) #[] #[.pointer (some ⟨w.heap.size, 0, none⟩)]] 113)).alloc (.cells #[.int .i64 pn, .bool D.u, .slice (some ⟨gl, ol, none⟩) D.ls.length cl, .slice A2 D.bs.length c2] tFn) := ⟨_, rfl⟩
   have bv : Below wr.heap.size wr wv := by rw [hwv]; exact ((Below.refl _ _).alloc (Nat.le_refl _) _).alloc (by simp) _
   have cv : wv.cell? ⟨wr.heap.size, 0, none⟩ = some (.func (.func 59) #[] #[.pointer (some ⟨w.heap.size, 0, none⟩)]) := by rw [hwv, cell_of_row _ wr.heap.size 0 _ _ (0, 0) (at_more (at_alloc rfl))]; rfl
   have lv : wr.heap.size < wv.heap.size := by rw [hwv]; simp; omega
   have hwr : w.heap.size < wr.heap.size := (Array.getElem?_eq_some_iff.1 HP.out).1
   have pv : wv.cell? ⟨w.heap.size, 0, none⟩ = some (.slice (some ⟨g, o, none⟩) Ds.length c) := (bv.cell (p := ⟨w.heap.size, 0, none⟩) hwr).trans (by rw [cell_of_row wr _ 0 _ tPr (0, 0) HP.out]; rfl)
   have bw := HO.out.trans (bv.mono HO.out.size)
   have HT := Lib.hid (fun (c' : Nat) => allT (w := wv) (A := if cl = 1 then some ⟨gl, ol, none⟩ else some ⟨gl, ol + 2, none⟩) (c := c') (f := fun t => t) (t := intT) (xs := (D.ls.drop 1).take pn) (by rw [List.map_id']; split; (· next h1 => (have hp00 : pn = 0 := by omega); subst hp00; intro i el hi; simp at hi); exact (inputs_rows hrl).below bw) (by omega)
    (fun t ht => ⟨(hDk.lkd t (List.mem_of_mem_drop (List.mem_of_mem_take ht))).len.symm, stm_ones (hDk.lkd t (List.mem_of_mem_drop (List.mem_of_mem_take ht)))⟩) (fun t ht W _ => code_c (hDk.lkd t (List.mem_of_mem_drop (List.mem_of_mem_take ht))) (k.ty t (List.mem_of_mem_drop (List.mem_of_mem_take ht))) W))
   rw [hlx] at HT
   have hF3 := fun (W : World) (hW : Below w.heap.size w W) (hW2 : Below wv.heap.size wv W) (cb : Nat) => allF (w := W) (A := some ⟨g, o, none⟩) (c := cb) (Y := wr.heap.size) (f := FnD.cells) (t := fun D => D.bs.all (callB Ds)) (xs := Ds) (HR.out.below hW) (by omega)
    (fun E hE => ⟨rfl, by obtain ⟨B1, d1, r1, B2, d2, r2⟩ := fn_slices (HOK.out E hE); intro u hu; unfold FnD.cells at hu; rw [r1, r2] at hu; simp only [List.mem_cons, List.not_mem_nil, or_false] at hu; rcases hu with rfl | rfl | rfl | rfl <;> rfl⟩)
    (fun E hE W2 hW3 => blks_c (c := c) ((HOK.out E hE).frz (hW.trans (hW3.mono hW.size)).block) (txt.txt_ok (hall E hE)).b1 (fn_calls_ok (HOK.out E hE) (hall E hE)) (HR.out.below (hW.trans (hW3.mono hW.size))) h8 ((hW3.cell (p := ⟨wr.heap.size, 0, none⟩) (Nat.lt_of_lt_of_le lv hW2.size)).trans ((hW2.cell (p := ⟨wr.heap.size, 0, none⟩) lv).trans cv)) (Nat.lt_of_lt_of_le lv (Nat.le_trans hW2.size hW3.size)) ((hW3.cell (p := ⟨w.heap.size, 0, none⟩) (Nat.lt_of_lt_of_le (Nat.lt_trans hwr lv) hW2.size)).trans ((hW2.cell (p := ⟨w.heap.size, 0, none⟩) (Nat.lt_trans hwr lv)).trans pv)) (Nat.lt_of_lt_of_le (Nat.lt_trans hwr lv) (Nat.le_trans hW2.size hW3.size)))
   have BV : Box wv (wr.heap.size + 1) tFn (.int .i64 pn) (.bool D.u) (.slice (some ⟨gl, ol, none⟩) D.ls.length cl) (.slice A2 D.bs.length c2) := by rw [hwv]; exact Box.mk (by simp)
   have hpl : (1 : Int) + pn ≤ cl := by omega
   have hpl2 : (0 : Int) ≤ (pn : Int) := by omega
   have hll : (0 : Int) < (Ds.length : Int) := by omega
   have HBW := Lib.hid bw
   have HC := Lib.hid hc
   have HF3 := Lib.hid hF3
   have HPV := Lib.hid pv
   have q0 : wr.cell? ⟨w.heap.size, 0, none⟩ = some (.slice (some ⟨g, o, none⟩) Ds.length c) := by rw [cell_of_row wr _ 0 _ tPr (0, 0) HP.out]; rfl
   have q1 : (wr.alloc (.cells #[.func (.func 59) #[] #[.pointer (some ⟨w.heap.size, 0, none⟩)]] 113)).cell? ⟨w.heap.size, 0, none⟩ = some (.slice (some ⟨g, o, none⟩) Ds.length c) := cell_more q0
   obtain ⟨y0, y1, y2, y3⟩ := BV.cells
   have HWV := Lib.hid hwv
   clear hc bw hF3 pv cv BV bv hrl hrb hall hDk k hD hgd hib el eb hmb hml HOK HF HNO HO HBL hwv
   have hstf : ∀ (fn : Fn) (f1 c1 : Array Value) (a : Addr) (m : Mode) (W : World), (store a (.func fn f1 c1) m).run Tryd.prog W = stored Tryd.prog W a (.func fn f1 c1) m := fun _ _ _ _ _ _ => run_store _ _ _ _ _ rfl
   go_upto_region 14 with (refine wpList_load_mid rfl tFn _ rfl g o rfl [.int .i64 pn, .bool D.u, .slice (some ⟨gl, ol, none⟩) D.ls.length cl, .slice A2 D.bs.length c2] _ (range_more HC.out) Tryd.underlying25 rfl fnR ?_)
   rw [← HWV.out]
   clear q0 q1
   generalize ((D.ls.drop 1).take pn).all intT = ib at *
   have HLW := Lib.hid (Nat.lt_trans hwr lv)
   by_cases hc1 : cl = 1
   all_goals (
    first | (rw [if_pos hc1] at HT; subst hc1) | rw [if_neg hc1] at HT
    cases ib with
    | false =>
     go_wp2_with (go_at_call 60; refine (HT.out _).mono ?_; rintro e wx ⟨rfl, bx⟩)
     go_ret
     exact ⟨by rw [HV2.out]; rfl, HBW.out.trans (bx.mono HBW.out.size)⟩
    | true =>
     go_upto_region 15 with (go_at_call 60; refine (HT.out _).mono ?_; rintro e wx ⟨rfl, bx⟩)
     have q2 := (bx.cell (p := ⟨w.heap.size, 0, none⟩) HLW.out).trans HPV.out
     have HX := Lib.hid (HBW.out.trans (bx.mono HBW.out.size))
     have hfc := HF3.out wx HX.out bx c
     have hcp : (Ds.all fun D => D.bs.all (callB Ds)) = callsP Ds := rfl
     rw [hcp] at hfc
     clear y0 y1 y2 y3 hcp bx HT HF3
     cases hq : callsP Ds with
     | false =>
      rw [hq] at hfc
      have HFC := Lib.hid hfc
      have HV3 := Lib.hid (show chkP Ds = 8 from by rw [HV2.out, hq]; rfl)
      clear hq hfc HV2
      go_wp2_with (go_at_call 63; refine HFC.out.mono ?_; rintro e wy ⟨rfl, by1⟩)
      go_ret
      exact ⟨by rw [HV3.out]; rfl, HX.out.trans (by1.mono HX.out.size)⟩
     | true =>
      rw [hq] at hfc
      have HFC := Lib.hid hfc
      have HV3 := Lib.hid (show chkP Ds = 0 from by rw [HV2.out, hq]; rfl)
      clear hq hfc HV2
      go_wp2_with (go_at_call 63; refine HFC.out.mono ?_; rintro e wy ⟨rfl, by1⟩)
      go_ret
      exact ⟨by rw [HV3.out]; rfl, HX.out.trans (by1.mono HX.out.size)⟩)
end Go.Proofs.YtglmonlofejcgaaDoor.prg
