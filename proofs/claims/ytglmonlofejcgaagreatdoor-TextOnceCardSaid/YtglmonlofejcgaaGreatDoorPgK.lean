/- program.Check. -/
import Derived.Test.YtglmonlofejcgaaGreatDoorPgQ
set_option maxHeartbeats 8000000
set_option maxRecDepth 100000
open List renaming mem_of_getElem? → apu, mem_of_mem_take → apv, mem_of_mem_drop → apx, getElem?_eq_getElem → apz, length_take → apB, take_length → apF, length_cons → apG
open Nat renaming le_refl → apw, lt_of_lt_of_le → apA, lt_trans → apC, le_of_lt → apE
open Array renaming getElem?_eq_some_iff → apy
open Int renaming natCast_nonneg → apD
set_option linter.unusedVariables false
namespace Go.Proofs.YtglmonlofejcgaaGreatDoor
namespace prg
open Go.RowKit Am loan bld
def amH (x : Int) (W : World) : Ending -> World -> Prop := bld.Ans W (.int .i64 x)
theorem a5b {w : World} {v fv : Value} {Ds : List FnD} (h : cu w v fv Ds) (hn : 8 < Ds.length) : Calls Tryz.prog 29 #[v] w (amH 4 w) := by
 obtain ⟨A, c, e, _, hm, hr⟩ := h.rows
 rw [e]
 have hd : decide ((Ds.length : Int) > 8) = true := decide_eq_true (by omega)
 have b0 : Below w.heap.size w (w.alloc (.cells #[.slice A Ds.length c] tPr)) := (Below.refl _ _).alloc (apw _) _
 have HB := Lib.hid b0
 clear h hr e b0
 go_enter Tryz.func29, Tryz.ntmps29
 go_wp2_with fail
 go_ret
 exact ⟨rfl, HB.out⟩
theorem a7f {w : World} {v fv : Value} {Ds : List FnD} (h : cu w v fv Ds) (hn : Ds.length = 0) : Calls Tryz.prog 29 #[v] w (amH 8 w) := by
 obtain ⟨A, c, e, _, hm, hr⟩ := h.rows
 rw [e, hn]
 have b0 : Below w.heap.size w (w.alloc (.cells #[.slice A 0 c] tPr)) := (Below.refl _ _).alloc (apw _) _
 have HB := Lib.hid b0
 clear h hr e b0
 go_enter Tryz.func29, Tryz.ntmps29
 go_wp2_with fail
 go_ret
 exact ⟨rfl, HB.out⟩
theorem Xz {w : World} {g o n : Nat} {ls : List (List Value)} (h : gY w (some ⟨g, o, none⟩) 2 ls) : gY w (some ⟨g, o + 1 * 2, none⟩) 2 ((ls.drop 1).take n) := fun i el hi => by
 have hi2 : ls[1 + i]? = some el := by
  rw [List.getElem?_take] at hi
  split at hi
  ·rw [<- List.getElem?_drop]; exact hi
  ·cases hi
 obtain ⟨g', o', e, hg, hr⟩ := h _ _ hi2
 cases e
 refine ⟨_, _, rfl, hg, ?_⟩
 rw [show o + 1 * 2 + i * 2 = o + (1 + i) * 2 by omega]
 exact hr
theorem amA {w : World} {v fv : Value} {Ds : List FnD} (h : cu w v fv Ds) (h0 : 0 < Ds.length) (h8 : Ds.length <= 8) : Calls Tryz.prog 29 #[v] w (amH (gJ Ds) w) := by
 obtain ⟨A, c, e, _, hm, hr⟩ := h.rows
 have hP : gJ Ds = if vF Ds = 0 then (if ql Ds && vK Ds then 0 else 8) else vF Ds := by unfold gJ; rw [if_neg (by omega), if_neg (by omega)]
 have HPP := Lib.hid hP
 have hd8 : decide ((Ds.length : Int) > 8) = false := decide_eq_false (by omega)
 have h8n : ¬ (8 : Int) < (Ds.length : Int) := by omega
 have hne0 : ((Ds.length : Int) == 0) = false := by rw [beq_eq_false_iff_ne]; omega
 have HF := Lib.hid (fun (D : FnD) (hD : D ∈ Ds) (W : World) (hW : Below w.heap.size w W) => txt.Zc ((h.fn D hD).frz hW.block) W (Below.refl _ _))
 have HOK := Lib.hid h.fn
 rw [e]
 obtain ⟨w1, hw1⟩ : ∃ w1, w1 = w.alloc (.cells #[.slice A Ds.length c] tPr) := ⟨_, rfl⟩
 have b0 : Below w.heap.size w w1 := by rw [hw1]; exact (Below.refl _ _).alloc (apw _) _
 have P0 : w1.heap[w.heap.size]? = some (.cells #[.slice A Ds.length c] tPr (0, 0)) := by rw [hw1]; exact aX rfl
 have p0 : w1.cell? ⟨w.heap.size, 0, none⟩ = some (.slice A Ds.length c) := by rw [cell_of_row _ w.heap.size 0 _ _ (0, 0) P0]; rfl
 have l1 : w.heap.size < w1.heap.size := by rw [hw1]; simp
 have HB := Lib.hid b0
 have HR := Lib.hid hr
 have HP0 := Lib.hid P0
 clear h hr e b0 hP P0
 go_enter Tryz.func29, Tryz.ntmps29
 go_upto_region 1 with fail
 rw [<- hw1]
 clear hw1
 go_wp2_with fail
 clear p0
 go_loopg [20] Ds.length (fun g s20 w8 => ∃ i : Nat, s20 = .int .i64 i /\ i <= Ds.length /\ g = Ds.length - i /\ (∀ D ∈ Ds.take i, check.jK D = 0) /\ Below w1.heap.size w1 w8)
 case atStart => exact ⟨0, rfl, Nat.zero_le _, rfl, (by simp), Below.refl _ _⟩
 case round =>
  obtain ⟨i, rfl, hi, rfl, hno, hbel⟩ := hrel
  have h0I : (0 : Int) <= (i : Int) := apD _
  have p0 := (hbel.block _ l1).trans HP0.out
  have HBL := Lib.hid hbel
  have HO := Lib.hid (HB.out.trans (hbel.mono HB.out.size))
  have HNO := Lib.hid hno
  have HP := Lib.hid p0
  clear hbel hno p0
  rcases Nat.lt_or_ge i Ds.length with hlt | hge
  ·have hltI : (i : Int) < (Ds.length : Int) := by omega
   obtain ⟨D, hD⟩ : ∃ D, Ds[i]? = some D := ⟨_, apz hlt⟩
   obtain ⟨g, o, eA, hg, hc⟩ := iL (HR.out.below HO.out) hD
   subst eA
   obtain ⟨A1, c1, q1, A2, c2, q2⟩ := Gi (HOK.out D (apu hD))
   have hbx : Below wr.heap.size wr (wr.alloc (.cells #[.int .i64 D.p, .bool D.u, D.lv, D.bv] tFn)) := (Below.refl _ _).alloc (apw _) _
   have hX := HO.out.trans (hbx.mono HO.out.size)
   have hBX := HBL.out.trans (hbx.mono HBL.out.size)
   have hck := HF.out D (apu hD) _ hX
   rw [q1, q2] at hc hX hBX hck
   have HC := Lib.hid hc
   have HD := Lib.hid hD
   have HX := Lib.hid hX
   have HBX := Lib.hid hBX
   have HCK := Lib.hid hck
   clear hc hD hbx q1 q2 hX hBX hck
   by_cases hz : check.jK D = 0
   ·have HZ := Lib.hid hz
    rw [hz] at HCK
    clear hz
    go_wp2_with (first | (refine wpList_load_mid rfl tFn _ rfl g (o + i * 4) rfl [.int .i64 D.p, .bool D.u, .slice A1 D.ls.length c1, .slice A2 D.bs.length c2] _ HC.out Tryz.underlying25 rfl fnR ?_) | (go_at_call 21; refine HCK.out.mono ?_; rintro e w2 ⟨rfl, b2⟩))
    go_roundg (Ds.length - (i + 1))
    case measure => omega
    case rel => exact ⟨i + 1, by simp, by omega, rfl, take_one HD.out HNO.out HZ.out, HBX.out.trans (b2.mono HBX.out.size)⟩
   ·have hb := Vd HD.out HNO.out hz
    have hz' : (check.jK D != 0) = true := by simpa using hz
    have HV := Lib.hid (show gJ Ds = check.jK D from by rw [HPP.out, hb, if_neg hz])
    clear hb
    go_wp2_with (first | (refine wpList_load_mid rfl tFn _ rfl g (o + i * 4) rfl [.int .i64 D.p, .bool D.u, .slice A1 D.ls.length c1, .slice A2 D.bs.length c2] _ HC.out Tryz.underlying25 rfl fnR ?_) | (go_at_call 21; refine HCK.out.mono ?_; rintro e w2 ⟨rfl, b2⟩))
    go_ret
    exact ⟨by rw [HV.out]; rfl, HX.out.trans (b2.mono HX.out.size)⟩
  ·obtain rfl : i = Ds.length := by omega
   have hall := HNO.out
   rw [apF] at hall
   have HV := Lib.hid (show gJ Ds = if ql Ds && vK Ds then 0 else 8 from by rw [HPP.out, Pm hall, if_pos rfl])
   obtain ⟨D, hD⟩ : ∃ D, Ds[0]? = some D := ⟨_, apz h0⟩
   have hDm := apu hD
   have hgd : Ds.getD 0 noF = D := by rw [List.getD_eq_getElem?_getD, hD]; rfl
   have hDk := HOK.out D hDm
   have k := txt.jW (hall D hDm)
   have hp0 := k.p.1
   have hp8 := k.p.2
   obtain ⟨hlt0, hlt1⟩ : D.p < D.ls.length /\ 0 < D.ls.length := by
    have := (size.ZE (hall D hDm)).2.1
    unfold made.kV head.mM head.guard at this
    simp only [Bool.and_eq_true, decide_eq_true_eq] at this
    exact ⟨this.1.1.2.2.2, this.1.1.1⟩
   obtain ⟨Al, cl, el, hml, hrl⟩ := cZ.rows hDk.locals (by decide)
   obtain ⟨gl, ol, rfl, hgl, _⟩ := txt.nY hrl hlt1
   obtain ⟨hcl, hcm⟩ := hDk.locals.cap (fun e => by rw [e] at hlt1; exact absurd hlt1 (by decide)) _ _ _ el
   obtain ⟨A2, c2, eb, hmb, hrb⟩ := aV.blks hDk
   obtain ⟨pn, hpn⟩ : ∃ pn : Nat, D.p = (pn : Int) := ⟨D.p.toNat, by omega⟩
   obtain ⟨g, o, eA, hg, hc⟩ := iL (HR.out.below HO.out) hD
   subst eA
   rw [el, eb, hpn] at hc
   simp only [Nat.zero_mul, Nat.add_zero] at hc
   have hib : ql Ds = ((D.ls.drop 1).take pn).all Qe := by unfold ql; rw [hgd, hpn]; rfl
   have hv2 := HV.out
   rw [hib] at hv2
   have HV2 := Lib.hid hv2
   clear hv2
   have hlx : ((D.ls.drop 1).take pn).length = pn := by rw [apB, List.length_drop]; omega
   -- the variable of the closure, then that of the function
   obtain ⟨wv, hwv⟩ : ∃ wv, wv = (wr.alloc (.cells #[.func (.func 48) #[] #[.pointer (some ⟨w.heap.size, 0, none⟩)]] 99)).alloc (.cells #[.int .i64 pn, .bool D.u, .slice (some ⟨gl, ol, none⟩) D.ls.length cl, .slice A2 D.bs.length c2] tFn) := ⟨_, rfl⟩
   have bv : Below wr.heap.size wr wv := by rw [hwv]; exact ((Below.refl _ _).alloc (apw _) _).alloc (by simp) _
   have cv : wv.cell? ⟨wr.heap.size, 0, none⟩ = some (.func (.func 48) #[] #[.pointer (some ⟨w.heap.size, 0, none⟩)]) := by rw [hwv, cell_of_row _ wr.heap.size 0 _ _ (0, 0) (jX (aX rfl))]; rfl
   have lv : wr.heap.size < wv.heap.size := by rw [hwv]; simp; omega
   have hwr : w.heap.size < wr.heap.size := (apy.1 HP.out).1
   have pv : wv.cell? ⟨w.heap.size, 0, none⟩ = some (.slice (some ⟨g, o, none⟩) Ds.length c) := (bv.cell (p := ⟨w.heap.size, 0, none⟩) hwr).trans (by rw [cell_of_row wr _ 0 _ tPr (0, 0) HP.out]; rfl)
   have bw := HO.out.trans (bv.mono HO.out.size)
   have HT := Lib.hid (fun (c' : Nat) => allT (w := wv) (A := if cl = 1 then some ⟨gl, ol, none⟩ else some ⟨gl, ol + 2, none⟩) (c := c') (f := fun t => t) (t := Qe) (xs := (D.ls.drop 1).take pn) (by rw [List.map_id']; split; (· next h1 => (have hp00 : pn = 0 := by omega); subst hp00; intro i el hi; simp at hi); exact (Xz hrl).below bw) (by omega)
    (fun t ht => ⟨(hDk.lkd t (apx (apv ht))).len.symm, xR (hDk.lkd t (apx (apv ht)))⟩) (fun t ht W _ => am7 (hDk.lkd t (apx (apv ht))) (k.ty t (apx (apv ht))) W))
   rw [hlx] at HT
   have hF3 := fun (W : World) (hW : Below w.heap.size w W) (hW2 : Below wv.heap.size wv W) (cb : Nat) => aoT (w := W) (A := some ⟨g, o, none⟩) (c := cb) (Y := wr.heap.size) (f := FnD.cells) (t := fun D => D.bs.all (nD Ds)) (xs := Ds) (HR.out.below hW) (by omega)
    (fun E hE => ⟨rfl, by obtain ⟨B1, d1, r1, B2, d2, r2⟩ := Gi (HOK.out E hE); intro u hu; unfold FnD.cells at hu; rw [r1, r2] at hu; simp only [List.mem_cons, List.not_mem_nil, or_false] at hu; rcases hu with rfl | rfl | rfl | rfl <;> rfl⟩)
    (fun E hE W2 hW3 => amq (c := c) ((HOK.out E hE).frz (hW.trans (hW3.mono hW.size)).block) (txt.jW (hall E hE)).b1 (J8 (HOK.out E hE) (hall E hE)) (HR.out.below (hW.trans (hW3.mono hW.size))) h8 ((hW3.cell (p := ⟨wr.heap.size, 0, none⟩) (apA lv hW2.size)).trans ((hW2.cell (p := ⟨wr.heap.size, 0, none⟩) lv).trans cv)) (apA lv (Nat.le_trans hW2.size hW3.size)) ((hW3.cell (p := ⟨w.heap.size, 0, none⟩) (apA (apC hwr lv) hW2.size)).trans ((hW2.cell (p := ⟨w.heap.size, 0, none⟩) (apC hwr lv)).trans pv)) (apA (apC hwr lv) (Nat.le_trans hW2.size hW3.size)))
   have BV : Box wv (wr.heap.size + 1) tFn (.int .i64 pn) (.bool D.u) (.slice (some ⟨gl, ol, none⟩) D.ls.length cl) (.slice A2 D.bs.length c2) := by rw [hwv]; exact Box.mk (by simp)
   have hpl : (1 : Int) + pn <= cl := by omega
   have hpl2 : (0 : Int) <= (pn : Int) := by omega
   have hll : (0 : Int) < (Ds.length : Int) := by omega
   have HBW := Lib.hid bw
   have HC := Lib.hid hc
   have HF3 := Lib.hid hF3
   have HPV := Lib.hid pv
   have q0 : wr.cell? ⟨w.heap.size, 0, none⟩ = some (.slice (some ⟨g, o, none⟩) Ds.length c) := by rw [cell_of_row wr _ 0 _ tPr (0, 0) HP.out]; rfl
   have q1 : (wr.alloc (.cells #[.func (.func 48) #[] #[.pointer (some ⟨w.heap.size, 0, none⟩)]] 99)).cell? ⟨w.heap.size, 0, none⟩ = some (.slice (some ⟨g, o, none⟩) Ds.length c) := Gx q0
   obtain ⟨y0, y1, y2, y3⟩ := BV.cells
   have HWV := Lib.hid hwv
   clear hc bw hF3 pv cv BV bv hrl hrb hall hDk k hD hgd hib el eb hmb hml HOK HF HNO HO HBL hwv
   have hstf : ∀ (fn : Fn) (f1 c1 : Array Value) (a : Addr) (m : Mode) (W : World), (store a (.func fn f1 c1) m).run Tryz.prog W = stored Tryz.prog W a (.func fn f1 c1) m := fun _ _ _ _ _ _ => run_store _ _ _ _ _ rfl
   go_upto_region 14 with (refine wpList_load_mid rfl tFn _ rfl g o rfl [.int .i64 pn, .bool D.u, .slice (some ⟨gl, ol, none⟩) D.ls.length cl, .slice A2 D.bs.length c2] _ (ZP HC.out) Tryz.underlying25 rfl fnR ?_)
   rw [<- HWV.out]
   clear q0 q1
   generalize ((D.ls.drop 1).take pn).all Qe = ib at *
   have HLW := Lib.hid (apC hwr lv)
   by_cases hc1 : cl = 1
   all_goals (
    first | (rw [if_pos hc1] at HT; subst hc1) | rw [if_neg hc1] at HT
    cases ib with
    | false =>
     go_wp2_with (go_at_call 49; refine (HT.out _).mono ?_; rintro e wx ⟨rfl, bx⟩)
     go_ret
     exact ⟨by rw [HV2.out]; rfl, HBW.out.trans (bx.mono HBW.out.size)⟩
    | true =>
     go_upto_region 15 with (go_at_call 49; refine (HT.out _).mono ?_; rintro e wx ⟨rfl, bx⟩)
     have q2 := (bx.cell (p := ⟨w.heap.size, 0, none⟩) HLW.out).trans HPV.out
     have HX := Lib.hid (HBW.out.trans (bx.mono HBW.out.size))
     have hfc := HF3.out wx HX.out bx c
     have hcp : (Ds.all fun D => D.bs.all (nD Ds)) = vK Ds := rfl
     rw [hcp] at hfc
     clear y0 y1 y2 y3 hcp bx HT HF3
     cases hq : vK Ds with
     | false =>
      rw [hq] at hfc
      have HFC := Lib.hid hfc
      have HV3 := Lib.hid (show gJ Ds = 8 from by rw [HV2.out, hq]; rfl)
      clear hq hfc HV2
      go_wp2_with (go_at_call 52; refine HFC.out.mono ?_; rintro e wy ⟨rfl, by1⟩)
      go_ret
      exact ⟨by rw [HV3.out]; rfl, HX.out.trans (by1.mono HX.out.size)⟩
     | true =>
      rw [hq] at hfc
      have HFC := Lib.hid hfc
      have HV3 := Lib.hid (show gJ Ds = 0 from by rw [HV2.out, hq]; rfl)
      clear hq hfc HV2
      go_wp2_with (go_at_call 52; refine HFC.out.mono ?_; rintro e wy ⟨rfl, by1⟩)
      go_ret
      exact ⟨by rw [HV3.out]; rfl, HX.out.trans (by1.mono HX.out.size)⟩)
open txt (textF rJ Lim Cons Wr CY kM UW)
def fU : Nat -> List FnD -> List UInt8
 | _, [] => []
 | i, D :: Ds => textF D (i : Nat) ++ fU (i + 1) Ds
theorem RH : ∀ (j : Nat) (a b : List FnD), fU j (a ++ b) = fU j a ++ fU (j + a.length) b
 | j, [], b => by simp [fU]
 | j, D :: a, b => by rw [List.cons_append, fU, fU, RH (j + 1) a b, List.append_assoc, apG, show j + 1 + a.length = j + (a.length + 1) by omega]
theorem Ci {Ds : List FnD} {i : Nat} {D : FnD} (h : Ds[i]? = some D) : fU 0 (Ds.take (i + 1)) = fU 0 (Ds.take i) ++ textF D (i : Nat) := by
 have hl : (Ds.take i).length = i := by have := (List.getElem?_eq_some_iff.1 h).1; rw [apB]; omega
 rw [List.take_add_one, h, RH, hl, Nat.zero_add]
 simp [fU]
theorem Qx : ∀ {Ds : List FnD} {j : Nat}, (∀ D ∈ Ds, Lim D) -> (fU j Ds).length <= 1000000 * Ds.length
 | [], _, _ => by simp [fU]
 | D :: Ds, j, h => by
  have h1 := kM (h D List.mem_cons_self) (j : Nat)
  have h2 := Qx (j := j + 1) fun x hx => h x (List.mem_cons_of_mem _ hx)
  rw [fU, List.length_append, apG]
  omega
theorem KH {Ds : List FnD} {i : Nat} (h : ∀ D ∈ Ds, Lim D) : (fU 0 (Ds.take i)).length <= 1000000 * Ds.length := by
 have h1 := Qx (Ds := Ds.take i) (j := 0) fun D hD => h D (apv hD)
 have h2 : (Ds.take i).length <= Ds.length := by rw [apB]; omega
 have := Nat.mul_le_mul_left 1000000 h2
 omega
def Jm (f : FuncId) (w : World) (v : Value) (x : Int) : Prop := ∀ w1, Below w.heap.size w w1 -> Calls Tryz.prog f #[v] w1 (bld.Ans w1 (.int .i64 x))
theorem ahN {w : World} {v fv : Value} {Ds : List FnD} (h : cu w v fv Ds) {x : Int} (hx : x ≠ 0) (hC : Jm 29 w v x) : Calls Tryz.prog 15 #[v] w (rJ [] x w) := by
 obtain ⟨A, c, e, _, hm, hr⟩ := h.rows
 unfold Jm at hC
 rw [e] at hC |-
 have b0 : Below w.heap.size w (w.alloc (.cells #[.slice A Ds.length c] tPr)) := (Below.refl _ _).alloc (apw _) _
 have hx' : (x != 0) = true := by simpa using hx
 have HC := Lib.hid hC
 have HB := Lib.hid b0
 clear hC h hr e b0
 go_enter Tryz.func15, Tryz.ntmps15
 go_wp2_with (go_at_call 29; refine (HC.out _ HB.out).mono ?_; rintro e w1 ⟨rfl, b1⟩)
 go_ret2
 exact ⟨rfl, HB.out.trans (b1.mono HB.out.size)⟩
theorem ao2 {w : World} {v fv : Value} {Ds : List FnD} (h : cu w v fv Ds) (h8 : Ds.length <= 8) (hL : ∀ D ∈ Ds, Lim D) (hK : ∀ D ∈ Ds, Cons w D) (hC : Jm 29 w v 0) : Calls Tryz.prog 15 #[v] w (rJ (fU 0 Ds) 0 w) := by
 obtain ⟨A, c, e, _, hm, hr⟩ := h.rows
 unfold Jm at hC
 have HF := Lib.hid (fun (D : FnD) (hD : D ∈ Ds) (w1 : World) (b : Nat) (acc : List UInt8) (n : Nat) (hn : n < 100) (hb : w.heap.size <= b) (hb1 : Below w.heap.size w w1) (hB : Bld tB tU b acc w1) (ha : acc.length <= 100000000) => CY (h.fn D hD) (hL D hD) (hK D hD) hb hb1 hB ha (n := (n : Int)) (by omega))
 have HSL := Lib.hid (fun (D : FnD) (hD : D ∈ Ds) => Gi (h.fn D hD))
 have HLIM := Lib.hid (fun i => KH (i := i) hL)
 rw [e] at hC |-
 have b0 : Below w.heap.size w (w.alloc (.cells #[.slice A Ds.length c] tPr)) := (Below.refl _ _).alloc (apw _) _
 have P0 : (w.alloc (.cells #[.slice A Ds.length c] tPr)).heap[w.heap.size]? = some (.cells #[.slice A Ds.length c] tPr (0, 0)) := aX rfl
 have HC := Lib.hid hC
 have HR := Lib.hid hr
 clear hC h hr e hL hK
 go_enter Tryz.func15, Tryz.ntmps15
 go_upto_region 4 with (go_at_call 29; refine (HC.out _ b0).mono ?_; rintro e w1 ⟨rfl, b1⟩)
 have b01 := b0.trans (b1.mono b0.size)
 have P1 := (b1.block _ (apy.1 P0).1).trans P0
 have p1 : w1.cell? ⟨w.heap.size, 0, none⟩ = some (.slice A Ds.length c) := by rw [cell_of_row w1 _ 0 _ tPr (0, 0) P1]; rfl
 have HB := Lib.hid (UW w1)
 have HB01 := Lib.hid b01
 have hlt1 : w.heap.size < w1.heap.size := (apy.1 P1).1
 have hbb : w.heap.size <= w1.heap.size := apE hlt1
 have HB2 := Lib.hid (b01.alloc hbb (.cells #[.pointer none, .slice none 0 0] tB))
 clear P0 P1 b0 b1 b01 HC
 go_wp2_with fail
 clear p1
 generalize w1.heap.size = b at *
 generalize w1.alloc (.cells #[.pointer none, .slice none 0 0] tB) = w2 at *
 go_loopg [16] Ds.length (fun g s16 w8 => ∃ i : Nat, s16 = .int .i64 i /\ i <= Ds.length /\ g = Ds.length - i /\ Bld tB tU b (fU 0 (Ds.take i)) w8 /\ Wrote tU b w2 w8)
 case atStart => exact ⟨0, rfl, Nat.zero_le _, rfl, by simpa [fU] using HB.out, Wrote.refl _ _ _⟩
 case round =>
  obtain ⟨i, rfl, hi, rfl, hbl, hwr⟩ := hrel
  have h0I : (0 : Int) <= (i : Int) := apD _
  have HBL := Lib.hid hbl
  have HWR := Lib.hid hwr
  have HO := Lib.hid (HB2.out.trans (hwr.bel.mono hbb))
  have hblt := hbl.lt
  clear hbl hwr
  rcases Nat.lt_or_ge i Ds.length with hlt | hge
  ·have hltI : (i : Int) < (Ds.length : Int) := by omega
   obtain ⟨D, hD⟩ : ∃ D, Ds[i]? = some D := ⟨_, apz hlt⟩
   obtain ⟨g, o, eA, hg, hc⟩ := iL (HR.out.below HO.out) hD
   subst eA
   obtain ⟨A1, c1, q1, A2, c2, q2⟩ := HSL.out D (apu hD)
   have HNX := Lib.hid (Ci hD)
   have hbx : Below wr.heap.size wr (wr.alloc (.cells #[.int .i64 D.p, .bool D.u, D.lv, D.bv] tFn)) := (Below.refl _ _).alloc (apw _) _
   have hX := HO.out.trans (hbx.mono HO.out.size)
   have hW2 := HWR.out.trans (Wrote.of_below hbx (apE hblt))
   have hFD := HF.out D (apu hD) _ b _ i (by omega) hbb hX (HBL.out.below hbx) (by have := HLIM.out i; omega)
   rw [q1, q2] at hc hX hW2 hFD
   have HCC := Lib.hid hc
   have HX := Lib.hid hX
   have HW2 := Lib.hid hW2
   have HFD := Lib.hid hFD
   clear hc hD hbx q1 q2 hX hW2 hFD
   go_wp2_with (first | (refine wpList_load_mid rfl tFn _ rfl g (o + i * 4) rfl [.int .i64 D.p, .bool D.u, .slice A1 D.ls.length c1, .slice A2 D.bs.length c2] _ HCC.out Tryz.underlying25 rfl fnR ?_) | (go_at_call 22; refine HFD.out.mono ?_; rintro e w3 ⟨rfl, hb3, wr3⟩))
   go_roundg (Ds.length - (i + 1))
   case measure => omega
   case rel => exact ⟨i + 1, by simp, by omega, rfl, by rw [HNX.out]; exact hb3, HW2.out.trans wr3⟩
  ·obtain rfl : i = Ds.length := by omega
   rw [apF] at HBL
   go_wp2_with (go_at_call 23; refine (Tryz.Builder_String_any_k b b _ wr HBL.out (apE hblt)).mono ?_; rintro e w3 ⟨rfl, _, b3, _⟩)
   go_ret2
   exact ⟨by simp, HO.out.trans (b3.mono hbb)⟩
theorem aaF {w : World} {v fv : Value} {Ds : List FnD} (h : cu w v fv Ds) : Jm 29 w v (gJ Ds) := fun w1 hb => by
 have h1 := h.below hb
 by_cases hm : 8 < Ds.length
 ·have : gJ Ds = 4 := by unfold gJ; rw [if_pos hm]
  rw [this]
  exact a5b h1 hm
 ·by_cases h0 : Ds.length = 0
  ·have : gJ Ds = 8 := by unfold gJ; rw [if_neg hm, if_pos h0]
   rw [this]
   exact a7f h1 h0
  ·exact amA h1 (by omega) (by omega)
structure alH (Ds : List FnD) : Prop where
 n0 : 0 < Ds.length
 n8 : Ds.length <= 8
 ok : ∀ D ∈ Ds, check.jK D = 0
theorem Qu : ∀ {Ds : List FnD}, vF Ds = 0 -> ∀ D ∈ Ds, check.jK D = 0
 | [], _, _, h => by cases h
 | D :: Ds, h, E, hE => by
  unfold vF at h
  by_cases hc : check.jK D = 0
  ·rw [if_pos hc] at h
   rcases List.mem_cons.1 hE with rfl | hE
   ·exact hc
   ·exact Qu h E hE
  ·rw [if_neg hc] at h
   exact absurd h hc
theorem um {Ds : List FnD} (h : gJ Ds = 0) : alH Ds := by
 unfold gJ at h
 by_cases hm : 8 < Ds.length
 ·rw [if_pos hm] at h; exact absurd h (by decide)
 ·rw [if_neg hm] at h
  by_cases h0 : Ds.length = 0
  ·rw [if_pos h0] at h; exact absurd h (by decide)
  ·rw [if_neg h0] at h
   by_cases hb : vF Ds = 0
   ·exact ⟨by omega, by omega, Qu hb⟩
   ·rw [if_neg hb] at h; exact absurd h hb
theorem V6 {w : World} {v fv : Value} {Ds : List FnD} (h : cu w v fv Ds) (kt : dL w) (hc : gJ Ds = 0) : Calls Tryz.prog 15 #[v] w (txt.rJ (fU 0 Ds) 0 w) := by
 have k := um hc
 exact ao2 h k.n8 (fun D hD => txt.sW (h.fn D hD) (k.ok D hD)) (fun D hD => txt.Ju (h.fn D hD) kt (k.ok D hD)) (by have := aaF h; rwa [hc] at this)
end prg
end Go.Proofs.YtglmonlofejcgaaGreatDoor
