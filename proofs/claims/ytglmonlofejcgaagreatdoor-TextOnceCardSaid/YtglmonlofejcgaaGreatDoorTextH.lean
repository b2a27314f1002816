/- pawnshopref08.Same: whether two programs say the same. -/
import Derived.Test.YtglmonlofejcgaaGreatDoorTextG
set_option maxHeartbeats 8000000
set_option maxRecDepth 100000
open List renaming setIfInBounds_toArray → apu, set_cons_zero → apv, set_cons_succ → apw, getElem?_eq_getElem → apz, mem_of_getElem? → apA, take_add_one → apC, take_length → apD, map_append → apE
open Array renaming getElem?_eq_some_iff → apx
open Bool renaming noConfusion → apy
open Nat renaming lt_of_lt_of_le → apB
set_option linter.unusedVariables false
namespace Go.Proofs.YtglmonlofejcgaaGreatDoor
namespace prg
open Go.RowKit Am loan bld
open txt (Lim Vu Vt)
def aeL (a b : List FnD) (w : World) (e : Ending) (w' : World) : Prop := ∃ q : Bool, e = .returned (.bool q) /\ (q = true ↔ a.map FnD.core = b.map FnD.core) /\ Below w.heap.size w w'
theorem Xy {a b : List FnD} {i : Nat} {x y : FnD} (h : a[i]? = some x) (k : b[i]? = some y) (hn : x.core ≠ y.core) : false = true ↔ a.map FnD.core = b.map FnD.core := by
 refine ⟨(fun e => apy e), fun e => ?_⟩
 have q := congrArg (fun l => l[i]?) e
 simp only [List.getElem?_map, h, k, Option.map_some, Option.some.injEq] at q
 exact absurd q hn
theorem ajK {a b : List FnD} {i : Nat} {x y : FnD} (h : a[i]? = some x) (k : b[i]? = some y) (h0 : (a.take i).map FnD.core = (b.take i).map FnD.core) (e : x.core = y.core) : (a.take (i + 1)).map FnD.core = (b.take (i + 1)).map FnD.core := by
 rw [apC, apC, h, k, apE, apE, h0]
 simp [e]
theorem a6t {w : World} {v v' fv fv' : Value} {Ds Es : List FnD} (h : cu w v fv Ds) (h' : cu w v' fv' Es) (hn : Es.length ≠ Ds.length) : Calls Tryz.prog 19 #[v', v] w (aeL Es Ds w) := by
 have HN := Lib.hid (show false = true ↔ Es.map FnD.core = Ds.map FnD.core from ⟨(fun e => apy e), fun e => absurd (by simpa using congrArg List.length e) hn⟩)
 obtain ⟨A, c, e, _, hm, hr⟩ := h.rows
 obtain ⟨B, d, e', _, hm', hr'⟩ := h'.rows
 rw [e, e']
 have hne : ((Es.length : Int) != (Ds.length : Int)) = true := by rw [bne_iff_ne]; omega
 have HB := Lib.hid (show Below w.heap.size w ((w.alloc (.cells #[.slice B Es.length d] tPr)).alloc (.cells #[.slice A Ds.length c] tPr)) from ((Below.refl _ _).alloc (Nat.le_refl _) _).alloc (by simp) _)
 clear h h' hr hr' e e' hn
 go_enter Tryz.func19, Tryz.ntmps19
 go_wp2_with fail
 go_ret
 exact ⟨false, rfl, HN.out, HB.out⟩
theorem aiF {w : World} {v v' fv fv' : Value} {Ds Es : List FnD} (h : cu w v fv Ds) (h' : cu w v' fv' Es) (hn : Es.length = Ds.length) (h12 : Ds.length <= 100) (hl : ∀ D ∈ Ds, Lim D) (hl' : ∀ D ∈ Es, Lim D) : Calls Tryz.prog 19 #[v', v] w (aeL Es Ds w) := by
 obtain ⟨A, c, e, _, hm, hr⟩ := h.rows
 obtain ⟨B, d, e', _, hm', hr'⟩ := h'.rows
 have HS := Lib.hid (fun (D E : FnD) (hD : D ∈ Ds) (hE : E ∈ Es) (W : World) (hW : Below w.heap.size w W) => Vt ((h.fn D hD).frz hW.block) ((h'.fn E hE).frz hW.block) (hl D hD) (hl' E hE))
 rw [e, e', hn]
 obtain ⟨w1, hw1⟩ : ∃ w1, w1 = (w.alloc (.cells #[.slice B Ds.length d] tPr)).alloc (.cells #[.slice A Ds.length c] tPr) := ⟨_, rfl⟩
 have b1 : Below w.heap.size w w1 := by rw [hw1]; exact ((Below.refl _ _).alloc (Nat.le_refl _) _).alloc (by simp) _
 have P1 : w1.heap[w.heap.size]? = some (.cells #[.slice B Ds.length d] tPr (0, 0)) := by rw [hw1]; exact jX (aX rfl)
 have Q1 : w1.heap[w.heap.size + 1]? = some (.cells #[.slice A Ds.length c] tPr (0, 0)) := by rw [hw1]; exact aX (by simp)
 have y0 : w1.cell? ⟨w.heap.size, 0, none⟩ = some (.slice B Ds.length d) := by rw [cell_of_row w1 _ 0 _ tPr (0, 0) P1]; rfl
 have z0 : w1.cell? ⟨w.heap.size + 1, 0, none⟩ = some (.slice A Ds.length c) := by rw [cell_of_row w1 _ 0 _ tPr (0, 0) Q1]; rfl
 have lp := (apx.1 P1).1
 have lq := (apx.1 Q1).1
 have HB := Lib.hid b1
 have HP := Lib.hid P1
 have HQ := Lib.hid Q1
 have HR := Lib.hid hr
 have HR' := Lib.hid hr'
 have HN := Lib.hid hn
 clear h h' hr hr' e e' hn hl hl' b1 P1 Q1
 go_enter Tryz.func19, Tryz.ntmps19
 go_upto_region 1 with fail
 rw [<- hw1]
 clear hw1
 go_wp2_with fail
 clear y0 z0
 go_loopg [5] Ds.length (fun g s5 w8 => ∃ i : Nat, s5 = .int .i64 i /\ i <= Ds.length /\ g = Ds.length - i /\ (Es.take i).map FnD.core = (Ds.take i).map FnD.core /\ Below w1.heap.size w1 w8)
 case atStart => exact ⟨0, rfl, Nat.zero_le _, rfl, rfl, Below.refl _ _⟩
 case round =>
  obtain ⟨i, rfl, hi, rfl, htk, hbel⟩ := hrel
  have h0I : (0 : Int) <= (i : Int) := Int.natCast_nonneg _
  have y0 : wr.cell? ⟨w.heap.size, 0, none⟩ = some (.slice B Ds.length d) := by rw [cell_of_row wr _ 0 _ tPr (0, 0) ((hbel.block _ lp).trans HP.out)]; rfl
  have z0 : wr.cell? ⟨w.heap.size + 1, 0, none⟩ = some (.slice A Ds.length c) := by rw [cell_of_row wr _ 0 _ tPr (0, 0) ((hbel.block _ lq).trans HQ.out)]; rfl
  have hlp : w.heap.size < wr.heap.size := apB lp hbel.size
  have hlq : w.heap.size + 1 < wr.heap.size := apB lq hbel.size
  have HTK := Lib.hid htk
  have HBL := Lib.hid hbel
  have HO := Lib.hid (HB.out.trans (hbel.mono HB.out.size))
  clear hbel htk
  rcases Nat.lt_or_ge i Ds.length with hlt | hge
  ·have hltI : (i : Int) < (Ds.length : Int) := by omega
   obtain ⟨D, hD⟩ : ∃ D, Ds[i]? = some D := ⟨_, apz hlt⟩
   obtain ⟨E, hE⟩ : ∃ E, Es[i]? = some E := ⟨_, apz (by rw [HN.out]; exact hlt)⟩
   obtain ⟨g, o, eA, hg, hc⟩ := iL (HR.out.below HO.out) hD
   obtain ⟨gb, ob, eB, hgb, hcb⟩ := iL (HR'.out.below HO.out) hE
   subst eA eB
   have f0 := hc 0 _ rfl
   have f1 := hc 1 _ rfl
   have f2 := hc 2 _ rfl
   have f3 := hc 3 _ rfl
   have g0 := hcb 0 _ rfl
   have g1 := hcb 1 _ rfl
   have g2 := hcb 2 _ rfl
   have g3 := hcb 3 _ rfl
   simp only [Nat.add_zero] at f0 g0
   have HDI := Lib.hid hD
   have HEI := Lib.hid hE
   have HSD := Lib.hid (HS.out D E (apA hD) (apA hE) _ HO.out.drew)
   clear hc hcb hD hE
   go_upto_region 6 with fail
   refine bZ [⟨w.heap.size, 0, none⟩, ⟨w.heap.size + 1, 0, none⟩, ⟨g, o + i * 4, none⟩, ⟨g, o + i * 4 + 1, none⟩, ⟨g, o + i * 4 + 2, none⟩, ⟨g, o + i * 4 + 3, none⟩, ⟨gb, ob + i * 4, none⟩, ⟨gb, ob + i * 4 + 1, none⟩, ⟨gb, ob + i * 4 + 2, none⟩, ⟨gb, ob + i * 4 + 3, none⟩] [(0, true), (1, true), (2, true), (3, true), (4, true), (5, true), (6, true), (7, true), (8, true), (9, true), (10, false), (11, true)] (by kernel_rfl) (by kernel_rfl) (by decide) (by kernel_rfl) (fun _ _ _ _ _ h => h) ?_
   have y0 : wr.drew.cell? ⟨w.heap.size, 0, none⟩ = _ := y0
   have z0 : wr.drew.cell? ⟨w.heap.size + 1, 0, none⟩ = _ := z0
   have f0 : wr.drew.cell? ⟨g, o + i * 4, none⟩ = _ := f0
   have f1 : wr.drew.cell? ⟨g, o + i * 4 + 1, none⟩ = _ := f1
   have f2 : wr.drew.cell? ⟨g, o + i * 4 + 2, none⟩ = _ := f2
   have f3 : wr.drew.cell? ⟨g, o + i * 4 + 3, none⟩ = _ := f3
   have g0 : wr.drew.cell? ⟨gb, ob + i * 4, none⟩ = _ := g0
   have g1 : wr.drew.cell? ⟨gb, ob + i * 4 + 1, none⟩ = _ := g1
   have g2 : wr.drew.cell? ⟨gb, ob + i * 4 + 2, none⟩ = _ := g2
   have g3 : wr.drew.cell? ⟨gb, ob + i * 4 + 3, none⟩ = _ := g3
   iterate 10 (refine SeqC.take (v := ?_) rfl (by rfl) (fun W hW => ?_) ?_; rotate_left; (focus (have zy := hW.get (by simp) y0; have zz := hW.get (by simp) z0; have x0 := hW.get (by simp) f0; have x1 := hW.get (by simp) f1; have x2 := hW.get (by simp) f2; have x3 := hW.get (by simp) f3; have w0 := hW.get (by simp) g0; have w1 := hW.get (by simp) g1; have w2 := hW.get (by simp) g2; have w3 := hW.get (by simp) g3; go_simp; with_reducible rfl)); simp only [Act.put, apu, apv, apw])
   refine SeqC.call (f := ?_) (args := ?_) rfl (by rfl) ?_ ?_
   rotate_left 2
   ·(go_simp; first | with_reducible rfl | (refine ⟨?_, ?_⟩ <;> with_reducible rfl))
   refine HSD.out.mono ?_
   rintro e w2 ⟨q, rfl, hq, b2⟩
   refine ⟨_, rfl, Cells.lX b2 (by intro p hp; simp only [List.mem_cons, List.not_mem_nil, or_false] at hp; rcases hp with rfl | rfl | rfl | rfl | rfl | rfl | rfl | rfl | rfl | rfl <;> first | exact hlp | exact hlq | exact hg | exact hgb), ?_⟩
   simp only [Act.put, apu, apv, apw]
   refine SeqC.take (v := ?_) rfl (by rfl) (fun W hW => ?_) ?_; rotate_left; (focus (go_simp; with_reducible rfl)); simp only [Act.put, apu, apv, apw]
   refine SeqC.done ?_
   have hbb : Below wr.heap.size wr w2 := (Below.refl _ _).drew.trans b2
   have HBB := Lib.hid hbb
   clear y0 z0 f0 f1 f2 f3 g0 g1 g2 g3 b2 hbb
   cases q with
   | true =>
    have HC := Lib.hid (hq.1 rfl)
    clear hq
    go_wp2_with fail
    go_roundg (Ds.length - (i + 1))
    case measure => omega
    case rel => exact ⟨i + 1, by simp, by omega, rfl, ajK HEI.out HDI.out HTK.out HC.out, HBL.out.trans (HBB.out.mono HBL.out.size)⟩
   | false =>
    have HC := Lib.hid (Xy HEI.out HDI.out (fun e => apy (hq.2 e)))
    clear hq
    go_wp2_with fail
    go_ret
    exact ⟨false, rfl, HC.out, HO.out.trans (HBB.out.mono HO.out.size)⟩
  ·obtain rfl : i = Ds.length := by omega
   have hall := HTK.out
   rw [apD, <- HN.out, apD] at hall
   have HA := Lib.hid hall
   clear hall
   go_wp2_with fail
   go_ret
   exact ⟨true, rfl, ⟨fun _ => HA.out, fun _ => rfl⟩, HO.out⟩
theorem aj2 {w : World} {v v' fv fv' : Value} {Ds Es : List FnD} (h : cu w v fv Ds) (h' : cu w v' fv' Es) (h12 : Ds.length <= 100) (hl : ∀ D ∈ Ds, Lim D) (hl' : ∀ D ∈ Es, Lim D) : Calls Tryz.prog 19 #[v', v] w (aeL Es Ds w) := by
 by_cases hn : Es.length = Ds.length
 ·exact aiF h h' hn h12 hl hl'
 ·exact a6t h h' hn
end prg
end Go.Proofs.YtglmonlofejcgaaGreatDoor
