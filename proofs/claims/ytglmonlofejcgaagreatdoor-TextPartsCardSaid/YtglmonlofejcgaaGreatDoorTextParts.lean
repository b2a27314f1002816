/- TextParts: the law answers true for every program. -/
import Derived.Test.YtglmonlofejcgaaGreatDoorPgK
import Derived.Test.YtglmonlofejcgaaGreatDoorTextAl
set_option maxHeartbeats 8000000
set_option maxRecDepth 100000
open Array renaming getElem?_eq_some_iff → apu
open List renaming mem_of_getElem? → apv
set_option linter.unusedVariables false
namespace Go.Proofs.YtglmonlofejcgaaGreatDoor
namespace prg
open Go.RowKit Am loan bld
open txt (rJ textF kM)
theorem sZ {w : World} {v fv : Value} {Ds : List FnD} (h : cu w v fv Ds) : Jm 17 w v (gJ Ds) := fun w1 hb => by
 have h1 := h.below hb
 by_cases hm : 8 < Ds.length
 ·have : gJ Ds = 4 := by unfold gJ; rw [if_pos hm]
  rw [this]
  exact Gu h1 hm
 ·by_cases h0 : Ds.length = 0
  ·have : gJ Ds = 8 := by unfold gJ; rw [if_neg hm, if_pos h0]
   rw [this]
   exact Hl h1 h0
  ·exact ZR h1 (by omega) (by omega)
def UQ (w : World) (e : Ending) (w' : World) : Prop := e = .returned (.bool true) /\ Below w.heap.size w w'
theorem JK {w : World} {v : Value} {D : FnD} (h : aV w v D) (kt : dL w) (hc : check.jK D = 0) {n : Int} (h0 : 0 <= n) (h8 : n < 8) : Calls Tryz.prog 9 #[v, .int .i64 n] w (rJ (textF D n) 0 w) :=
 txt.a0G h (txt.sW h hc) (txt.Ju h kt hc) h0 h8 (by have := txt.Zc h; rwa [hc] at this)
theorem Rz {w : World} {v fv : Value} {Ds : List FnD} (h : cu w v fv Ds) (kt : dL w) (hn : jJ Ds = true \/ gJ Ds ≠ 0) : Calls Tryz.prog 6 #[v] w (UQ w) := by
 have hG := fun (w1 : World) (hb : Below w.heap.size w w1) => qX (h.below hb)
 have hC := fun (w1 : World) (hb : Below w.heap.size w w1) => sZ h w1 hb
 have HA := Lib.hid (fun (w1 : World) (hb : Below w.heap.size w w1) => txt.JA (txt.gB kt hb))
 obtain ⟨A, c, e, _, hm, hr⟩ := h.rows
 rw [e] at hG hC |-
 have HG := Lib.hid hG
 have HC := Lib.hid hC
 have b0 : Below w.heap.size w (w.alloc (.cells #[.slice A Ds.length c] tPr)) := (Below.refl _ _).alloc (Nat.le_refl _) _
 have P0 : (w.alloc (.cells #[.slice A Ds.length c] tPr)).heap[w.heap.size]? = some (.cells #[.slice A Ds.length c] tPr (0, 0)) := aX rfl
 have HB0 := Lib.hid b0
 have HP0 := Lib.hid P0
 clear hG hC h hr e b0 P0
 generalize jJ Ds = g at *
 generalize gJ Ds = x at *
 cases g with
 | true =>
  clear hn
  go_enter Tryz.func6, Tryz.ntmps6
  go_wp2_with (first | (go_at_call 14; refine (HG.out _ HB0.out).mono ?_; rintro e w1 ⟨rfl, b1⟩) | (go_at_call 18; refine (HA.out _ (HB0.out.trans (b1.mono HB0.out.size))).mono ?_; rintro e w2 ⟨rfl, b2⟩))
  go_ret
  exact ⟨rfl, (HB0.out.trans (b1.mono HB0.out.size)).trans (b2.mono (HB0.out.trans (b1.mono HB0.out.size)).size)⟩
 | false =>
  have hx : x ≠ 0 := by simpa using hn
  have hx' : (x != 0) = true := by simpa using hx
  clear hn
  go_enter Tryz.func6, Tryz.ntmps6
  go_wp2_with (first | (go_at_call 14; refine (HG.out _ HB0.out).mono ?_; rintro e w1 ⟨rfl, b1⟩; have p1 : w1.cell? ⟨w.heap.size, 0, none⟩ = some (.slice A Ds.length c) := by rw [cell_of_row w1 _ 0 _ tPr (0, 0) ((b1.block _ (apu.1 HP0.out).1).trans HP0.out)]; rfl) | (go_at_call 17; refine (HC.out _ (HB0.out.trans (b1.mono HB0.out.size))).mono ?_; rintro e w3 ⟨rfl, b3⟩) | (go_at_call 18; refine (HA.out _ ((HB0.out.trans (b1.mono HB0.out.size)).trans (b3.mono (HB0.out.trans (b1.mono HB0.out.size)).size))).mono ?_; rintro e w2 ⟨rfl, b2⟩))
  go_ret
  have q1 := HB0.out.trans (b1.mono HB0.out.size)
  have q3 := q1.trans (b3.mono q1.size)
  exact ⟨rfl, q3.trans (b2.mono q3.size)⟩
theorem a0q {w : World} {v fv : Value} {Ds : List FnD} (h : cu w v fv Ds) (kt : dL w) (hg : jJ Ds = false) (hc0 : gJ Ds = 0) : Calls Tryz.prog 6 #[v] w (UQ w) := by
 have k := um hc0
 have hn8 := k.n8
 have hG := fun (w1 : World) (hb : Below w.heap.size w w1) => qX (h.below hb)
 have hC := fun (w1 : World) (hb : Below w.heap.size w w1) => sZ h w1 hb
 have hT := fun (w1 : World) (hb : Below w.heap.size w w1) => V6 (h.below hb) (txt.gB kt hb) hc0
 rw [hg] at hG
 rw [hc0] at hC
 have HA := Lib.hid (fun (w1 : World) (hb : Below w.heap.size w w1) => txt.JA (txt.gB kt hb))
 have HF := Lib.hid (fun (D : FnD) (hD : D ∈ Ds) (w1 : World) (n : Nat) (hn : n < 8) (hb1 : Below w.heap.size w w1) => JK ((h.fn D hD).frz hb1.block) (txt.gB kt hb1) (k.ok D hD) (n := (n : Int)) (by omega) (by omega))
 have HLIM := Lib.hid (fun i => KH (i := i) (Ds := Ds) fun D hD => txt.sW (h.fn D hD) (k.ok D hD))
 have HLM := Lib.hid (fun (D : FnD) (hD : D ∈ Ds) (n : Int) => kM (txt.sW (h.fn D hD) (k.ok D hD)) n)
 obtain ⟨A, c, e, _, hm, hr⟩ := h.rows
 rw [e] at hG hC hT |-
 have HG := Lib.hid hG
 have HC := Lib.hid hC
 have HT := Lib.hid hT
 have HR := Lib.hid hr
 have b0 : Below w.heap.size w (w.alloc (.cells #[.slice A Ds.length c] tPr)) := (Below.refl _ _).alloc (Nat.le_refl _) _
 have P0 : (w.alloc (.cells #[.slice A Ds.length c] tPr)).heap[w.heap.size]? = some (.cells #[.slice A Ds.length c] tPr (0, 0)) := aX rfl
 have HB0 := Lib.hid b0
 have HP0 := Lib.hid P0
 clear hG hC hT h hr e b0 P0 k hg hc0
 go_enter Tryz.func6, Tryz.ntmps6
 go_upto_region 3 with (first | (go_at_call 14; refine (HG.out _ HB0.out).mono ?_; rintro e w1 ⟨rfl, b1⟩; have p1 : w1.cell? ⟨w.heap.size, 0, none⟩ = some (.slice A Ds.length c) := by rw [cell_of_row w1 _ 0 _ tPr (0, 0) ((b1.block _ (apu.1 HP0.out).1).trans HP0.out)]; rfl) | (go_at_call 17; refine (HC.out _ (HB0.out.trans (b1.mono HB0.out.size))).mono ?_; rintro e w3 ⟨rfl, b3⟩))
 have b01 := HB0.out.trans (b1.mono HB0.out.size)
 have b03 := b01.trans (b3.mono b01.size)
 have P3 := ((b1.trans (b3.mono b1.size)).block _ (apu.1 HP0.out).1).trans HP0.out
 have p3 : w3.cell? ⟨w.heap.size, 0, none⟩ = some (.slice A Ds.length c) := by rw [cell_of_row w3 _ 0 _ tPr (0, 0) P3]; rfl
 clear b1 b3 p1 HP0 b01 HB0
 go_upto_region 4 with (go_at_call 15; refine (HT.out _ b03).mono ?_; rintro e w4 ⟨rfl, b4⟩)
 have HB := Lib.hid (b03.trans (b4.mono b03.size))
 have hP4 := (b4.block _ (apu.1 P3).1).trans P3
 have hlt1 : w.heap.size < w4.heap.size := (apu.1 hP4).1
 have HP := Lib.hid hP4
 clear b03 P3 p3 b4 hP4
 go_wp2_with fail
 go_loopg [5, 6] Ds.length (fun g s5 s6 w8 => ∃ i : Nat, s6 = .int .i64 i /\ i <= Ds.length /\ g = Ds.length - i /\ s5 = .string ⟨(fU 0 (Ds.take i)).toArray⟩ /\ Below w4.heap.size w4 w8)
 case atStart => exact ⟨0, rfl, Nat.zero_le _, rfl, rfl, Below.refl _ _⟩
 case round =>
  obtain ⟨i, rfl, hi, rfl, rfl, hbel⟩ := hrel
  have h0I : (0 : Int) <= (i : Int) := Int.natCast_nonneg _
  have hP2 := (hbel.block _ hlt1).trans HP.out
  have p0 : wr.cell? ⟨w.heap.size, 0, none⟩ = some (.slice A Ds.length c) := by rw [cell_of_row wr _ 0 _ tPr (0, 0) hP2]; rfl
  have HBL := Lib.hid hbel
  have HO := Lib.hid (HB.out.trans (hbel.mono HB.out.size))
  clear hbel hP2
  rcases Nat.lt_or_ge i Ds.length with hlt | hge
  ·have hltI : (i : Int) < (Ds.length : Int) := by omega
   obtain ⟨D, hD⟩ : ∃ D, Ds[i]? = some D := ⟨_, List.getElem?_eq_getElem hlt⟩
   obtain ⟨g, o, eA, hgl, hc⟩ := iL (HR.out.below HO.out) hD
   subst eA
   have HCC := Lib.hid hc
   have HNX := Lib.hid (Ci hD)
   have HFD := Lib.hid (HF.out D (apv hD) _ i (by omega) HO.out)
   have l1 := HLIM.out i
   have l2 := HLM.out D (apv hD) (i : Nat)
   have hc2 : ¬ 9223372036854775807 < (fU 0 (Ds.take i)).length + (textF D (i : Nat)).length := by omega
   clear hc hD
   go_wp2_with (first | (refine wpList_load_mid rfl tFn _ rfl g (o + i * 4) rfl [.int .i64 D.p, .bool D.u, D.lv, D.bv] _ HCC.out Tryz.underlying25 rfl fnR ?_) | (go_at_call 9; refine HFD.out.mono ?_; rintro e w5 ⟨rfl, b5⟩))
   go_roundg (Ds.length - (i + 1))
   case measure => omega
   case rel =>
    refine ⟨i + 1, by simp, by omega, rfl, ?_, HBL.out.trans (b5.mono HBL.out.size)⟩
    rw [HNX.out]
    (congr 1) <;> (apply ByteArray.ext; simp)
  ·obtain rfl : i = Ds.length := by omega
   rw [List.take_length]
   go_wp2_with (go_at_call 18; refine (HA.out _ HO.out).mono ?_; rintro e w6 ⟨rfl, b6⟩)
   go_ret
   exact ⟨rfl, HO.out.trans (b6.mono HO.out.size)⟩
theorem a1e {w : World} {v fv : Value} {Ds : List FnD} (h : cu w v fv Ds) (kt : dL w) : Calls Tryz.prog 6 #[v] w (UQ w) := by
 by_cases hg : jJ Ds = true
 ·exact Rz h kt (.inl hg)
 ·by_cases hc : gJ Ds = 0
  ·exact a0q h kt (by simpa using hg) hc
  ·exact Rz h kt (.inr hc)
end prg
end Go.Proofs.YtglmonlofejcgaaGreatDoor
