/- pawnshopref12.Program: the texts of a program's functions, one behind the other. -/
import Derived.Test.YtglmonlofejcgaaGreatDoorPgK
import Derived.Test.YtglmonlofejcgaaGreatDoorTextM
set_option maxHeartbeats 8000000
set_option maxRecDepth 100000
open Array renaming getElem?_eq_some_iff → apu
open List renaming mem_of_getElem? → apv
set_option linter.unusedVariables false
namespace Go.Proofs.YtglmonlofejcgaaGreatDoor
namespace prg
open Go.RowKit Am loan bld
open txt (textF rJ Lim YC RF kM)
theorem abw {w : World} {v fv : Value} {Ds : List FnD} (h : cu w v fv Ds) {x : Int} (hx : x ≠ 0) (hC : Jm 17 w v x) : Calls Tryz.prog 16 #[v] w (rJ [] x w) := by
 obtain ⟨A, c, e, _, hm, hr⟩ := h.rows
 unfold Jm at hC
 rw [e] at hC |-
 have b0 : Below w.heap.size w (w.alloc (.cells #[.slice A Ds.length c] tPr)) := (Below.refl _ _).alloc (Nat.le_refl _) _
 have P0 : (w.alloc (.cells #[.slice A Ds.length c] tPr)).heap[w.heap.size]? = some (.cells #[.slice A Ds.length c] tPr (0, 0)) := aX rfl
 have hx' : (x != 0) = true := by simpa using hx
 have HC := Lib.hid hC
 clear hC h hr e
 go_enter Tryz.func16, Tryz.ntmps16
 go_upto_region 2 with (go_at_call 17; refine (HC.out _ b0).mono ?_; rintro e w1 ⟨rfl, b1⟩)
 have b01 := b0.trans (b1.mono b0.size)
 have P1 := (b1.block _ (apu.1 P0).1).trans P0
 have p1 : w1.cell? ⟨w.heap.size, 0, none⟩ = some (.slice A Ds.length c) := by rw [cell_of_row w1 _ 0 _ tPr (0, 0) P1]; rfl
 have HB := Lib.hid b01
 clear b0 b1 b01 P0 P1
 go_wp2_with (go_at_call 17; refine (HC.out _ HB.out).mono ?_; rintro e w2 ⟨rfl, b2⟩)
 go_ret2
 exact ⟨rfl, HB.out.trans (b2.mono HB.out.size)⟩
theorem alr {w : World} {v fv : Value} {Ds : List FnD} (h : cu w v fv Ds) (h8 : Ds.length <= 8) (hL : ∀ D ∈ Ds, Lim D) (hK : ∀ D ∈ Ds, YC w D) (hC : Jm 17 w v 0) : Calls Tryz.prog 16 #[v] w (rJ (fU 0 Ds) 0 w) := by
 obtain ⟨A, c, e, _, hm, hr⟩ := h.rows
 unfold Jm at hC
 have HF := Lib.hid (fun (D : FnD) (hD : D ∈ Ds) (w1 : World) (n : Nat) (hn : n < 100) (hb1 : Below w.heap.size w w1) => RF ((h.fn D hD).frz hb1.block) (hL D hD) (n := (n : Int)) ((hK D hD).more hb1) (by omega))
 have HLIM := Lib.hid (fun i => KH (i := i) hL)
 have HLM := Lib.hid (fun (D : FnD) (hD : D ∈ Ds) (n : Int) => kM (hL D hD) n)
 rw [e] at hC |-
 have b0 : Below w.heap.size w (w.alloc (.cells #[.slice A Ds.length c] tPr)) := (Below.refl _ _).alloc (Nat.le_refl _) _
 have P0 : (w.alloc (.cells #[.slice A Ds.length c] tPr)).heap[w.heap.size]? = some (.cells #[.slice A Ds.length c] tPr (0, 0)) := aX rfl
 have HC := Lib.hid hC
 have HR := Lib.hid hr
 clear hC h hr e hL hK
 go_enter Tryz.func16, Tryz.ntmps16
 go_upto_region 3 with (go_at_call 17; refine (HC.out _ b0).mono ?_; rintro e w1 ⟨rfl, b1⟩)
 have b01 := b0.trans (b1.mono b0.size)
 have P1 := (b1.block _ (apu.1 P0).1).trans P0
 have hlt1 : w.heap.size < w1.heap.size := (apu.1 P1).1
 have HB := Lib.hid b01
 have HP := Lib.hid P1
 clear b0 b1 b01 P0 P1 HC
 go_wp2_with fail
 go_loopg [4, 5] Ds.length (fun g s4 s5 w8 => ∃ i : Nat, s5 = .int .i64 i /\ i <= Ds.length /\ g = Ds.length - i /\ s4 = .string ⟨(fU 0 (Ds.take i)).toArray⟩ /\ Below w1.heap.size w1 w8)
 case atStart => exact ⟨0, rfl, Nat.zero_le _, rfl, rfl, Below.refl _ _⟩
 case round =>
  obtain ⟨i, rfl, hi, rfl, rfl, hbel⟩ := hrel
  have h0I : (0 : Int) <= (i : Int) := Int.natCast_nonneg _
  have hP2 := (hbel.block _ hlt1).trans HP.out
  have p0 : wr.cell? ⟨w.heap.size, 0, none⟩ = some (.slice A Ds.length c) := by rw [cell_of_row wr _ 0 _ tPr (0, 0) hP2]; rfl
  have HBL := Lib.hid hbel
  have HO := Lib.hid (HB.out.trans (hbel.mono HB.out.size))
  clear hbel hP2
  rcases Nat.lt_or_ge i Ds.length with hlt | hge
  ·have hltI : (i : Int) < (Ds.length : Int) := by omega
   obtain ⟨D, hD⟩ : ∃ D, Ds[i]? = some D := ⟨_, List.getElem?_eq_getElem hlt⟩
   obtain ⟨g, o, eA, hg, hc⟩ := iL (HR.out.below HO.out) hD
   subst eA
   have HCC := Lib.hid hc
   have HNX := Lib.hid (Ci hD)
   have HFD := Lib.hid (HF.out D (apv hD) _ i (by omega) HO.out)
   have l1 := HLIM.out i
   have l2 := HLM.out D (apv hD) (i : Nat)
   have hc2 : ¬ 9223372036854775807 < (fU 0 (Ds.take i)).length + (textF D (i : Nat)).length := by omega
   clear hc hD
   go_wp2_with (first | (refine wpList_load_mid rfl tFn _ rfl g (o + i * 4) rfl [.int .i64 D.p, .bool D.u, D.lv, D.bv] _ HCC.out Tryz.underlying25 rfl fnR ?_) | (go_at_call 25; refine HFD.out.mono ?_; rintro e w3 ⟨rfl, b3⟩))
   go_roundg (Ds.length - (i + 1))
   case measure => omega
   case rel =>
    refine ⟨i + 1, by simp, by omega, rfl, ?_, HBL.out.trans (b3.mono HBL.out.size)⟩
    rw [HNX.out]
    (congr 1) <;> (apply ByteArray.ext; simp)
  ·obtain rfl : i = Ds.length := by omega
   rw [List.take_length]
   go_wp2_with fail
   go_ret2
   exact ⟨rfl, HO.out⟩
end prg
end Go.Proofs.YtglmonlofejcgaaGreatDoor
