/- TextPrograms: the law answers true for every program. -/
import Derived.Test.YtglmonlofejcgaaGreatDoorPgS
import Derived.Test.YtglmonlofejcgaaGreatDoorTextD
set_option maxHeartbeats 4000000
set_option maxRecDepth 100000
open Array renaming getElem?_eq_some_iff → apu
set_option linter.unusedVariables false
namespace Go.Proofs.YtglmonlofejcgaaGreatDoor
namespace prg
open Go.RowKit Am loan bld
open txt (rJ)
theorem sZ {w : World} {v fv : Value} {Ds : List FnD} (h : cu w v fv Ds) : Jm 17 w v (gJ Ds) := fun w1 hb => by
 have h1 := h.below hb
 by_cases hm : 8 < Ds.length
 ·have : gJ Ds = 4 := by unfold gJ; rw [if_pos hm]
  rw [this]
  exact Gu h1 hm
 ·by_cases h0 : Ds.length = 0
  ·have : gJ Ds = 8 := by unfold gJ; rw [if_neg hm, if_pos h0]
   rw [this]
   exact Hl h1 h0
  ·exact ZR h1 (by omega) (by omega)
theorem ajS {w : World} {v fv : Value} {Ds : List FnD} (h : cu w v fv Ds) (kt : dL w) (hc : gJ Ds = 0) : Calls Tryz.prog 16 #[v] w (rJ (fU 0 Ds) 0 w) := by
 have k := um hc
 exact alr h k.n8 (fun D hD => txt.sW (h.fn D hD) (k.ok D hD)) (fun D hD => txt.ail (h.fn D hD) kt (k.ok D hD)) (by have := sZ h; rwa [hc] at this)
def UQ (w : World) (e : Ending) (w' : World) : Prop := e = .returned (.bool true) /\ Below w.heap.size w w'
theorem aju {w : World} {v fv : Value} {Ds : List FnD} (h : cu w v fv Ds) (kt : dL w) : ∃ l e, (∀ {w1 : World}, Below w.heap.size w w1 -> Calls Tryz.prog 15 #[v] w1 (rJ l e w1)) /\ ∀ {w1 : World}, Below w.heap.size w w1 -> Calls Tryz.prog 16 #[v] w1 (rJ l e w1) := by
 by_cases hc : gJ Ds = 0
 ·exact ⟨fU 0 Ds, 0, fun hb => V6 (h.below hb) (txt.gB kt hb) hc, fun hb => ajS (h.below hb) (txt.gB kt hb) hc⟩
 ·exact ⟨[], gJ Ds, fun hb => ahN (h.below hb) hc (aaF (h.below hb)), fun hb => abw (h.below hb) hc (sZ (h.below hb))⟩
theorem aio {w : World} {v fv : Value} {Ds : List FnD} (h : cu w v fv Ds) (kt : dL w) : Calls Tryz.prog 4 #[v] w (UQ w) := by
 obtain ⟨l, x, ha, hb⟩ := aju h kt
 have hG := fun (w1 : World) (hb : Below w.heap.size w w1) => qX (h.below hb)
 have hA := fun (w1 : World) (hb : Below w.heap.size w w1) => ha hb
 have hB := fun (w1 : World) (hb1 : Below w.heap.size w w1) => hb hb1
 obtain ⟨A, c, e, _, hm, hr⟩ := h.rows
 clear ha hb
 rw [e] at hG hA hB |-
 have HG := Lib.hid hG
 have HA := Lib.hid hA
 have HB := Lib.hid hB
 have b0 : Below w.heap.size w (w.alloc (.cells #[.slice A Ds.length c] tPr)) := (Below.refl _ _).alloc (Nat.le_refl _) _
 have P0 : (w.alloc (.cells #[.slice A Ds.length c] tPr)).heap[w.heap.size]? = some (.cells #[.slice A Ds.length c] tPr (0, 0)) := aX rfl
 clear hG hA hB h hr e
 generalize jJ Ds = g at *
 cases g with
 | true =>
  go_enter Tryz.func4, Tryz.ntmps4
  go_wp2_with (go_at_call 14; refine (HG.out _ b0).mono ?_; rintro e w1 ⟨rfl, b1⟩)
  go_ret
  exact ⟨rfl, b0.trans (b1.mono b0.size)⟩
 | false =>
  go_enter Tryz.func4, Tryz.ntmps4
  go_upto_region 3 with (go_at_call 14; refine (HG.out _ b0).mono ?_; rintro e w1 ⟨rfl, b1⟩)
  have b01 := b0.trans (b1.mono b0.size)
  have P1 := (b1.block _ (apu.1 P0).1).trans P0
  have p1 : w1.cell? ⟨w.heap.size, 0, none⟩ = some (.slice A Ds.length c) := by rw [cell_of_row w1 _ 0 _ tPr (0, 0) P1]; rfl
  clear b0 b1 P0
  go_upto_region 4 with (go_at_call 15; refine (HA.out _ b01).mono ?_; rintro e w2 ⟨rfl, b2⟩)
  have b02 := b01.trans (b2.mono b01.size)
  have P2 := (b2.block _ (apu.1 P1).1).trans P1
  have p2 : w2.cell? ⟨w.heap.size, 0, none⟩ = some (.slice A Ds.length c) := by rw [cell_of_row w2 _ 0 _ tPr (0, 0) P2]; rfl
  clear b01 b2 P1 p1
  go_wp2_with (go_at_call 16; refine (HB.out _ b02).mono ?_; rintro e w3 ⟨rfl, b3⟩)
  go_ret
  exact ⟨rfl, b02.trans (b3.mono b02.size)⟩
end prg
end Go.Proofs.YtglmonlofejcgaaGreatDoor
