/- LoansFinds: the law answers true for every function and number. -/
import Derived.Test.YthdcahkedlijpaaGreatLoanQ
namespace Go.Proofs.YthdcahkedlijpaaGreat.loan
open Go.RowKit Go.Proofs.YthdcahkedlijpaaGreat Go.Proofs.YthdcahkedlijpaaGreat.Am
set_option linter.unusedVariables false
def YesQ (w : World) (e : Ending) (w' : World) : Prop := e = .returned (.bool true) ∧ Below w.heap.size w w'
def RowA (els : List (List Value)) (x : Int) (W : World) (e : Ending) (W' : World) : Prop := ∃ A c, e = .returned (.tuple #[.slice A els.length c, .int .i64 x]) ∧ RowsAt W' A 6 els ∧ Below W.heap.size W W'
def BitA (l : List Bool) (y : Int) (W : World) (e : Ending) (W' : World) : Prop := ∃ A c, e = .returned (.tuple #[.slice A l.length c, .int .i64 y]) ∧ BitsAt W' A l ∧ Below W.heap.size W W'
theorem row_nil {W W' : World} {x : Int} {e : Ending} (h : ErrA W x e W') : RowA [] x W e W' := ⟨none, 0, h.1, fun i el h => by simp at h, h.2⟩
theorem bit_nil {W W' : World} {x : Int} {e : Ending} (h : ErrA W x e W') : BitA [] x W e W' := ⟨none, 0, h.1, fun i el h => by simp at h, h.2⟩
theorem row_new {W W' : World} {e : Ending} {els : List (List Value)} (h : NewE tLn 6 els W e W') (hl : ∀ x ∈ els, x.length = 6) : RowA els 0 W e W' := by
 obtain ⟨s, rfl, hn⟩ := h
 obtain ⟨A, c, rfl, hr⟩ := hn.read (by decide) hl
 exact ⟨A, c, rfl, hr, hn.2⟩
def kilS (D : FnD) (u : Bool) (a : Int) : List Bool := (List.range (sizeN D)).map (kilB D.bs u a)
theorem kilS_len (D : FnD) (u : Bool) (a : Int) : (kilS D u a).length = sizeN D := by simp [kilS]
theorem bit_e {W W' : World} {e : Ending} {D : FnD} {u : Bool} {a : Int} (h : KilE D u a W e W') : BitA (kilS D u a) 0 W e W' := by
 obtain ⟨g, rfl, hg, hc, hb⟩ := h
 refine ⟨some ⟨g, 0, none⟩, sizeN D, by rw [kilS_len], fun i x hx => ⟨g, 0, rfl, hg, ?_⟩, hb⟩
 have hi : i < sizeN D := by rw [← kilS_len D u a]; exact (List.getElem?_eq_some_iff.1 hx).1
 unfold kilS at hx
 rw [List.getElem?_map, List.getElem?_range hi] at hx
 cases hx
 rw [Nat.zero_add]
 exact hc i hi
theorem bit_r {W W' : World} {e : Ending} {D : FnD} {u : Bool} {a : Int} (h : KilR D u a W e W') : BitA (kilS D u a) 0 W e W' := by
 obtain ⟨s, rfl, ho, hb⟩ := h
 have hk : kilL D.bs u a (sizeN D) = ((kilS D u a).map fun b => [Value.bool b]).flatten := by rw [flat_one]; unfold kilL kilS; rw [List.map_map]; rfl
 rw [hk] at ho
 obtain ⟨A, c, rfl, hr⟩ := RowsAt.own ho (by rw [List.length_map, kilS_len]) (by decide) (fun x hx => by obtain ⟨n, _, rfl⟩ := List.mem_map.1 hx; rfl)
 refine ⟨A, c, by rw [List.length_map], fun i x hx => ?_, hb⟩
 obtain ⟨g, o, eA, hg, hc⟩ := hr i [.bool x] (by rw [List.getElem?_map, hx]; rfl)
 have := hc 0 _ rfl
 simp only [Nat.mul_one, Nat.add_zero] at this
 exact ⟨g, o, eA, hg, this⟩
theorem BitsAt.below {W W' : World} {A : Option Addr} {l : List Bool} (h : BitsAt W A l) (hb : Below W.heap.size W W') : BitsAt W' A l := fun i x hx => by
 obtain ⟨g, o, e, hg, hc⟩ := h i x hx
 exact ⟨g, o, e, Nat.lt_of_lt_of_le hg hb.size, (hb.cell (p := ⟨g, o + i, none⟩) hg).trans hc⟩
set_option maxRecDepth 100000 in
set_option maxHeartbeats 4000000 in
theorem fin_great {w : World} {v : Value} {D : FnD} (h : FnOk' w v D) {z : Int} (hf : great15 D = true ∨ (great15 D = false ∧ great.greatF D = true)) : Calls Tryz.prog 3 #[v, .int .i64 z] w (YesQ w) := by
 have hG : ∀ w1, Below w.heap.size w w1 → Calls Tryz.prog 9 #[v] w1 (Ans1 w1 (.bool (great15 D))) := fun w1 hb => great15_c (h.frz hb.block)
 have hH : ∀ w1, Below w.heap.size w w1 → Calls Tryz.prog 10 #[v] w1 (Ans1 w1 (.bool (great.greatF D))) := fun w1 hb => great14.great_ans (h.frz hb.block)
 rw [h.eq] at hG hH ⊢
 clear h
 have B0 : Box (w.alloc (.cells #[.int .i64 D.p, .bool D.u, D.lv, D.bv] tF)) w.heap.size tF (.int .i64 D.p) (.bool D.u) D.lv D.bv := Box.mk rfl
 have b0 : Below w.heap.size w (w.alloc (.cells #[.int .i64 D.p, .bool D.u, D.lv, D.bv] tF)) := (Below.refl _ _).alloc (Nat.le_refl _) _
 rcases hf with hf | ⟨hf, hf2⟩
 ·rw [hf] at hG
  have HG := Lib.hid hG
  clear hG hH hf
  go_enter Tryz.func3, Tryz.ntmps3
  go_wp2_with (go_at_call 9; refine (HG.out _ b0).mono ?_; rintro e w1 ⟨rfl, b1⟩)
  go_ret
  exact ⟨rfl, b0.trans (b1.mono b0.size)⟩
 ·rw [hf] at hG
  rw [hf2] at hH
  have HG := Lib.hid hG
  have HH := Lib.hid hH
  clear hG hH hf hf2
  go_enter Tryz.func3, Tryz.ntmps3
  go_wp2_with (first | (go_at_call 9; refine (HG.out _ b0).mono ?_; rintro e w1 ⟨rfl, b1⟩; obtain ⟨y0, y1, y2, y3⟩ := (B0.below b1).cells) | (go_at_call 10; refine (HH.out _ (b0.trans (b1.mono b0.size))).mono ?_; rintro e w2 ⟨rfl, b2⟩))
  go_ret
  have b01 := b0.trans (b1.mono b0.size)
  exact ⟨rfl, b01.trans (b2.mono b01.size)⟩
set_option maxRecDepth 100000 in
set_option maxHeartbeats 8000000 in
theorem fin_main {w : World} {v : Value} {D : FnD} (h : FnOk' w v D) {z x y : Int} {els : List (List Value)} {bits : List Bool} (hg : great15 D = false) (hg2 : great.greatF D = false)
  (hl1 : (els.length : Int) ≤ 9223372036854775807) (hl2 : (bits.length : Int) ≤ 9223372036854775807) (hlit : ∀ (i : Nat) (x : List Value), els[i]? = some x → ∃ (n a c d e : Int) (u : Bool), x = [.int .i64 n, .int .i64 a, .bool u, .int .u8 c, .int .u8 d, .int .i64 e])
  (hA : ∀ w1, Below w.heap.size w w1 → Calls Tryz.prog 11 #[v] w1 (RowA els x w1))
  (hB : ∀ w1, Below w.heap.size w w1 → Calls Tryz.prog 12 #[v] w1 (RowA els x w1))
  (hC : ∀ w1, Below w.heap.size w w1 → Calls Tryz.prog 13 #[v, .int .i64 z] w1 (BitA bits y w1))
  (hD : ∀ w1, Below w.heap.size w w1 → Calls Tryz.prog 14 #[v, .int .i64 z] w1 (BitA bits y w1)) :
  Calls Tryz.prog 3 #[v, .int .i64 z] w (YesQ w) := by
 have hG : ∀ w1, Below w.heap.size w w1 → Calls Tryz.prog 9 #[v] w1 (Ans1 w1 (.bool (great15 D))) := fun w1 hb => great15_c (h.frz hb.block)
 have hH : ∀ w1, Below w.heap.size w w1 → Calls Tryz.prog 10 #[v] w1 (Ans1 w1 (.bool (great.greatF D))) := fun w1 hb => great14.great_ans (h.frz hb.block)
 rw [h.eq] at hG hH hA hB hC hD ⊢
 rw [hg] at hG
 rw [hg2] at hH
 have HG := Lib.hid hG
 have HH := Lib.hid hH
 have HA := Lib.hid hA
 have HB := Lib.hid hB
 have HC := Lib.hid hC
 have HD := Lib.hid hD
 have HLIT := Lib.hid hlit
 have HL1 := Lib.hid hl1
 have HL2 := Lib.hid hl2
 clear h hG hH hA hB hC hD hg hg2 hlit hl1 hl2
 have B0 : Box (w.alloc (.cells #[.int .i64 D.p, .bool D.u, D.lv, D.bv] tF)) w.heap.size tF (.int .i64 D.p) (.bool D.u) D.lv D.bv := Box.mk rfl
 have b0 : Below w.heap.size w (w.alloc (.cells #[.int .i64 D.p, .bool D.u, D.lv, D.bv] tF)) := (Below.refl _ _).alloc (Nat.le_refl _) _
 go_enter Tryz.func3, Tryz.ntmps3
 go_upto_region 3 with (first | (go_at_call 9; refine (HG.out _ b0).mono ?_; rintro e w1 ⟨rfl, b1⟩; obtain ⟨y0, y1, y2, y3⟩ := (B0.below b1).cells) | (go_at_call 10; refine (HH.out _ (b0.trans (b1.mono b0.size))).mono ?_; rintro e w2 ⟨rfl, b2⟩))
 have HB2 := Lib.hid ((b0.trans (b1.mono b0.size)).trans (b2.mono (b0.trans (b1.mono b0.size)).size))
 have HX2 := Lib.hid ((B0.below b1).below b2)
 clear y0 y1 y2 y3 b1 b2 b0 B0 HG HH
 obtain ⟨y0, y1, y2, y3⟩ := HX2.out.cells
 go_upto_region 4 with (go_at_call 11; refine (HA.out _ HB2.out).mono ?_; rintro e w3 ⟨A3, c3, rfl, r3, b3⟩)
 have HB3 := Lib.hid (HB2.out.trans (b3.mono HB2.out.size))
 have HX3 := Lib.hid (HX2.out.below b3)
 have HR3 := Lib.hid r3
 clear y0 y1 y2 y3 b3 r3 HA
 obtain ⟨y0, y1, y2, y3⟩ := HX3.out.cells
 go_upto_region 5 with (go_at_call 12; refine (HB.out _ HB3.out).mono ?_; rintro e w4 ⟨A4, c4, rfl, r4, b4⟩)
 have HB4 := Lib.hid (HB3.out.trans (b4.mono HB3.out.size))
 have HX4 := Lib.hid (HX3.out.below b4)
 have HR34 := Lib.hid (HR3.out.below b4)
 have HR4 := Lib.hid r4
 clear y0 y1 y2 y3 b4 r4 HB HR3
 obtain ⟨y0, y1, y2, y3⟩ := HX4.out.cells
 go_upto_region 6 with (go_at_call 13; refine (HC.out _ HB4.out).mono ?_; rintro e w5 ⟨A5, c5, rfl, r5, b5⟩)
 have HB5 := Lib.hid (HB4.out.trans (b5.mono HB4.out.size))
 have HX5 := Lib.hid (HX4.out.below b5)
 have HR35 := Lib.hid (HR34.out.below b5)
 have HR45 := Lib.hid (HR4.out.below b5)
 have HR5 := Lib.hid r5
 clear y0 y1 y2 y3 b5 r5 HC HR34 HR4
 obtain ⟨y0, y1, y2, y3⟩ := HX5.out.cells
 go_upto_region 7 with (go_at_call 14; refine (HD.out _ HB5.out).mono ?_; rintro e w6 ⟨A6, c6, rfl, r6, b6⟩)
 have HB6 := Lib.hid (HB5.out.trans (b6.mono HB5.out.size))
 have HS1 := Lib.hid (same21_c (c := c3) (d := c4) HL1.out (HR35.out.below b6) (HR45.out.below b6) HLIT.out)
 have HS2 := Lib.hid (fun W (hb : Below w6.heap.size w6 W) => same18_c (W := W) (c := c5) (d := c6) HL2.out ((HR5.out.below b6).below hb) (r6.below hb))
 clear y0 y1 y2 y3 b6 r6 HD
 go_wp2_with (first | (go_at_call 15; refine HS1.out.mono ?_; rintro e w7 ⟨rfl, b7⟩) | (go_at_call 16; refine (HS2.out _ b7).mono ?_; rintro e w8 ⟨rfl, b8⟩))
 go_ret
 have b67 := HB6.out.trans (b7.mono HB6.out.size)
 exact ⟨rfl, b67.trans (b8.mono b67.size)⟩
theorem fin_walk {w : World} {v v1 : Value} {D : FnD} (h : FnOk' w v D) (hz : Kd.ok (.i .i64) v1) : Calls Tryz.prog 3 #[v, v1] w (YesQ w) := by
 obtain ⟨z, rfl, _⟩ := hz
 cases hg : great15 D with
 | true => exact fin_great h (.inl hg)
 | false =>
  cases hg2 : great.greatF D with
  | true => exact fin_great h (.inr ⟨hg, hg2⟩)
  | false =>
   by_cases hc : check.chkF D = 0
   ·have hsm := small_of hc
    have hN : sizeN D ≤ 600 := hsm.start (Nat.le_refl _)
    have hll := lns_len (bs := D.bs) (sizeN D)
    have hF : ∀ {w1 : World}, Below w.heap.size w w1 → FoundC D w1 v := fun hb => found_is (h.frz hb.block) hsm
    have hA : ∀ w1, Below w.heap.size w w1 → Calls Tryz.prog 11 #[v] w1 (RowA (lns D.bs (sizeN D)) 0 w1) := fun w1 hb => (lall_c (h.frz hb.block) hsm (hc ▸ chk_is (h.frz hb.block))).mono fun e w' k => row_new k fun x hx => lns_6 hx
    have hB : ∀ w1, Below w.heap.size w w1 → Calls Tryz.prog 12 #[v] w1 (RowA (lns D.bs (sizeN D)) 0 w1) := fun w1 hb => (all21_c (h.frz hb.block) hc (hF hb)).mono fun e w' k => row_new k fun x hx => lns_6 hx
    by_cases hz : z < 0 ∨ ((lns D.bs (sizeN D)).length : Int) ≤ z
    ·exact fin_main h hg hg2 (by omega) (by simp) (fun i x hx => ln_lit h hx) hA hB (fun w1 hb => (kills_out (h.frz hb.block) hc hz).mono fun e w' k => bit_nil k)
      (fun w1 hb => (kills21_out (h.frz hb.block) hc (hF hb) hz).mono fun e w' k => bit_nil k)
    ·obtain ⟨k, rfl⟩ : ∃ k : Nat, z = (k : Int) := ⟨z.toNat, by omega⟩
     obtain ⟨x, hx⟩ : ∃ x, (lns D.bs (sizeN D))[k]? = some x := ⟨_, List.getElem?_eq_getElem (by omega)⟩
     obtain ⟨n, a, c, d, e, u, rfl⟩ := ln_lit h hx
     exact fin_main h hg hg2 (by omega) (bits := kilS D u a) (by rw [kilS_len]; omega) (fun i x hx => ln_lit h hx) hA hB (fun w1 hb => (kills_c (h.frz hb.block) hc hx).mono fun e w' k => bit_e k)
      (fun w1 hb => (kills21_c (h.frz hb.block) hc (hF hb) hx).mono fun e w' k => bit_r k)
   ·have hE : ∀ w1, Below w.heap.size w w1 → ChkIs w1 v (check.chkF D) := fun w1 hb => chk_is (h.frz hb.block)
    exact fin_main h hg hg2 (els := []) (bits := []) (by simp) (by simp) (fun i x hx => by simp at hx) (fun w1 hb => (lall_bad (h.frz hb.block) hc (hE w1 hb)).mono fun e w' k => row_nil k)
     (fun w1 hb => (all21_bad (h.frz hb.block) hc).mono fun e w' k => row_nil k) (fun w1 hb => (kills_bad (h.frz hb.block) hc z).mono fun e w' k => bit_nil k) (fun w1 hb => (kills21_bad (h.frz hb.block) hc z).mono fun e w' k => bit_nil k)
end Go.Proofs.YthdcahkedlijpaaGreat.loan
