/- pawnshopref21.Kills, for a loan that is there. -/
import Derived.Test.YthdcahkedlijpaaGreatLoanM
namespace Go.Proofs.YthdcahkedlijpaaGreat.loan
open Go.RowKit Go.Proofs.YthdcahkedlijpaaGreat Go.Proofs.YthdcahkedlijpaaGreat.Am
set_option linter.unusedVariables false
def kilL (bs : List BlkD) (u : Bool) (a : Int) (n : Nat) : List Value := (List.range n).map fun j => Value.bool (kilB bs u a j)
theorem kilL_next {bs : List BlkD} {u : Bool} {a : Int} {n : Nat} : kilL bs u a (n + 1) = kilL bs u a n ++ [.bool (kilB bs u a n)] := by simp [kilL, List.range_succ]
def KilR (D : FnD) (u : Bool) (a : Int) (W : World) (e : Ending) (W' : World) : Prop := ∃ s, e = .returned (.tuple #[s, .int .i64 0]) ∧ W'.ownsRow W.heap.size 4 1 s (sizeN D) (kilL D.bs u a (sizeN D)) ∧ Below W.heap.size W W'
set_option maxRecDepth 100000 in
set_option maxHeartbeats 8000000 in
theorem kills21_c {w : World} {v : Value} {D : FnD} (h : FnOk' w v D) (hc : check.chkF D = 0) (hF : FoundC D w v) {k : Nat} {x0 a c d e : Int} {u : Bool} (hx : (lns D.bs (sizeN D))[k]? = some [.int .i64 x0, .int .i64 a, .bool u, .int .u8 c, .int .u8 d, .int .i64 e]) :
  Calls Tryz.prog 14 #[v, .int .i64 (k : Nat)] w (KilR D u a w) := by
 have hsm := small_of hc
 have hA := fun w1 (hb : Below w.heap.size w w1) => all21_c (h.frz hb.block) hc (fun w2 h2 => hF w2 (hb.trans (h2.mono hb.size)))
 have hZ := fun w1 (hb : Below w.heap.size w w1) => size_c (h.frz hb.block) hsm
 have hK := fun n (hn : n < sizeN D) w1 (hb : Below w.heap.size w w1) => killed_c (h.frz hb.block) hsm hn (x0 := x0) (a := a) (c := c) (d := d) (e := e) (u := u)
 rw [h.eq] at hA hZ hK ⊢
 have HA := Lib.hid hA
 have HZ := Lib.hid hZ
 have HKD := Lib.hid hK
 have hN6 : sizeN D ≤ 600 := hsm.start (Nat.le_refl _)
 have hN6I : (sizeN D : Int) ≤ 600 := by omega
 have hkl := (List.getElem?_eq_some_iff.1 hx).1
 have HX := Lib.hid hx
 have hkI : (k : Int) < ((lns D.bs (sizeN D)).length : Int) := by omega
 have h0K : (0 : Int) ≤ (k : Int) := Int.natCast_nonneg _
 have hm1 : ¬ (k : Int) < 0 := by omega
 have hm2 : ¬ ((lns D.bs (sizeN D)).length : Int) ≤ (k : Int) := by omega
 have hm3 : decide ((k : Int) ≥ ((lns D.bs (sizeN D)).length : Int)) = false := decide_eq_false (by omega)
 clear hA hZ hK h hc hsm hx hkl hF
 have B0 : Box (w.alloc (.cells #[.int .i64 D.p, .bool D.u, D.lv, D.bv] tF)) w.heap.size tF (.int .i64 D.p) (.bool D.u) D.lv D.bv := Box.mk rfl
 have b0 : Below w.heap.size w (w.alloc (.cells #[.int .i64 D.p, .bool D.u, D.lv, D.bv] tF)) := (Below.refl _ _).alloc (Nat.le_refl _) _
 go_enter Tryz.func14, Tryz.ntmps14
 go_upto_region 8 with (go_at_call 12; refine (HA.out _ b0).mono ?_; rintro e w1 ⟨s1, rfl, hl1⟩; obtain ⟨Al, cl, rfl, hrl⟩ := hl1.read (by decide) (fun x hx => lns_6 hx))
 have b1 := hl1.2
 have b01 := b0.trans (b1.mono b0.size)
 have B1 := B0.below b1
 obtain ⟨gl, ol, eL, hgl, hrk⟩ := RowsAt.get hrl (Below.refl _ _) HX.out
 subst eL
 have HRK := Lib.hid hrk
 have HB1 := Lib.hid B1
 have HB01 := Lib.hid b01
 clear hl1 hrl hrk B0 b0 B1 b1 b01 HA hm1 hm2 hm3
 have hq9 : decide ((lns D.bs (sizeN D)).length ≤ k) = false := decide_eq_false (by omega)
 simp only [hq9, Bool.or_false]
 clear hq9
 have HKI := Lib.hid hkI
 clear hkI
 go_loopg [8, 9] (sizeN D) (fun g s8 s9 wr => ∃ n : Nat, s9 = .int .i64 n ∧ n ≤ sizeN D ∧ g = sizeN D - n ∧ wr.ownsRow w1.heap.size 4 1 s8 n (kilL D.bs u a n) ∧ Below w1.heap.size w1 wr)
 case atStart => exact ⟨0, rfl, Nat.zero_le _, rfl, World.ownsRow_nil _ _ _ _, Below.refl _ _⟩
 case round =>
  obtain ⟨n, rfl, hn, rfl, hown, hbel⟩ := hrel
  obtain ⟨t0, t1, t2, t3⟩ := (HB1.out.below hbel).cells
  have h0N : (0 : Int) ≤ (n : Int) := Int.natCast_nonneg _
  have HBEL := Lib.hid hbel
  have HOWN := Lib.hid hown
  have HBW := Lib.hid (HB01.out.trans (hbel.mono HB01.out.size))
  clear hbel hown
  rcases Nat.lt_or_ge n (sizeN D) with hlt | hge
  ·have hltI : (n : Int) < (sizeN D : Int) := by omega
   go_upto_region 10 with (go_at_call 24; refine (HZ.out _ HBW.out).mono ?_; rintro e w2 ⟨rfl, b2⟩)
   have HB2 := Lib.hid ((HBEL.out.trans (b2.mono HBEL.out.size)).drew)
   have HO2 := Lib.hid (show w2.drew.ownsRow w1.heap.size 4 1 _ n (kilL D.bs u a n) from owns_below HOWN.out b2.drew)
   have HBW2 := Lib.hid ((HBW.out.trans (b2.mono HBW.out.size)).drew)
   have hlw := HB1.out.lt
   clear b2 t0 t1 t2 t3
   refine region_cells [⟨w.heap.size, 0, none⟩, ⟨w.heap.size, 1, none⟩, ⟨w.heap.size, 2, none⟩, ⟨w.heap.size, 3, none⟩, ⟨gl, ol + k * 6, none⟩, ⟨gl, ol + k * 6 + 1, none⟩, ⟨gl, ol + k * 6 + 2, none⟩, ⟨gl, ol + k * 6 + 3, none⟩, ⟨gl, ol + k * 6 + 4, none⟩, ⟨gl, ol + k * 6 + 5, none⟩] [(0, true), (1, true), (2, true), (3, true), (4, true), (5, true), (6, true), (7, false), (8, false), (9, false), (10, true)] (by kernel_rfl) (by kernel_rfl) (by decide) (by kernel_rfl) (fun _ _ _ _ _ h => h) ?_
   generalize w2.drew = wd at *
   obtain ⟨y0, y1, y2, y3⟩ := (HB1.out.below HB2.out).cells
   have hcl : ∀ f u', [Value.int .i64 x0, .int .i64 a, .bool u, .int .u8 c, .int .u8 d, .int .i64 e][f]? = some u' → wd.cell? ⟨gl, ol + k * 6 + f, none⟩ = some u' := fun f u' hu => (HB2.out.cell (p := ⟨gl, ol + k * 6 + f, none⟩) hgl).trans (HRK.out f u' hu)
   have p0 := hcl 0 _ rfl
   have p1 := hcl 1 _ rfl
   have p2 := hcl 2 _ rfl
   have p3 := hcl 3 _ rfl
   have p4 := hcl 4 _ rfl
   have p5 := hcl 5 _ rfl
   simp only [Nat.add_zero] at p0
   clear hcl
   iterate 7 (refine SeqC.take (v := ?_) rfl (by rfl) (fun W hW => ?_) ?_; rotate_left; (focus (have zk := HKI.out; have zy0 := hW.get (by simp) y0; have zy1 := hW.get (by simp) y1; have zy2 := hW.get (by simp) y2; have zy3 := hW.get (by simp) y3; have zp0 := hW.get (by simp) p0; have zp1 := hW.get (by simp) p1; have zp2 := hW.get (by simp) p2; have zp3 := hW.get (by simp) p3; have zp4 := hW.get (by simp) p4; have zp5 := hW.get (by simp) p5; go_simp; with_reducible rfl)); simp only [Act.put, List.setIfInBounds_toArray, List.set_cons_zero, List.set_cons_succ])
   refine SeqC.call (f := ?_) (args := ?_) rfl (by rfl) ?_ ?_
   rotate_left 2
   ·(go_simp; first | with_reducible rfl | (refine ⟨?_, ?_⟩ <;> with_reducible rfl))
   refine (HKD.out n hlt _ HBW2.out).mono ?_
   rintro e w3 ⟨rfl, b3⟩
   have hwd := HB2.out.size
   have hall : ∀ p ∈ ([⟨w.heap.size, 0, none⟩, ⟨w.heap.size, 1, none⟩, ⟨w.heap.size, 2, none⟩, ⟨w.heap.size, 3, none⟩, ⟨gl, ol + k * 6, none⟩, ⟨gl, ol + k * 6 + 1, none⟩, ⟨gl, ol + k * 6 + 2, none⟩, ⟨gl, ol + k * 6 + 3, none⟩, ⟨gl, ol + k * 6 + 4, none⟩, ⟨gl, ol + k * 6 + 5, none⟩] : List Addr), p.block < w1.heap.size := by
    intro p hp
    simp only [List.mem_cons, List.not_mem_nil, or_false] at hp
    rcases hp with rfl | rfl | rfl | rfl | rfl | rfl | rfl | rfl | rfl | rfl <;> first | exact hlw | exact hgl
   refine ⟨_, rfl, Cells.of_ext b3 (fun p hp => Nat.lt_of_lt_of_le (hall p hp) hwd), ?_⟩
   simp only [Act.put, List.setIfInBounds_toArray, List.set_cons_zero, List.set_cons_succ]
   have hb3 := HB2.out.trans (b3.mono HB2.out.size)
   have HB3 := Lib.hid hb3
   have HO3 := Lib.hid (owns_below HO2.out b3)
   clear hb3 b3 y0 y1 y2 y3 p0 p1 p2 p3 p4 p5
   have hw3 := HB3.out.size
   refine SeqC.val (v := .slice (some ⟨w3.heap.size, 0, none⟩) 1 1) (w' := w3.alloc (.cells #[.bool (kilB D.bs u a n)] 4)) rfl (by rfl) (by go_simp; try with_reducible rfl) (Cells.of_ext ((Below.refl _ _).alloc (Nat.le_refl _) _) (fun p hp => Nat.lt_of_lt_of_le (hall p hp) hw3)) ?_
   simp only [Act.put, List.setIfInBounds_toArray, List.set_cons_zero, List.set_cons_succ]
   refine SeqC.step rfl (by rfl) (fun K' hK => ?_)
   refine wp_append_keep _ _ 33 rfl w1.heap.size 4 (.bool false) 1 1 Tryz.underlying33 boolRow rfl (by decide) _ _ _ rfl (World.ownsRow.alloc (w := w3) HO3.out _) [.bool (kilB D.bs u a n)] w3.heap.size 1 rfl (at_alloc (w := w3) rfl) rfl (by simp [Value.oneCell']) (by omega) (by omega) w1 (HB3.out.alloc HB3.out.size _) (by simp; omega) ?_
   intro v1 w5 hown1 hbel1 hkeep
   refine hK _ _ (fun p hp => ?_) ?_
   ·have hp1 := hall p hp
    exact (hbel1.cell hp1).trans ((HB3.out.alloc HB3.out.size _).cell hp1).symm
   simp only [Act.put, List.setIfInBounds_toArray, List.set_cons_zero, List.set_cons_succ]
   refine SeqC.take (v := ?_) rfl (by rfl) (fun W hW => ?_) ?_
   rotate_left
   focus (go_simp; with_reducible rfl)
   simp only [Act.put, List.setIfInBounds_toArray, List.set_cons_zero, List.set_cons_succ]
   refine SeqC.done ?_
   clear hkeep
   go_wp2
   go_roundg (sizeN D - (n + 1))
   case measure => omega
   case rel => exact ⟨n + 1, by simp, by omega, rfl, by rw [kilL_next]; exact hown1, hbel1⟩
  ·obtain rfl : n = sizeN D := by omega
   go_wp2_with (go_at_call 24; refine (HZ.out _ HBW.out).mono ?_; rintro e w2 ⟨rfl, b2⟩)
   go_ret2
   exact ⟨_, rfl, owns_base (owns_below HOWN.out b2) HB01.out.size, HBW.out.trans (b2.mono HBW.out.size)⟩
end Go.Proofs.YthdcahkedlijpaaGreat.loan
