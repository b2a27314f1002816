/- TextOnce: the law answers true for every two programs and numbers. -/
import Derived.Test.YtglmonlofejcgaaGreatDoorTextI
import Derived.Test.YtglmonlofejcgaaGreatDoorTextH
import Derived.Test.YtglmonlofejcgaaGreatDoorTextAl
set_option maxHeartbeats 16000000
set_option maxRecDepth 100000
open List renaming setIfInBounds_toArray → apu, set_cons_zero → apw, set_cons_succ → apx, not_mem_nil → apz, mem_cons → apA, getElem?_eq_some_iff → apB
open Nat renaming lt_of_lt_of_le → apv
open Array renaming getElem?_eq_some_iff → apy
set_option linter.unusedVariables false
namespace Go.Proofs.YtglmonlofejcgaaGreatDoor
namespace prg
open Go.RowKit Am loan bld
open txt (rJ textF kM Lim)
theorem sZ {w : World} {v fv : Value} {Ds : List FnD} (h : cu w v fv Ds) : Jm 17 w v (gJ Ds) := fun w1 hb => by
 have h1 := h.below hb
 by_cases hm : 8 < Ds.length
 ·have : gJ Ds = 4 := by unfold gJ; rw [if_pos hm]
  rw [this]
  exact Gu h1 hm
 ·by_cases h0 : Ds.length = 0
  ·have : gJ Ds = 8 := by unfold gJ; rw [if_neg hm, if_pos h0]
   rw [this]
   exact Hl h1 h0
  ·exact ZR h1 (by omega) (by omega)
def UQ (w : World) (e : Ending) (w' : World) : Prop := e = .returned (.bool true) /\ Below w.heap.size w w'
theorem JK {w : World} {v : Value} {D : FnD} (h : aV w v D) (kt : dL w) (hc : check.jK D = 0) {n : Int} (h0 : 0 <= n) (h8 : n < 8) : Calls Tryz.prog 9 #[v, .int .i64 n] w (rJ (textF D n) 0 w) :=
 txt.a0G h (txt.sW h hc) (txt.Ju h kt hc) h0 h8 (by have := txt.Zc h; rwa [hc] at this)
structure a0I (w : World) (A : Option Addr) (n c : Nat) (B : Option Addr) (m d : Nat) (W : World) : Prop where
 b : Below w.heap.size w W
 p : W.heap[w.heap.size]? = some (.cells #[.slice A n c] tPr (0, 0))
 q : W.heap[w.heap.size + 1]? = some (.cells #[.slice B m d] tPr (0, 0))
theorem a0I.below {w W W' : World} {A B : Option Addr} {n c m d : Nat} (h : a0I w A n c B m d W) (hb : Below W.heap.size W W') : a0I w A n c B m d W' :=
 ⟨h.b.trans (hb.mono h.b.size), (hb.block _ (apy.1 h.p).1).trans h.p, (hb.block _ (apy.1 h.q).1).trans h.q⟩
theorem a0I.cells {w W : World} {A B : Option Addr} {n c m d : Nat} (h : a0I w A n c B m d W) : W.cell? ⟨w.heap.size, 0, none⟩ = some (.slice A n c) /\ W.cell? ⟨w.heap.size + 1, 0, none⟩ = some (.slice B m d) :=
 ⟨by rw [cell_of_row W _ 0 _ tPr (0, 0) h.p]; rfl, by rw [cell_of_row W _ 0 _ tPr (0, 0) h.q]; rfl⟩
theorem oQ {w : World} {v v' fv fv' : Value} {Ds Es : List FnD} {n m : Int} (h : cu w v fv Ds) (k : cu w v' fv' Es) (kt : dL w)
  (hn : jJ Ds = true \/ (jJ Ds = false /\ (jJ Es = true \/ (jJ Es = false /\ ((gJ Ds != 0) = true \/ (gJ Ds = 0 /\ ((gJ Es != 0) = true \/ (gJ Es = 0 /\ (n < 0 \/ (¬ n < 0 /\ (n > 7 \/ (¬ n > 7 /\ (m < 0 \/ (¬ m < 0 /\ m > 7)))))))))))))) : Calls Tryz.prog 5 #[v, v', .int .i64 n, .int .i64 m] w (UQ w) := by
 have hG1 := fun (w1 : World) (hb : Below w.heap.size w w1) => qX (h.below hb)
 have hG2 := fun (w1 : World) (hb : Below w.heap.size w w1) => qX (k.below hb)
 have hC1 := fun (w1 : World) (hb : Below w.heap.size w w1) => sZ h w1 hb
 have hC2 := fun (w1 : World) (hb : Below w.heap.size w w1) => sZ k w1 hb
 have HA := Lib.hid (fun (w1 : World) (hb : Below w.heap.size w w1) => txt.JA (txt.gB kt hb))
 obtain ⟨A, c, e, _, hm, hr⟩ := h.rows
 obtain ⟨B, d, e', _, hm', hr'⟩ := k.rows
 rw [e] at hG1 hC1 |-
 rw [e'] at hG2 hC2 |-
 clear h k hr hr' e e' kt
 generalize jJ Ds = g1 at *
 generalize jJ Es = g2 at *
 generalize gJ Ds = x1 at *
 generalize gJ Es = x2 at *
 have HG1 := Lib.hid hG1
 have HG2 := Lib.hid hG2
 have HC1 := Lib.hid hC1
 have HC2 := Lib.hid hC2
 clear hG1 hG2 hC1 hC2
 have T0 := Lib.hid (show a0I w A Ds.length c B Es.length d ((w.alloc (.cells #[.slice A Ds.length c] tPr)).alloc (.cells #[.slice B Es.length d] tPr)) from ⟨((Below.refl _ _).alloc (Nat.le_refl _) _).alloc (by simp) _, jX (aX rfl), aX (by simp)⟩)
 obtain ⟨p0, q0⟩ := T0.out.cells
 rcases hn with rfl | ⟨rfl, rfl | ⟨rfl, hx | ⟨rfl, hx | ⟨rfl, hx | ⟨hx0, hx | ⟨hx1, hx | ⟨hx2, hx⟩⟩⟩⟩⟩⟩⟩
 all_goals (
  go_enter Tryz.func5, Tryz.ntmps5
  go_wp2_with (first | (go_at_call 18; (first | (refine (HA.out _ T4.out.b).mono ?_) | (refine (HA.out _ T3.out.b).mono ?_) | (refine (HA.out _ T2.out.b).mono ?_) | (refine (HA.out _ T1.out.b).mono ?_)); rintro e w9 ⟨rfl, b9⟩) | (go_at_call 17; refine (HC2.out _ T3.out.b).mono ?_; rintro e w4 ⟨rfl, b4⟩; have T4 := Lib.hid (T3.out.below b4); obtain ⟨p4, q4⟩ := T4.out.cells) | (go_at_call 17; refine (HC1.out _ T2.out.b).mono ?_; rintro e w3 ⟨rfl, b3⟩; have T3 := Lib.hid (T2.out.below b3); obtain ⟨p3, q3⟩ := T3.out.cells) | (go_at_call 14; refine (HG2.out _ T1.out.b).mono ?_; rintro e w2 ⟨rfl, b2⟩; have T2 := Lib.hid (T1.out.below b2); obtain ⟨p2, q2⟩ := T2.out.cells) | (go_at_call 14; refine (HG1.out _ T0.out.b).mono ?_; rintro e w1 ⟨rfl, b1⟩; have T1 := Lib.hid (T0.out.below b1); obtain ⟨p1, q1⟩ := T1.out.cells))
  go_ret
  first | exact ⟨rfl, T4.out.b.trans (b9.mono T4.out.b.size)⟩ | exact ⟨rfl, T3.out.b.trans (b9.mono T3.out.b.size)⟩ | exact ⟨rfl, T2.out.b.trans (b9.mono T2.out.b.size)⟩ | exact ⟨rfl, T1.out.b.trans (b9.mono T1.out.b.size)⟩)
structure aof (w : World) (A : Option Addr) (c : Nat) (Ds : List FnD) (B : Option Addr) (d : Nat) (Es : List FnD) (D E : FnD) (n m : Int) (la lb lx ly : List UInt8) : Prop where
 a : ∀ w1, Below w.heap.size w w1 -> Calls Tryz.prog 15 #[.agg #[.slice A Ds.length c]] w1 (rJ la 0 w1)
 b : ∀ w1, Below w.heap.size w w1 -> Calls Tryz.prog 15 #[.agg #[.slice B Es.length d]] w1 (rJ lb 0 w1)
 x : ∀ w1, Below w.heap.size w w1 -> Calls Tryz.prog 9 #[.agg #[.int .i64 D.p, .bool D.u, D.lv, D.bv], .int .i64 n] w1 (rJ lx 0 w1)
 y : ∀ w1, Below w.heap.size w w1 -> Calls Tryz.prog 9 #[.agg #[.int .i64 E.p, .bool E.u, E.lv, E.bv], .int .i64 m] w1 (rJ ly 0 w1)
 s8 : ∀ w1, Below w.heap.size w w1 -> Calls Tryz.prog 19 #[.agg #[.slice A Ds.length c], .agg #[.slice B Es.length d]] w1 (bld.Ans w1 (.bool (decide (la = lb))))
 s7 : n = m -> ∀ w1, Below w.heap.size w w1 -> Calls Tryz.prog 13 #[.agg #[.int .i64 D.p, .bool D.u, D.lv, D.bv], .agg #[.int .i64 E.p, .bool E.u, E.lv, E.bv]] w1 (bld.Ans w1 (.bool (decide (lx = ly))))
 nm : n ≠ m -> lx ≠ ly
theorem a7W {w : World} {v v' fv fv' : Value} {Ds Es : List FnD} {D E : FnD} {n m : Int} {la lb lx ly : List UInt8} (h : cu w v fv Ds) (k : cu w v' fv' Es) (kt : dL w) (g1 : jJ Ds = false) (g2 : jJ Es = false) (x1 : gJ Ds = 0) (x2 : gJ Es = 0) (n0 : ¬ n < 0) (n7 : ¬ n > 7) (m0 : ¬ m < 0) (m7 : ¬ m > 7) (hD : Ds[0]? = some D) (hE : Es[0]? = some E)
  (hK : ∀ A c B d, v = .agg #[.slice A Ds.length c] -> v' = .agg #[.slice B Es.length d] -> aof w A c Ds B d Es D E n m la lb lx ly) : Calls Tryz.prog 5 #[v, v', .int .i64 n, .int .i64 m] w (UQ w) := by
 have hG1 := fun (w1 : World) (hb : Below w.heap.size w w1) => qX (h.below hb)
 have hG2 := fun (w1 : World) (hb : Below w.heap.size w w1) => qX (k.below hb)
 have hC1 := fun (w1 : World) (hb : Below w.heap.size w w1) => sZ h w1 hb
 have hC2 := fun (w1 : World) (hb : Below w.heap.size w w1) => sZ k w1 hb
 have HA := Lib.hid (fun (w1 : World) (hb : Below w.heap.size w w1) => txt.JA (txt.gB kt hb))
 obtain ⟨A, c, e, _, hm, hr⟩ := h.rows
 obtain ⟨B, d, e', _, hm', hr'⟩ := k.rows
 have hK := hK A c B d e e'
 rw [e] at hG1 hC1 |-
 rw [e'] at hG2 hC2 |-
 rw [g1] at hG1
 rw [g2] at hG2
 rw [x1] at hC1
 rw [x2] at hC2
 have hl1 : (0 : Int) < (Ds.length : Int) := by have := (apB.1 hD).1; omega
 have hl2 : (0 : Int) < (Es.length : Int) := by have := (apB.1 hE).1; omega
 obtain ⟨g, o, eA, hg, hc⟩ := iL hr hD
 obtain ⟨gb, ob, eB, hgb, hcb⟩ := iL hr' hE
 subst eA eB
 simp only [Nat.zero_mul, Nat.add_zero] at hc hcb
 have HG1 := Lib.hid hG1
 have HG2 := Lib.hid hG2
 have HC1 := Lib.hid hC1
 have HC2 := Lib.hid hC2
 have HK := Lib.hid hK
 have HC := Lib.hid hc
 have HCB := Lib.hid hcb
 clear h k hr hr' e e' kt hG1 hG2 hC1 hC2 hc hcb hK g1 g2 x1 x2 hD hE
 have T0 := Lib.hid (show a0I w (some ⟨g, o, none⟩) Ds.length c (some ⟨gb, ob, none⟩) Es.length d ((w.alloc (.cells #[.slice (some ⟨g, o, none⟩) Ds.length c] tPr)).alloc (.cells #[.slice (some ⟨gb, ob, none⟩) Es.length d] tPr)) from ⟨((Below.refl _ _).alloc (Nat.le_refl _) _).alloc (by simp) _, jX (aX rfl), aX (by simp)⟩)
 obtain ⟨p0, q0⟩ := T0.out.cells
 go_enter Tryz.func5, Tryz.ntmps5
 go_upto_region 3 with (first | (go_at_call 18; (first | (refine (HA.out _ T4.out.b).mono ?_) | (refine (HA.out _ T3.out.b).mono ?_) | (refine (HA.out _ T2.out.b).mono ?_) | (refine (HA.out _ T1.out.b).mono ?_)); rintro e w9 ⟨rfl, b9⟩) | (go_at_call 17; refine (HC2.out _ T3.out.b).mono ?_; rintro e w4 ⟨rfl, b4⟩; have T4 := Lib.hid (T3.out.below b4); obtain ⟨p4, q4⟩ := T4.out.cells) | (go_at_call 17; refine (HC1.out _ T2.out.b).mono ?_; rintro e w3 ⟨rfl, b3⟩; have T3 := Lib.hid (T2.out.below b3); obtain ⟨p3, q3⟩ := T3.out.cells) | (go_at_call 14; refine (HG2.out _ T1.out.b).mono ?_; rintro e w2 ⟨rfl, b2⟩; have T2 := Lib.hid (T1.out.below b2); obtain ⟨p2, q2⟩ := T2.out.cells) | (go_at_call 14; refine (HG1.out _ T0.out.b).mono ?_; rintro e w1 ⟨rfl, b1⟩; have T1 := Lib.hid (T0.out.below b1); obtain ⟨p1, q1⟩ := T1.out.cells))
 clear T0 T1 T2 T3 p0 q0 p1 q1 p2 q2 p3 q3 b1 b2 b3 b4 HG1 HG2 HC1 HC2
 go_upto_region 4 with (go_at_call 15; refine (HK.out.a _ T4.out.b).mono ?_; rintro e w5 ⟨rfl, b5⟩)
 have T5 := Lib.hid (T4.out.below b5)
 clear p4 q4 b5 T4
 obtain ⟨p5, q5⟩ := T5.out.cells
 go_upto_region 5 with (go_at_call 15; refine (HK.out.b _ T5.out.b).mono ?_; rintro e wb ⟨rfl, bb⟩)
 have T6 := Lib.hid (T5.out.below bb)
 clear p5 q5 bb T5
 obtain ⟨p5, q5⟩ := T6.out.cells
 have HR6 := Lib.hid (txt.dX HC.out hg T6.out.b)
 go_upto_region 6 with (first | (refine wpList_load_mid rfl tFn _ rfl g o rfl [.int .i64 D.p, .bool D.u, D.lv, D.bv] _ HR6.out Tryz.underlying25 rfl fnR ?_) | (go_at_call 9; refine (HK.out.x _ T6.out.b).mono ?_; rintro e wc ⟨rfl, bc⟩))
 have T7 := Lib.hid (T6.out.below bc)
 clear p5 q5 bc T6 HR6
 obtain ⟨p5, q5⟩ := T7.out.cells
 have HR7 := Lib.hid (txt.dX HCB.out hgb T7.out.b)
 go_upto_region 7 with (first | (refine wpList_load_mid rfl tFn _ rfl gb ob rfl [.int .i64 E.p, .bool E.u, E.lv, E.bv] _ HR7.out Tryz.underlying25 rfl fnR ?_) | (go_at_call 9; refine (HK.out.y _ T7.out.b).mono ?_; rintro e w6 ⟨rfl, b6⟩))
 have T8 := Lib.hid (T7.out.below b6)
 clear p5 q5 b6 T7 HR7
 obtain ⟨y0, z0⟩ := T8.out.cells
 have hr6 := txt.dX HC.out hg T8.out.b
 have hr7 := txt.dX HCB.out hgb T8.out.b
 have f0 : w6.cell? ⟨g, o, none⟩ = _ := hr6 0 _ rfl
 have g0 : w6.cell? ⟨gb, ob, none⟩ = _ := hr7 0 _ rfl
 have f1 : w6.cell? ⟨g, o + 1, none⟩ = _ := hr6 1 _ rfl
 have g1 : w6.cell? ⟨gb, ob + 1, none⟩ = _ := hr7 1 _ rfl
 have f2 : w6.cell? ⟨g, o + 2, none⟩ = _ := hr6 2 _ rfl
 have g2 : w6.cell? ⟨gb, ob + 2, none⟩ = _ := hr7 2 _ rfl
 have f3 : w6.cell? ⟨g, o + 3, none⟩ = _ := hr6 3 _ rfl
 have g3 : w6.cell? ⟨gb, ob + 3, none⟩ = _ := hr7 3 _ rfl
 have hl1n : 0 < Ds.length := by omega
 have hl2n : 0 < Es.length := by omega
 have hl1z : ¬ Ds.length = 0 := by omega
 have hl2z : ¬ Es.length = 0 := by omega
 have hlp : w.heap.size < w6.heap.size := (apy.1 T8.out.p).1
 have hlq : w.heap.size + 1 < w6.heap.size := (apy.1 T8.out.q).1
 have hlg : g < w6.heap.size := apv hg T8.out.b.size
 have hlb : gb < w6.heap.size := apv hgb T8.out.b.size
 have HB6 := Lib.hid T8.out.b
 have HAL := HA
 have hs8 := HK.out.s8
 have hs7 := HK.out.s7
 have hnm := HK.out.nm
 clear hr6 hr7 T8 HC HCB HK HA
 by_cases hnm1 : n = m
 ·subst hnm1
  have hs7 := hs7 rfl
  by_cases hab : la = lb
  all_goals by_cases hxy : lx = ly
  all_goals (
   first | (subst hab; rw [decide_eq_true rfl] at hs8) | (rw [decide_eq_false hab] at hs8; have hab2 : (la == lb) = false := by simpa using hab)
   first | (subst hxy; rw [decide_eq_true rfl] at hs7) | (rw [decide_eq_false hxy] at hs7; have hxy2 : (lx == ly) = false := by simpa using hxy)
   have HS8 := Lib.hid hs8
   have HS7 := Lib.hid hs7
   clear hs7 hs8 hnm
   refine bZ [⟨w.heap.size, 0, none⟩, ⟨w.heap.size + 1, 0, none⟩, ⟨g, o, none⟩, ⟨g, o + 1, none⟩, ⟨g, o + 2, none⟩, ⟨g, o + 3, none⟩, ⟨gb, ob, none⟩, ⟨gb, ob + 1, none⟩, ⟨gb, ob + 2, none⟩, ⟨gb, ob + 3, none⟩] [(0, true), (1, true), (2, true), (3, true), (4, true), (5, true), (6, true), (7, true), (8, true), (9, true), (10, true), (11, true), (12, true), (13, true), (14, true), (15, true), (16, true), (17, true), (18, true), (19, true), (20, false), (21, true), (22, true), (23, true), (24, true), (25, true), (26, true), (27, true), (28, true), (29, true), (30, true), (31, true), (32, true), (33, true), (34, true), (35, true), (36, true), (37, true), (38, true), (39, false), (40, true), (41, true), (42, true), (43, true), (44, false), (45, true), (46, true)] (by kernel_rfl) (by kernel_rfl) (by decide) (by kernel_rfl) (fun _ _ _ _ _ h => h) ?_
   have Bw7 := HB6.out.drew
   have hlpw7 := hlp
   have hlqw7 := hlq
   have hlgw7 := hlg
   have hlbw7 := hlb
   have y0 : w6.drew.cell? ⟨w.heap.size, 0, none⟩ = _ := y0
   have z0 : w6.drew.cell? ⟨w.heap.size + 1, 0, none⟩ = _ := z0
   have f0 : w6.drew.cell? ⟨g, o, none⟩ = _ := f0
   have f1 : w6.drew.cell? ⟨g, o + 1, none⟩ = _ := f1
   have f2 : w6.drew.cell? ⟨g, o + 2, none⟩ = _ := f2
   have f3 : w6.drew.cell? ⟨g, o + 3, none⟩ = _ := f3
   have g0 : w6.drew.cell? ⟨gb, ob, none⟩ = _ := g0
   have g1 : w6.drew.cell? ⟨gb, ob + 1, none⟩ = _ := g1
   have g2 : w6.drew.cell? ⟨gb, ob + 2, none⟩ = _ := g2
   have g3 : w6.drew.cell? ⟨gb, ob + 3, none⟩ = _ := g3
   change Below w.heap.size w w6.drew at Bw7
   have hsz : w6.drew.heap.size = w6.heap.size := rfl
   rw [<- hsz] at hlpw7 hlqw7 hlgw7 hlbw7
   generalize w6.drew = w7 at *
   repeat (first | (refine SeqC.take (v := ?_) rfl (by rfl) (fun W hW => ?_) ?_; rotate_left; (focus (have qy0 := hW.get (by simp) y0; have qz0 := hW.get (by simp) z0; have qf0 := hW.get (by simp) f0; have qf1 := hW.get (by simp) f1; have qf2 := hW.get (by simp) f2; have qf3 := hW.get (by simp) f3; have qg0 := hW.get (by simp) g0; have qg1 := hW.get (by simp) g1; have qg2 := hW.get (by simp) g2; have qg3 := hW.get (by simp) g3; go_simp; with_reducible rfl)); simp only [Act.put, apu, apw, apx]) | (refine SeqC.skip rfl (by rfl) ?_; simp only [Act.put, apu, apw, apx]))
   refine SeqC.call (f := ?_) (args := ?_) rfl (by rfl) ?_ ?_
   rotate_left 2
   ·(go_simp; first | with_reducible rfl | (refine ⟨?_, ?_⟩ <;> with_reducible rfl))
   refine (HS8.out _ Bw7).mono ?_
   rintro e w8 ⟨rfl, b8⟩
   refine ⟨_, rfl, Cells.lX b8 (by intro p hp; simp only [apA, apz, or_false] at hp; rcases hp with rfl | rfl | rfl | rfl | rfl | rfl | rfl | rfl | rfl | rfl <;> first | exact hlpw7 | exact hlqw7 | exact hlgw7 | exact hlbw7), ?_⟩
   simp only [Act.put, apu, apw, apx]
   have Bw8 := Bw7.trans (b8.mono Bw7.size)
   have hlpw8 := apv hlpw7 b8.size
   have hlqw8 := apv hlqw7 b8.size
   have hlgw8 := apv hlgw7 b8.size
   have hlbw8 := apv hlbw7 b8.size
   have y0 : w8.cell? ⟨w.heap.size, 0, none⟩ = _ := (b8.cell (p := ⟨w.heap.size, 0, none⟩) hlpw7).trans y0
   have z0 : w8.cell? ⟨w.heap.size + 1, 0, none⟩ = _ := (b8.cell (p := ⟨w.heap.size + 1, 0, none⟩) hlqw7).trans z0
   have f0 : w8.cell? ⟨g, o, none⟩ = _ := (b8.cell (p := ⟨g, o, none⟩) hlgw7).trans f0
   have f1 : w8.cell? ⟨g, o + 1, none⟩ = _ := (b8.cell (p := ⟨g, o + 1, none⟩) hlgw7).trans f1
   have f2 : w8.cell? ⟨g, o + 2, none⟩ = _ := (b8.cell (p := ⟨g, o + 2, none⟩) hlgw7).trans f2
   have f3 : w8.cell? ⟨g, o + 3, none⟩ = _ := (b8.cell (p := ⟨g, o + 3, none⟩) hlgw7).trans f3
   have g0 : w8.cell? ⟨gb, ob, none⟩ = _ := (b8.cell (p := ⟨gb, ob, none⟩) hlbw7).trans g0
   have g1 : w8.cell? ⟨gb, ob + 1, none⟩ = _ := (b8.cell (p := ⟨gb, ob + 1, none⟩) hlbw7).trans g1
   have g2 : w8.cell? ⟨gb, ob + 2, none⟩ = _ := (b8.cell (p := ⟨gb, ob + 2, none⟩) hlbw7).trans g2
   have g3 : w8.cell? ⟨gb, ob + 3, none⟩ = _ := (b8.cell (p := ⟨gb, ob + 3, none⟩) hlbw7).trans g3
   repeat (first | (refine SeqC.take (v := ?_) rfl (by rfl) (fun W hW => ?_) ?_; rotate_left; (focus (have qy0 := hW.get (by simp) y0; have qz0 := hW.get (by simp) z0; have qf0 := hW.get (by simp) f0; have qf1 := hW.get (by simp) f1; have qf2 := hW.get (by simp) f2; have qf3 := hW.get (by simp) f3; have qg0 := hW.get (by simp) g0; have qg1 := hW.get (by simp) g1; have qg2 := hW.get (by simp) g2; have qg3 := hW.get (by simp) g3; go_simp; with_reducible rfl)); simp only [Act.put, apu, apw, apx]) | (refine SeqC.skip rfl (by rfl) ?_; simp only [Act.put, apu, apw, apx]))
   refine SeqC.call (f := ?_) (args := ?_) rfl (by rfl) ?_ ?_
   rotate_left 2
   ·(go_simp; first | with_reducible rfl | (refine ⟨?_, ?_⟩ <;> with_reducible rfl))
   refine (HS7.out _ Bw8).mono ?_
   rintro e w9 ⟨rfl, b9⟩
   refine ⟨_, rfl, Cells.lX b9 (by intro p hp; simp only [apA, apz, or_false] at hp; rcases hp with rfl | rfl | rfl | rfl | rfl | rfl | rfl | rfl | rfl | rfl <;> first | exact hlpw8 | exact hlqw8 | exact hlgw8 | exact hlbw8), ?_⟩
   simp only [Act.put, apu, apw, apx]
   have Bw9 := Bw8.trans (b9.mono Bw8.size)
   have hlpw9 := apv hlpw8 b9.size
   have hlqw9 := apv hlqw8 b9.size
   have hlgw9 := apv hlgw8 b9.size
   have hlbw9 := apv hlbw8 b9.size
   have y0 : w9.cell? ⟨w.heap.size, 0, none⟩ = _ := (b9.cell (p := ⟨w.heap.size, 0, none⟩) hlpw8).trans y0
   have z0 : w9.cell? ⟨w.heap.size + 1, 0, none⟩ = _ := (b9.cell (p := ⟨w.heap.size + 1, 0, none⟩) hlqw8).trans z0
   have f0 : w9.cell? ⟨g, o, none⟩ = _ := (b9.cell (p := ⟨g, o, none⟩) hlgw8).trans f0
   have f1 : w9.cell? ⟨g, o + 1, none⟩ = _ := (b9.cell (p := ⟨g, o + 1, none⟩) hlgw8).trans f1
   have f2 : w9.cell? ⟨g, o + 2, none⟩ = _ := (b9.cell (p := ⟨g, o + 2, none⟩) hlgw8).trans f2
   have f3 : w9.cell? ⟨g, o + 3, none⟩ = _ := (b9.cell (p := ⟨g, o + 3, none⟩) hlgw8).trans f3
   have g0 : w9.cell? ⟨gb, ob, none⟩ = _ := (b9.cell (p := ⟨gb, ob, none⟩) hlbw8).trans g0
   have g1 : w9.cell? ⟨gb, ob + 1, none⟩ = _ := (b9.cell (p := ⟨gb, ob + 1, none⟩) hlbw8).trans g1
   have g2 : w9.cell? ⟨gb, ob + 2, none⟩ = _ := (b9.cell (p := ⟨gb, ob + 2, none⟩) hlbw8).trans g2
   have g3 : w9.cell? ⟨gb, ob + 3, none⟩ = _ := (b9.cell (p := ⟨gb, ob + 3, none⟩) hlbw8).trans g3
   repeat (first | (refine SeqC.take (v := ?_) rfl (by rfl) (fun W hW => ?_) ?_; rotate_left; (focus (have qy0 := hW.get (by simp) y0; have qz0 := hW.get (by simp) z0; have qf0 := hW.get (by simp) f0; have qf1 := hW.get (by simp) f1; have qf2 := hW.get (by simp) f2; have qf3 := hW.get (by simp) f3; have qg0 := hW.get (by simp) g0; have qg1 := hW.get (by simp) g1; have qg2 := hW.get (by simp) g2; have qg3 := hW.get (by simp) g3; go_simp; with_reducible rfl)); simp only [Act.put, apu, apw, apx]) | (refine SeqC.skip rfl (by rfl) ?_; simp only [Act.put, apu, apw, apx]))
   refine SeqC.call (f := ?_) (args := ?_) rfl (by rfl) ?_ ?_
   rotate_left 2
   ·(go_simp; first | with_reducible rfl | (refine ⟨?_, ?_⟩ <;> with_reducible rfl))
   refine (HAL.out _ Bw9).mono ?_
   rintro e wa ⟨rfl, ba⟩
   refine ⟨_, rfl, Cells.lX ba (by intro p hp; simp only [apA, apz, or_false] at hp; rcases hp with rfl | rfl | rfl | rfl | rfl | rfl | rfl | rfl | rfl | rfl <;> first | exact hlpw9 | exact hlqw9 | exact hlgw9 | exact hlbw9), ?_⟩
   simp only [Act.put, apu, apw, apx]
   have Bwa := Bw9.trans (ba.mono Bw9.size)
   have hlpwa := apv hlpw9 ba.size
   have hlqwa := apv hlqw9 ba.size
   have hlgwa := apv hlgw9 ba.size
   have hlbwa := apv hlbw9 ba.size
   have y0 : wa.cell? ⟨w.heap.size, 0, none⟩ = _ := (ba.cell (p := ⟨w.heap.size, 0, none⟩) hlpw9).trans y0
   have z0 : wa.cell? ⟨w.heap.size + 1, 0, none⟩ = _ := (ba.cell (p := ⟨w.heap.size + 1, 0, none⟩) hlqw9).trans z0
   have f0 : wa.cell? ⟨g, o, none⟩ = _ := (ba.cell (p := ⟨g, o, none⟩) hlgw9).trans f0
   have f1 : wa.cell? ⟨g, o + 1, none⟩ = _ := (ba.cell (p := ⟨g, o + 1, none⟩) hlgw9).trans f1
   have f2 : wa.cell? ⟨g, o + 2, none⟩ = _ := (ba.cell (p := ⟨g, o + 2, none⟩) hlgw9).trans f2
   have f3 : wa.cell? ⟨g, o + 3, none⟩ = _ := (ba.cell (p := ⟨g, o + 3, none⟩) hlgw9).trans f3
   have g0 : wa.cell? ⟨gb, ob, none⟩ = _ := (ba.cell (p := ⟨gb, ob, none⟩) hlbw9).trans g0
   have g1 : wa.cell? ⟨gb, ob + 1, none⟩ = _ := (ba.cell (p := ⟨gb, ob + 1, none⟩) hlbw9).trans g1
   have g2 : wa.cell? ⟨gb, ob + 2, none⟩ = _ := (ba.cell (p := ⟨gb, ob + 2, none⟩) hlbw9).trans g2
   have g3 : wa.cell? ⟨gb, ob + 3, none⟩ = _ := (ba.cell (p := ⟨gb, ob + 3, none⟩) hlbw9).trans g3
   repeat (first | (refine SeqC.take (v := ?_) rfl (by rfl) (fun W hW => ?_) ?_; rotate_left; (focus (have qy0 := hW.get (by simp) y0; have qz0 := hW.get (by simp) z0; have qf0 := hW.get (by simp) f0; have qf1 := hW.get (by simp) f1; have qf2 := hW.get (by simp) f2; have qf3 := hW.get (by simp) f3; have qg0 := hW.get (by simp) g0; have qg1 := hW.get (by simp) g1; have qg2 := hW.get (by simp) g2; have qg3 := hW.get (by simp) g3; go_simp; with_reducible rfl)); simp only [Act.put, apu, apw, apx]) | (refine SeqC.skip rfl (by rfl) ?_; simp only [Act.put, apu, apw, apx]))
   refine SeqC.done ?_
   clear y0 z0 f0 f1 f2 f3 g0 g1 g2 g3
   go_wp2_with fail
   go_ret
   exact ⟨rfl, Bwa⟩)
 ·have hxy := hnm hnm1
  have hnm2 : (n == m) = false := by simpa using hnm1
  have hxy2 : (lx == ly) = false := by simpa using hxy
  by_cases hab : la = lb
  all_goals (
   first | (subst hab; rw [decide_eq_true rfl] at hs8) | (rw [decide_eq_false hab] at hs8; have hab2 : (la == lb) = false := by simpa using hab)
   have HS8 := Lib.hid hs8
   clear hs7 hs8 hnm
   refine bZ [⟨w.heap.size, 0, none⟩, ⟨w.heap.size + 1, 0, none⟩, ⟨g, o, none⟩, ⟨g, o + 1, none⟩, ⟨g, o + 2, none⟩, ⟨g, o + 3, none⟩, ⟨gb, ob, none⟩, ⟨gb, ob + 1, none⟩, ⟨gb, ob + 2, none⟩, ⟨gb, ob + 3, none⟩] [(0, true), (1, true), (2, true), (3, true), (4, true), (5, true), (6, true), (7, true), (8, true), (9, true), (10, true), (11, true), (12, true), (13, true), (14, true), (15, true), (16, true), (17, true), (18, true), (19, true), (20, false), (21, true), (22, true), (23, true), (24, true), (25, true), (26, true), (27, true), (28, true), (29, true), (30, true), (31, true), (32, true), (33, true), (34, true), (35, true), (36, true), (37, true), (38, true), (39, false), (40, true), (41, true), (42, true), (43, true), (44, false), (45, true), (46, true)] (by kernel_rfl) (by kernel_rfl) (by decide) (by kernel_rfl) (fun _ _ _ _ _ h => h) ?_
   have Bw7 := HB6.out.drew
   have hlpw7 := hlp
   have hlqw7 := hlq
   have hlgw7 := hlg
   have hlbw7 := hlb
   have y0 : w6.drew.cell? ⟨w.heap.size, 0, none⟩ = _ := y0
   have z0 : w6.drew.cell? ⟨w.heap.size + 1, 0, none⟩ = _ := z0
   have f0 : w6.drew.cell? ⟨g, o, none⟩ = _ := f0
   have f1 : w6.drew.cell? ⟨g, o + 1, none⟩ = _ := f1
   have f2 : w6.drew.cell? ⟨g, o + 2, none⟩ = _ := f2
   have f3 : w6.drew.cell? ⟨g, o + 3, none⟩ = _ := f3
   have g0 : w6.drew.cell? ⟨gb, ob, none⟩ = _ := g0
   have g1 : w6.drew.cell? ⟨gb, ob + 1, none⟩ = _ := g1
   have g2 : w6.drew.cell? ⟨gb, ob + 2, none⟩ = _ := g2
   have g3 : w6.drew.cell? ⟨gb, ob + 3, none⟩ = _ := g3
   change Below w.heap.size w w6.drew at Bw7
   have hsz : w6.drew.heap.size = w6.heap.size := rfl
   rw [<- hsz] at hlpw7 hlqw7 hlgw7 hlbw7
   generalize w6.drew = w7 at *
   repeat (first | (refine SeqC.take (v := ?_) rfl (by rfl) (fun W hW => ?_) ?_; rotate_left; (focus (have qy0 := hW.get (by simp) y0; have qz0 := hW.get (by simp) z0; have qf0 := hW.get (by simp) f0; have qf1 := hW.get (by simp) f1; have qf2 := hW.get (by simp) f2; have qf3 := hW.get (by simp) f3; have qg0 := hW.get (by simp) g0; have qg1 := hW.get (by simp) g1; have qg2 := hW.get (by simp) g2; have qg3 := hW.get (by simp) g3; go_simp; with_reducible rfl)); simp only [Act.put, apu, apw, apx]) | (refine SeqC.skip rfl (by rfl) ?_; simp only [Act.put, apu, apw, apx]))
   refine SeqC.call (f := ?_) (args := ?_) rfl (by rfl) ?_ ?_
   rotate_left 2
   ·(go_simp; first | with_reducible rfl | (refine ⟨?_, ?_⟩ <;> with_reducible rfl))
   refine (HS8.out _ Bw7).mono ?_
   rintro e w8 ⟨rfl, b8⟩
   refine ⟨_, rfl, Cells.lX b8 (by intro p hp; simp only [apA, apz, or_false] at hp; rcases hp with rfl | rfl | rfl | rfl | rfl | rfl | rfl | rfl | rfl | rfl <;> first | exact hlpw7 | exact hlqw7 | exact hlgw7 | exact hlbw7), ?_⟩
   simp only [Act.put, apu, apw, apx]
   have Bw8 := Bw7.trans (b8.mono Bw7.size)
   have hlpw8 := apv hlpw7 b8.size
   have hlqw8 := apv hlqw7 b8.size
   have hlgw8 := apv hlgw7 b8.size
   have hlbw8 := apv hlbw7 b8.size
   have y0 : w8.cell? ⟨w.heap.size, 0, none⟩ = _ := (b8.cell (p := ⟨w.heap.size, 0, none⟩) hlpw7).trans y0
   have z0 : w8.cell? ⟨w.heap.size + 1, 0, none⟩ = _ := (b8.cell (p := ⟨w.heap.size + 1, 0, none⟩) hlqw7).trans z0
   have f0 : w8.cell? ⟨g, o, none⟩ = _ := (b8.cell (p := ⟨g, o, none⟩) hlgw7).trans f0
   have f1 : w8.cell? ⟨g, o + 1, none⟩ = _ := (b8.cell (p := ⟨g, o + 1, none⟩) hlgw7).trans f1
   have f2 : w8.cell? ⟨g, o + 2, none⟩ = _ := (b8.cell (p := ⟨g, o + 2, none⟩) hlgw7).trans f2
   have f3 : w8.cell? ⟨g, o + 3, none⟩ = _ := (b8.cell (p := ⟨g, o + 3, none⟩) hlgw7).trans f3
   have g0 : w8.cell? ⟨gb, ob, none⟩ = _ := (b8.cell (p := ⟨gb, ob, none⟩) hlbw7).trans g0
   have g1 : w8.cell? ⟨gb, ob + 1, none⟩ = _ := (b8.cell (p := ⟨gb, ob + 1, none⟩) hlbw7).trans g1
   have g2 : w8.cell? ⟨gb, ob + 2, none⟩ = _ := (b8.cell (p := ⟨gb, ob + 2, none⟩) hlbw7).trans g2
   have g3 : w8.cell? ⟨gb, ob + 3, none⟩ = _ := (b8.cell (p := ⟨gb, ob + 3, none⟩) hlbw7).trans g3
   repeat (first | (refine SeqC.take (v := ?_) rfl (by rfl) (fun W hW => ?_) ?_; rotate_left; (focus (have qy0 := hW.get (by simp) y0; have qz0 := hW.get (by simp) z0; have qf0 := hW.get (by simp) f0; have qf1 := hW.get (by simp) f1; have qf2 := hW.get (by simp) f2; have qf3 := hW.get (by simp) f3; have qg0 := hW.get (by simp) g0; have qg1 := hW.get (by simp) g1; have qg2 := hW.get (by simp) g2; have qg3 := hW.get (by simp) g3; go_simp; with_reducible rfl)); simp only [Act.put, apu, apw, apx]) | (refine SeqC.skip rfl (by rfl) ?_; simp only [Act.put, apu, apw, apx]))
   refine SeqC.pass rfl (by rfl) ?_; simp only [Act.put, apu, apw, apx]
   repeat (first | (refine SeqC.take (v := ?_) rfl (by rfl) (fun W hW => ?_) ?_; rotate_left; (focus (have qy0 := hW.get (by simp) y0; have qz0 := hW.get (by simp) z0; have qf0 := hW.get (by simp) f0; have qf1 := hW.get (by simp) f1; have qf2 := hW.get (by simp) f2; have qf3 := hW.get (by simp) f3; have qg0 := hW.get (by simp) g0; have qg1 := hW.get (by simp) g1; have qg2 := hW.get (by simp) g2; have qg3 := hW.get (by simp) g3; go_simp; with_reducible rfl)); simp only [Act.put, apu, apw, apx]) | (refine SeqC.skip rfl (by rfl) ?_; simp only [Act.put, apu, apw, apx]))
   refine SeqC.call (f := ?_) (args := ?_) rfl (by rfl) ?_ ?_
   rotate_left 2
   ·(go_simp; first | with_reducible rfl | (refine ⟨?_, ?_⟩ <;> with_reducible rfl))
   refine (HAL.out _ Bw8).mono ?_
   rintro e wa ⟨rfl, ba⟩
   refine ⟨_, rfl, Cells.lX ba (by intro p hp; simp only [apA, apz, or_false] at hp; rcases hp with rfl | rfl | rfl | rfl | rfl | rfl | rfl | rfl | rfl | rfl <;> first | exact hlpw8 | exact hlqw8 | exact hlgw8 | exact hlbw8), ?_⟩
   simp only [Act.put, apu, apw, apx]
   have Bwa := Bw8.trans (ba.mono Bw8.size)
   have hlpwa := apv hlpw8 ba.size
   have hlqwa := apv hlqw8 ba.size
   have hlgwa := apv hlgw8 ba.size
   have hlbwa := apv hlbw8 ba.size
   have y0 : wa.cell? ⟨w.heap.size, 0, none⟩ = _ := (ba.cell (p := ⟨w.heap.size, 0, none⟩) hlpw8).trans y0
   have z0 : wa.cell? ⟨w.heap.size + 1, 0, none⟩ = _ := (ba.cell (p := ⟨w.heap.size + 1, 0, none⟩) hlqw8).trans z0
   have f0 : wa.cell? ⟨g, o, none⟩ = _ := (ba.cell (p := ⟨g, o, none⟩) hlgw8).trans f0
   have f1 : wa.cell? ⟨g, o + 1, none⟩ = _ := (ba.cell (p := ⟨g, o + 1, none⟩) hlgw8).trans f1
   have f2 : wa.cell? ⟨g, o + 2, none⟩ = _ := (ba.cell (p := ⟨g, o + 2, none⟩) hlgw8).trans f2
   have f3 : wa.cell? ⟨g, o + 3, none⟩ = _ := (ba.cell (p := ⟨g, o + 3, none⟩) hlgw8).trans f3
   have g0 : wa.cell? ⟨gb, ob, none⟩ = _ := (ba.cell (p := ⟨gb, ob, none⟩) hlbw8).trans g0
   have g1 : wa.cell? ⟨gb, ob + 1, none⟩ = _ := (ba.cell (p := ⟨gb, ob + 1, none⟩) hlbw8).trans g1
   have g2 : wa.cell? ⟨gb, ob + 2, none⟩ = _ := (ba.cell (p := ⟨gb, ob + 2, none⟩) hlbw8).trans g2
   have g3 : wa.cell? ⟨gb, ob + 3, none⟩ = _ := (ba.cell (p := ⟨gb, ob + 3, none⟩) hlbw8).trans g3
   repeat (first | (refine SeqC.take (v := ?_) rfl (by rfl) (fun W hW => ?_) ?_; rotate_left; (focus (have qy0 := hW.get (by simp) y0; have qz0 := hW.get (by simp) z0; have qf0 := hW.get (by simp) f0; have qf1 := hW.get (by simp) f1; have qf2 := hW.get (by simp) f2; have qf3 := hW.get (by simp) f3; have qg0 := hW.get (by simp) g0; have qg1 := hW.get (by simp) g1; have qg2 := hW.get (by simp) g2; have qg3 := hW.get (by simp) g3; go_simp; with_reducible rfl)); simp only [Act.put, apu, apw, apx]) | (refine SeqC.skip rfl (by rfl) ?_; simp only [Act.put, apu, apw, apx]))
   refine SeqC.done ?_
   clear y0 z0 f0 f1 f2 f3 g0 g1 g2 g3
   go_wp2_with fail
   go_ret
   exact ⟨rfl, Bwa⟩)
end prg
end Go.Proofs.YtglmonlofejcgaaGreatDoor
