/- TextFuncs: the law answers true for every function, number and point. -/
import Derived.Test.YtglmonlofejcgaaGreatDoorTextS
set_option linter.unusedVariables false
namespace Go.Proofs.YtglmonlofejcgaaGreatDoor.txt
open Go.RowKit Am loan bld
def akB (w : World) (e : Ending) (w' : World) : Prop := e = .returned (.bool true) /\ Below w.heap.size w w'
set_option maxHeartbeats 4000000 in
set_option maxRecDepth 100000 in
theorem ad2 {w : World} {v : Value} {D : FnD} (h : aT w v D) {n x y : Int} (hg : great.wE D = true) : Calls Tryz.prog 3 #[v, .int .i64 n, .agg #[.int .i64 x, .int .i64 y]] w (akB w) := by
 have hG := fun w1 (hb : Below w.heap.size w w1) => a1H (h.frz hb.block)
 rw [hg] at hG
 rw [h.eq] at hG |-
 have HG := Lib.hid hG
 clear hG h hg
 have b0 : Below w.heap.size w ((w.alloc (.cells #[.int .i64 D.p, .bool D.u, D.lv, D.bv] tFn)).alloc (.cells #[.int .i64 x, .int .i64 y] tPt)) := ((Below.refl _ _).alloc (Nat.le_refl _) _).alloc (by simp) _
 go_enter Tryz.func3, Tryz.ntmps3
 go_wp2_with (go_at_call 7; refine (HG.out _ b0).mono ?_; rintro e w1 ⟨rfl, b1⟩)
 go_ret
 exact ⟨rfl, b0.trans (b1.mono b0.size)⟩
structure Both (w : World) (v : Value) (D : FnD) (n x y : Int) (l : List UInt8) (e m i : Int) : Prop where
 a : ∀ {w1 : World} {v1 : Value} {D1 : FnD}, Below w.heap.size w w1 -> aT w1 v1 D1 -> D1.core = D.core -> Calls Tryz.prog 9 #[v1, .int .i64 n] w1 (Oa l e w1)
 b : ∀ {w1 : World}, Below w.heap.size w w1 -> Calls Tryz.prog 10 #[v, .int .i64 n] w1 (Oa l e w1)
 c : ∀ {w1 : World} {v1 : Value} {D1 : FnD}, Below w.heap.size w w1 -> aT w1 v1 D1 -> D1.core = D.core -> Calls Tryz.prog 11 #[v1, .agg #[.int .i64 x, .int .i64 y]] w1 (Hz m i w1)
 d : ∀ {w1 : World}, Below w.heap.size w w1 -> Calls Tryz.prog 12 #[v, .agg #[.int .i64 x, .int .i64 y]] w1 (Hz m i w1)
structure TF (w : World) (D D1 : FnD) (H : Nat) (x y : Int) (W : World) : Prop where
 b : Below w.heap.size w W
 f : Box W w.heap.size tFn (.int .i64 D.p) (.bool D.u) D.lv D.bv
 p : W.heap[w.heap.size + 1]? = some (.cells #[.int .i64 x, .int .i64 y] tPt (0, 0))
 o : Box W H tFn (.int .i64 D1.p) (.bool D1.u) D1.lv D1.bv
 k : aT W (.agg #[.int .i64 D1.p, .bool D1.u, D1.lv, D1.bv]) D1
theorem TF.below {w W W' : World} {D D1 : FnD} {H : Nat} {x y : Int} (h : TF w D D1 H x y W) (hb : Below W.heap.size W W') : TF w D D1 H x y W' :=
 ⟨h.b.trans (hb.mono h.b.size), h.f.below hb, (hb.block _ (Array.getElem?_eq_some_iff.1 h.p).1).trans h.p, h.o.below hb, h.k.frz hb.block⟩
set_option maxHeartbeats 8000000 in
set_option maxRecDepth 100000 in
theorem ahV {w : World} {v : Value} {D : FnD} (h : aT w v D) {n x y : Int} (hg : great.wE D = false) {l : List UInt8} {e m i : Int} (hB : Both w v D n x y l e m i) : Calls Tryz.prog 3 #[v, .int .i64 n, .agg #[.int .i64 x, .int .i64 y]] w (akB w) := by
 have hl := ajH hg
 have hG := fun w1 (hb : Below w.heap.size w w1) => a1H (h.frz hb.block)
 rw [hg] at hG
 have hT := fun w1 (hb : Below w.heap.size w w1) => aje (h.frz hb.block) hl
 have HB := Lib.hid hB
 have HH := Lib.hid h
 have hSb := fun {w1 : World} (hb : Below w.heap.size w w1) => hB.b hb
 have hSd := fun {w1 : World} (hb : Below w.heap.size w w1) => hB.d hb
 have hSs := fun {w1 : World} {v1 : Value} {D1 : FnD} (hb : Below w.heap.size w w1) (h1 : aT w1 v1 D1) (hc : D1.core = D.core) => akC (h.frz hb.block) h1 hc hl
 rw [h.eq] at hG hT hSb hSd hSs |-
 have HG := Lib.hid hG
 have HT := Lib.hid hT
 have HSB := Lib.hid (fun (w1 : World) (hb : Below w.heap.size w w1) => hSb hb)
 have HSD := Lib.hid (fun (w1 : World) (hb : Below w.heap.size w w1) => hSd hb)
 have HSS := Lib.hid (fun (w1 : World) (v1 : Value) (D1 : FnD) (hb : Below w.heap.size w w1) (h1 : aT w1 v1 D1) (hc : D1.core = D.core) => hSs hb h1 hc)
 clear hG hT hSb hSd hSs h hg hl hB
 obtain ⟨w0, hw0⟩ : ∃ w0, w0 = (w.alloc (.cells #[.int .i64 D.p, .bool D.u, D.lv, D.bv] tFn)).alloc (.cells #[.int .i64 x, .int .i64 y] tPt) := ⟨_, rfl⟩
 have b0 : Below w.heap.size w w0 := by rw [hw0]; exact ((Below.refl _ _).alloc (Nat.le_refl _) _).alloc (by simp) _
 have B0 : Box w0 w.heap.size tFn (.int .i64 D.p) (.bool D.u) D.lv D.bv := by rw [hw0]; exact (Box.mk rfl).more
 have P0 : w0.heap[w.heap.size + 1]? = some (.cells #[.int .i64 x, .int .i64 y] tPt (0, 0)) := by rw [hw0]; exact cu (by simp)
 go_enter Tryz.func3, Tryz.ntmps3
 go_upto_region 3 with (rw [<- hw0]; go_at_call 7; refine (HG.out _ b0).mono ?_; rintro e1 w1 ⟨rfl, b1⟩)
 have b01 := b0.trans (b1.mono b0.size)
 have B1 := B0.below b1
 have P1 := (b1.block _ (Array.getElem?_eq_some_iff.1 P0).1).trans P0
 obtain ⟨y0, y1, y2, y3⟩ := B1.cells
 have HB1 := Lib.hid b01
 have HX1 := Lib.hid B1
 have HP1 := Lib.hid P1
 clear hw0 b0 b1 b01 B0 P0 B1 P1 HG
 go_upto_region 4 with (go_at_call 8; refine (HT.out _ HB1.out).mono ?_; rintro e2 w2 ⟨v1, D1, rfl, hf, hc, b2⟩; obtain rfl := hf.eq; obtain ⟨A1, c1, q1⟩ := hf.locals.sl; obtain ⟨A2, c2, q2⟩ := hf.blocks.sl; rw [List.length_map] at q2; have HQ1 := Lib.hid q1; have HQ2 := Lib.hid q2; rw [q1, q2]; clear q1 q2)
 have T3 := Lib.hid (show TF w D D1 w2.heap.size x y (w2.alloc (.cells #[.int .i64 D1.p, .bool D1.u, .slice A1 D1.ls.length c1, .slice A2 D1.bs.length c2] tFn)) from by
  rw [<- HQ1.out, <- HQ2.out]
  exact ⟨(HB1.out.trans (b2.mono HB1.out.size)).alloc (by have := HB1.out.size; have := b2.size; omega) _, (HX1.out.below b2).more, oH ((b2.block _ (Array.getElem?_eq_some_iff.1 HP1.out).1).trans HP1.out), Box.mk rfl, hf.frz fun k hk => Lib.alloc_old _ _ k hk⟩)
 have HCC := Lib.hid hc
 clear b2 hf hc y0 y1 y2 y3 HT HB1 HX1 HP1
 generalize w2.heap.size = H at *
 generalize w2.alloc (.cells #[.int .i64 D1.p, .bool D1.u, .slice A1 D1.ls.length c1, .slice A2 D1.bs.length c2] tFn) = w3 at *
 obtain ⟨y0, y1, y2, y3⟩ := T3.out.f.cells
 obtain ⟨z0, z1, z2, z3⟩ := T3.out.o.cells
 have p0 : w3.cell? ⟨w.heap.size + 1, 0, none⟩ = some (.int .i64 x) := by rw [cell_of_row w3 _ 0 _ tPt (0, 0) T3.out.p]; rfl
 have p1 : w3.cell? ⟨w.heap.size + 1, 1, none⟩ = some (.int .i64 y) := by rw [cell_of_row w3 _ 1 _ tPt (0, 0) T3.out.p]; rfl
 go_upto_region 5 with (go_at_call 9; refine (HB.out.a T3.out.b T3.out.k HCC.out).mono ?_; rintro e3 w4 ⟨rfl, b4⟩)
 have T4 := Lib.hid (T3.out.below b4)
 clear y0 y1 y2 y3 z0 z1 z2 z3 p0 p1 b4 T3
 obtain ⟨y0, y1, y2, y3⟩ := T4.out.f.cells
 obtain ⟨z0, z1, z2, z3⟩ := T4.out.o.cells
 have p0 : w4.cell? ⟨w.heap.size + 1, 0, none⟩ = some (.int .i64 x) := by rw [cell_of_row w4 _ 0 _ tPt (0, 0) T4.out.p]; rfl
 have p1 : w4.cell? ⟨w.heap.size + 1, 1, none⟩ = some (.int .i64 y) := by rw [cell_of_row w4 _ 1 _ tPt (0, 0) T4.out.p]; rfl
 go_upto_region 6 with (go_at_call 10; refine (HSB.out _ T4.out.b).mono ?_; rintro e4 w5 ⟨rfl, b5⟩)
 have T5 := Lib.hid (T4.out.below b5)
 clear y0 y1 y2 y3 z0 z1 z2 z3 p0 p1 b5 T4
 obtain ⟨y0, y1, y2, y3⟩ := T5.out.f.cells
 obtain ⟨z0, z1, z2, z3⟩ := T5.out.o.cells
 have p0 : w5.cell? ⟨w.heap.size + 1, 0, none⟩ = some (.int .i64 x) := by rw [cell_of_row w5 _ 0 _ tPt (0, 0) T5.out.p]; rfl
 have p1 : w5.cell? ⟨w.heap.size + 1, 1, none⟩ = some (.int .i64 y) := by rw [cell_of_row w5 _ 1 _ tPt (0, 0) T5.out.p]; rfl
 go_upto_region 7 with (go_at_call 11; refine (HB.out.c T5.out.b T5.out.k HCC.out).mono ?_; rintro e5 w6 ⟨rfl, b6⟩)
 have T6 := Lib.hid (T5.out.below b6)
 clear y0 y1 y2 y3 z0 z1 z2 z3 p0 p1 b6 T5
 obtain ⟨y0, y1, y2, y3⟩ := T6.out.f.cells
 obtain ⟨z0, z1, z2, z3⟩ := T6.out.o.cells
 have p0 : w6.cell? ⟨w.heap.size + 1, 0, none⟩ = some (.int .i64 x) := by rw [cell_of_row w6 _ 0 _ tPt (0, 0) T6.out.p]; rfl
 have p1 : w6.cell? ⟨w.heap.size + 1, 1, none⟩ = some (.int .i64 y) := by rw [cell_of_row w6 _ 1 _ tPt (0, 0) T6.out.p]; rfl
 go_upto_region 8 with (go_at_call 12; refine (HSD.out _ T6.out.b).mono ?_; rintro e6 w7 ⟨rfl, b7⟩)
 have T7 := Lib.hid (T6.out.below b7)
 clear y0 y1 y2 y3 z0 z1 z2 z3 p0 p1 b7 T6
 obtain ⟨y0, y1, y2, y3⟩ := T7.out.f.cells
 obtain ⟨z0, z1, z2, z3⟩ := T7.out.o.cells
 have p0 : w7.cell? ⟨w.heap.size + 1, 0, none⟩ = some (.int .i64 x) := by rw [cell_of_row w7 _ 0 _ tPt (0, 0) T7.out.p]; rfl
 have p1 : w7.cell? ⟨w.heap.size + 1, 1, none⟩ = some (.int .i64 y) := by rw [cell_of_row w7 _ 1 _ tPt (0, 0) T7.out.p]; rfl
 go_wp2_with (go_at_call 13; refine (HSS.out _ _ D1 T7.out.b T7.out.k HCC.out).mono ?_; rintro e7 w8 ⟨rfl, b8⟩)
 go_ret
 exact ⟨rfl, T7.out.b.trans (b8.mono T7.out.b.size)⟩
theorem rX {D D1 : FnD} (h : D1.core = D.core) : check.oV D1 = check.oV D := by rw [<- Uc D1, h, Uc D]
theorem aaV {w : World} {v : Value} {D : FnD} (h : aT w v D) (kt : gq w) (n : Int) : ∃ l e, (∀ {w1 : World} {v1 : Value} {D1 : FnD}, Below w.heap.size w w1 -> aT w1 v1 D1 -> D1.core = D.core -> Calls Tryz.prog 9 #[v1, .int .i64 n] w1 (Oa l e w1)) /\
  ∀ {w1 : World}, Below w.heap.size w w1 -> Calls Tryz.prog 10 #[v, .int .i64 n] w1 (Oa l e w1) := by
 by_cases hc : check.oV D = 0
 ·by_cases hn : n < 0 \/ 8 <= n
  ·exact ⟨[], 2, fun hb h1 e => a9V h1 hn (by have := Vm h1; rwa [rX e, hc] at this), fun hb => a2L (h.frz hb.block) hn (by have := VI (h.frz hb.block); rwa [hc] at this)⟩
  ·have h0 : 0 <= n := by omega
   have h8 : n < 8 := by omega
   refine ⟨textF D n, 0, fun {w1 v1 D1} hb h1 e => ?_, fun {w1} hb => ?_⟩
   ·have hc1 : check.oV D1 = 0 := (rX e).trans hc
    rw [<- a3E e]
    exact ajo h1 (Tf h1 hc1) (agR h1 (qg kt hb) hc1) h0 h8 (by have := Vm h1; rwa [hc1] at this)
   ·exact agx (h.frz hb.block) (Tf h hc) (agS (h.frz hb.block) (qg kt hb) hc) h0 h8 (by have := VI (h.frz hb.block); rwa [hc] at this)
 ·exact ⟨[], check.oV D, fun hb h1 e => a9M h1 hc (by have := Vm h1; rwa [rX e] at this), fun hb => a5X (h.frz hb.block) hc (VI (h.frz hb.block))⟩
theorem aeT {w : World} {v : Value} {D : FnD} (h : aT w v D) (x y : Int) : ∃ m i, (∀ {w1 : World} {v1 : Value} {D1 : FnD}, Below w.heap.size w w1 -> aT w1 v1 D1 -> D1.core = D.core -> Calls Tryz.prog 11 #[v1, .agg #[.int .i64 x, .int .i64 y]] w1 (Hz m i w1)) /\
  ∀ {w1 : World}, Below w.heap.size w w1 -> Calls Tryz.prog 12 #[v, .agg #[.int .i64 x, .int .i64 y]] w1 (Hz m i w1) := by
 by_cases hc : check.oV D = 0
 ·have hL := Tf h hc
  have hC : ∀ {w1 : World} {v1 : Value} {D1 : FnD}, aT w1 v1 D1 -> D1.core = D.core -> kK 21 w1 v1 0 := fun h1 e => by have := Vm h1; rwa [rX e, hc] at this
  have hR : ∀ {w1 : World}, Below w.heap.size w w1 -> kK 24 w1 v 0 := fun hb => by have := VI (h.frz hb.block); rwa [hc] at this
  have hLs : ∀ {w1 : World} {v1 : Value} {D1 : FnD}, aT w1 v1 D1 -> D1.core = D.core -> Lim D1 := fun h1 e => Tf h1 ((rX e).trans hc)
  by_cases hin : ∃ pb pi : Nat, x = (pb : Int) /\ y = (pi : Int) /\ pb < D.bs.length /\ pi <= lY D.bs pb
  ·obtain ⟨pb, pi, rfl, rfl, h1, h2⟩ := hin
   have hst := vH (DZ hL.s) pb
   have hb24 := hL.b
   have hl24 := DZ hL.s pb
   have hnl := hL.l
   have hA : ∀ {w1 : World}, Below w.heap.size w w1 -> Calls Tryz.prog 27 #[v, .agg #[.int .i64 (pb : Int), .int .i64 (pi : Int)]] w1 (bld.Ans w1 (.int .i64 ((dF D.bs pb + pi : Nat) : Int))) := fun {w1} hb => by
    refine aiA (h.frz hb.block) hL (dF D.bs pb + pi) (fun m p hm hp => ?_) (.inl ⟨_, YF h1 h2, rfl, rfl, rfl⟩)
    rintro ⟨q1, q2⟩
    have hml := (List.getElem?_eq_some_iff.1 hp).1
    rw [BL] at hml
    obtain ⟨i, k, hi, hk, hmk⟩ := aiq hml
    rw [hmk, YF hi hk] at hp
    cases hp
    have e1 : i = pb := by exact_mod_cast q1
    have e2 : k = pi := by exact_mod_cast q2
    subst e1 e2
    omega
   refine ⟨((D.ls.length + 2 + pi + dF D.bs pb + pb : Nat) : Int), 0, fun {w1 v1 D1} hb k1 e => ?_, fun {w1} hb => ?_⟩
   ·obtain ⟨_, _, e3, e4⟩ := Ip e
    have := ahj k1 (hLs k1 e) (hC k1 e) (pb := pb) (pi := pi) (by rw [xE e4]; exact h1) (by rw [EW e4]; exact h2)
    rwa [e3, Js (EW e4)] at this
   ·have := ahG (h.frz hb.block) hL (x := (pb : Int)) (y := (pi : Int)) (r := ((dF D.bs pb + pi : Nat) : Int)) (by omega) (by omega) (by omega) (by omega) (fun w2 hb2 => a0n (h.frz (hb.trans (hb2.mono hb.size)).block) (hR (hb.trans (hb2.mono hb.size))) (fun w3 hb3 => hA ((hb.trans (hb2.mono hb.size)).trans (hb3.mono (hb.trans (hb2.mono hb.size)).size))) (.inr ⟨by omega, rfl⟩)) (fun w2 hb2 => hA (hb.trans (hb2.mono hb.size)))
    rwa [show (1 : Int) + (D.ls.length : Int) + ((dF D.bs pb + pi : Nat) : Int) + (pb : Int) + 1 = ((D.ls.length + 2 + pi + dF D.bs pb + pb : Nat) : Int) from by omega] at this
  ·have hA : ∀ {w1 : World}, Below w.heap.size w w1 -> Calls Tryz.prog 27 #[v, .agg #[.int .i64 x, .int .i64 y]] w1 (bld.Ans w1 (.int .i64 (-1))) := fun {w1} hb => by
    refine aiA (h.frz hb.block) hL (lg D.bs D.bs.length).length (fun m p hm hp => ?_) (.inr ⟨rfl, rfl⟩)
    rintro ⟨q1, q2⟩
    rw [BL] at hm
    obtain ⟨i, k, hi, hk, hmk⟩ := aiq hm
    rw [hmk, YF hi hk] at hp
    cases hp
    exact hin ⟨i, k, q1.symm, q2.symm, hi, hk⟩
   refine ⟨0, 2, fun {w1 v1 D1} hb k1 e => ?_, fun {w1} hb => ?_⟩
   ·obtain ⟨_, _, e3, e4⟩ := Ip e
    have hL1 := hLs k1 e
    have hC1 := hC k1 e
    by_cases h0 : x < 0
    ·exact agE k1 hL1 hC1 h0
    ·by_cases hx : (D1.bs.length : Int) <= x
     ·exact agW k1 hL1 hC1 (by omega) hx
     ·obtain ⟨pb, rfl⟩ : ∃ pb : Nat, x = (pb : Int) := ⟨x.toNat, by omega⟩
      have hpb : pb < D1.bs.length := by omega
      by_cases hy : y < 0
      ·exact ag2 k1 hL1 hC1 hpb hy
      ·by_cases hy2 : (lY D1.bs pb : Int) < y
       ·exact aif k1 hL1 hC1 hpb hy2
       ·exfalso
        refine hin ⟨pb, y.toNat, rfl, by omega, by rw [<- xE e4]; exact hpb, ?_⟩
        rw [<- EW e4]
        omega
   ·exact Ui (h.frz hb.block) (by decide) (fun w2 hb2 => a0n (h.frz (hb.trans (hb2.mono hb.size)).block) (hR (hb.trans (hb2.mono hb.size))) (fun w3 hb3 => hA ((hb.trans (hb2.mono hb.size)).trans (hb3.mono (hb.trans (hb2.mono hb.size)).size))) (.inl ⟨by decide, rfl⟩))
 ·exact ⟨0, check.oV D, fun hb h1 e => a9P h1 hc (by have := Vm h1; rwa [rX e] at this), fun {w1} hb => Ui (h.frz hb.block) hc (fun w2 hb2 => a6o (h.frz (hb.trans (hb2.mono hb.size)).block) hc (VI (h.frz (hb.trans (hb2.mono hb.size)).block)))⟩
theorem agu {w : World} {v v1 v2 : Value} {D : FnD} (h : aT w v D) (kt : gq w) (hn : Kd.ok (.i .i64) v1) (hp : ∃ x y : Int, v2 = .agg #[.int .i64 x, .int .i64 y]) : Calls Tryz.prog 3 #[v, v1, v2] w (akB w) := by
 obtain ⟨n, rfl, _⟩ := hn
 obtain ⟨x, y, rfl⟩ := hp
 cases hg : great.wE D with
 | true => exact ad2 h hg
 | false =>
  obtain ⟨l, e, ha, hb⟩ := aaV h kt n
  obtain ⟨m, i, hc, hd⟩ := aeT h x y
  exact ahV h hg ⟨ha, hb, hc, hd⟩
end Go.Proofs.YtglmonlofejcgaaGreatDoor.txt
